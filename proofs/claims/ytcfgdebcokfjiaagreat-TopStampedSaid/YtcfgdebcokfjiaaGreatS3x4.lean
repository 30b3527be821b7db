import Derived.Test.YtcfgdebcokfjiaaGreatS3x3
import Derived.Test.YtcfgdebcokfjiaaGreatProg
import Derived.Sort.LotD5
import Derived.Sort.LotD3
import Derived.Sort.LotD4
import Derived.Sort.LotA
import Derived.Sort.LotB
import Derived.Sort.LotC
import Derived.Sort.AssemblyPlain
set_option maxRecDepth 100000
set_option linter.unusedVariables false
set_option linter.unusedSimpArgs false
set_option linter.unusedSectionVars false
open Go.IntKind renaming i64→zzi, u64→zzu
open Inhabited renaming default→zzd
open Option renaming bind_some→zz0
open Array renaming length_toList→zz2
open List renaming mem_cons_self→zz5, mem_cons_of_mem→zz8, length_set→zza, length_append→zze, mem_singleton→zzf, length_cons→zzg, mem_append→zzh
open Nat renaming zero_add→zz6, le_refl→zz9, le_of_ble_eq_true→zzc
open Int renaming toNat_natCast→zz7
namespace Go.Av
open Go Go.Proofs
theorem z63 {fuel:Nat}{p1:Int}{p2:Int}{l0:List Time}{q:List Time}(h:z1f fuel p1 p2 l0=some q):
 Summ Tryz.prog 81 [.c (oC 5000 3 l0),cD (dI p1),cD (dI p2),cD (.fn 32 [])] [(5000,vL 3 z01 l0)] (.tup []) [(5000,vL 3 z01 q)]:=by
 refine Summ.i Tryz.func81 rfl [] fun w0 G0 V LL φ0=>?_;unfold z1f at h;refine Tri.sg [0,1,2,3,8] [5000] (z00 2) ?_;refine Tri.sg [0,1,2,3,8,9] [5000] (z00 1) ?_;refine Tri.sg [0,3,8,9,10] [5000] (z00 4) ?_;refine z02 ?_;refine Tri.sg [0,3,8,9,10,11] [5000] (tN 2 (ai (show((2:Int)≠0)from(by decide:(2:Int)≠0)) (z00 1))) ?_;refine z4v ((zzi.wrap ((zzi.wrap ((zzi.wrap (p2-p1))-1)).tdiv 2)),l0) (fun(x:Empty) s=>False) (fun(a1:Int×(List Time))=>⟨[(0,.c (oC 5000 3 a1.2)),(3,cD (.fn 32 [])),(8,cD (dI p1)),(9,cD (dI 0)),(10,cD (dI (zzi.wrap (p2-p1)))),(11,cD (dI a1.1))],[(5000,vL 3 z01 a1.2)]⟩) [0,3,8,9,10,11] [5000] h ?_ ?_ ?_
 ·intro a1 c h;refine z02 ?_;refine Tri.sg [0,3,8,9,10,11,21] [5000] (z00 2) ?_;refine z06 h (fun h=>?_) (fun h=>?_)
  ·refine Tri.skip ?_;refine z02 ?_;refine z0y ?_;refine z05 ?_;refine At.sg 5 [0,3,8,9,10,11,24,25,26,27,28] [5000] (z00 5) ?_;obtain⟨r15,hr15,h⟩:=bind_elim h;refine At.callL (nf:=0) (caps:=[]) (xs:=[.c (oC 5000 3 a1.2),cD (dI a1.1),cD (dI (zzi.wrap (p2-p1))),cD (dI p1),cD (.fn 32 [])]) [(5000,5000)] [0,3,8,9,10,11] [] (s0:=⟨[(0,.c (oC 5000 3 a1.2)),(3,cD (.fn 32 [])),(8,cD (dI p1)),(9,cD (dI 0)),(10,cD (dI (zzi.wrap (p2-p1)))),(11,cD (dI a1.1))],[]⟩) (z3l hr15) rfl rfl (by kernel_rfl) rfl (by kernel_rfl) (by kernel_rfl) (.ren rfl rfl (.flat (.refl _) rfl rfl (.flat (.refl _) rfl rfl (.flat (.refl _) rfl rfl (.flat (.refl _) rfl rfl .nil))))) ⟨⟨by kernel_rfl,by kernel_rfl⟩,trivial⟩ (by kernel_rfl) (by kernel_rfl) (by kernel_rfl) (by kernel_rfl) (by kernel_rfl) (by kernel_rfl) (by kernel_rfl) (by kernel_rfl) (by kernel_rfl) ⟨[(29,.tup []),(0,.c (oC 5000 3 a1.2)),(3,cD (.fn 32 [])),(8,cD (dI p1)),(9,cD (dI 0)),(10,cD (dI (zzi.wrap (p2-p1)))),(11,cD (dI a1.1))],[(5000,vL 3 z01 r15)]⟩ (by kernel_rfl) ?_;obtain⟨hc16,h⟩:=z03 h;refine At.eqS ⟨[(29,.tup []),(0,.c (oC 5000 3 r15)),(3,cD (.fn 32 [])),(8,cD (dI p1)),(9,cD (dI 0)),(10,cD (dI (zzi.wrap (p2-p1)))),(11,cD (dI a1.1))],[(5000,vL 3 z01 r15)]⟩ (by simp only[oC,vL,hc16]) ?_;refine At.done rfl ?_;refine z05 ?_;refine At.sg 3 [0,3,8,9,10,11] [5000] (z00 3) ?_;refine At.done rfl ?_;cases h;exact kr
  ·refine Tri.kp [0,3,8,9,10,11] [5000] ?_;refine Tri.exit ?_;cases h;exact⟨rfl,kr⟩
 ·intro a2 h;refine Tri.sg [0,3,8,9,12] [5000] (z00 3) ?_;refine Tri.keep [0,3,8,9,12] [5000] (s':=⟨[(0,.c (oC 5000 3 a2.2)),(3,cD (.fn 32 [])),(8,cD (dI p1)),(9,cD (dI 0)),(12,cD (dI (zzi.wrap ((zzi.wrap (p2-p1))-1))))],[(5000,vL 3 z01 a2.2)]⟩) (by kernel_rfl) ?_;refine z5b (fuel:=fuel) (st0:=((zzi.wrap ((zzi.wrap (p2-p1))-1)),a2.2)) (fun(x:Empty) s=>False) (fun(a3:Int×(List Time))=>⟨[(0,.c (oC 5000 3 a3.2)),(3,cD (.fn 32 [])),(8,cD (dI p1)),(9,cD (dI 0)),(12,cD (dI a3.1))],[(5000,vL 3 z01 a3.2)]⟩) (fun(a3:Int×(List Time))=>⟨[],[(5000,vL 3 z01 a3.2)]⟩) h ?_ ?_ ?_
  ·intro a3 c h;refine z02 ?_;refine z22 [0,3,8,9,12,33] [5000] ⟨[(0,.c (oC 5000 3 a3.2)),(3,cD (.fn 32 [])),(8,cD (dI p1)),(9,cD (dI 0)),(12,cD (dI a3.1)),(33,cD (.bool (decide (0≤a3.1))))],[(5000,vL 3 z01 a3.2)]⟩ _ (by kernel_rfl) (z00 2) ?_;refine z06 h (fun h=>?_) (fun h=>?_)
   ·refine Tri.skip ?_;refine z02 ?_;refine z0y ?_;refine z02 ?_;obtain⟨hc5,h⟩:=z03 h;obtain⟨hc6,h⟩:=z03 h;obtain⟨hc7,h⟩:=z03 h;obtain⟨hc8,h⟩:=z03 h;obtain⟨hc9,h⟩:=z03 h;obtain⟨hc10,h⟩:=z03 h;obtain⟨hc11,h⟩:=z03 h;obtain⟨hc12,h⟩:=z03 h;refine z2g ⟨[(0,.c (oC 5000 3 a3.2)),(3,cD (.fn 32 [])),(8,cD (dI p1)),(9,cD (dI 0)),(12,cD (dI a3.1))],[(5000,vL 3 z01 ((a3.2.set (0+p1.toNat) (a3.2.getD (0+(zzi.wrap (p1+a3.1)).toNat) zzd)).set (0+(zzi.wrap (p1+a3.1)).toNat) (a3.2.getD (0+p1.toNat) zzd)))]⟩ ?_ ?_
    ·refine z44 ⟨[(0,.c (oC 5000 3 a3.2)),(3,cD (.fn 32 [])),(8,cD (dI p1)),(9,cD (dI 0)),(12,cD (dI a3.1))],[(5000,vL 3 z01 ((a3.2.set (0+p1.toNat) (a3.2.getD (0+(zzi.wrap (p1+a3.1)).toNat) zzd)).set (0+(zzi.wrap (p1+a3.1)).toNat) (a3.2.getD (0+p1.toNat) zzd)))]⟩ [.a [0] [],.a [8] [],.a [0] [],.a [8] [],.a [12] [],.a [39,40] [],.a [0] [],.a [8] [],.a [12] [],.a [43,44] [],.a [42,45] [5000],.a [46] [5000],.a [0] [],.a [8] [],.a [48,49] [5000],.a [50] [5000],.a [36,37] [5000],.m ⟨[(47,.agg (cTime (a3.2.getD (0+(zzi.wrap (p1+a3.1)).toNat) zzd))),(52,.c (.vptr 5000 3 (0+p1.toNat) 0))],[(5000,vL 3 z01 a3.2)]⟩ ⟨[],[(5000,vL 3 z01 (a3.2.set (0+p1.toNat) (a3.2.getD (0+(zzi.wrap (p1+a3.1)).toNat) zzd)))]⟩ [] [] [],.a [38,41] [5000],.m ⟨[(51,.agg (cTime (a3.2.getD (0+p1.toNat) zzd))),(53,.c (.vptr 5000 3 (0+(zzi.wrap (p1+a3.1)).toNat) 0))],[(5000,vL 3 z01 (a3.2.set (0+p1.toNat) (a3.2.getD (0+(zzi.wrap (p1+a3.1)).toNat) zzd)))]⟩ ⟨[],[(5000,vL 3 z01 ((a3.2.set (0+p1.toNat) (a3.2.getD (0+(zzi.wrap (p1+a3.1)).toNat) zzd)).set (0+(zzi.wrap (p1+a3.1)).toNat) (a3.2.getD (0+p1.toNat) zzd)))]⟩ [] [] []] [0,3,8,9,12] [5000] (tN 10 (ai hc5 (ai hc6 (tN 2 (ai hc7 (ai hc8 (ai hc9 (ai hc11 trivial)))))))) (.a (.a (.a (.a (.a (.a (.a (.a (.a (.a (.a (.a (.a (.a (.a (.a (.a (.m ?_ (.a (.m ?_ .z)))))))))))))))))))) ?_
     ·exact DOk.one fun r hr=>z0p (xs:=[.d (dU ((a3.2.getD (0+(zzi.wrap (p1+a3.1)).toNat) zzd).epoch)),.d (dU ((a3.2.getD (0+(zzi.wrap (p1+a3.1)).toNat) zzd).loop.1)),.d (dU ((a3.2.getD (0+(zzi.wrap (p1+a3.1)).toNat) zzd).loop.2))]) (ds:=[dU ((a3.2.getD (0+(zzi.wrap (p1+a3.1)).toNat) zzd).epoch),dU ((a3.2.getD (0+(zzi.wrap (p1+a3.1)).toNat) zzd).loop.1),dU ((a3.2.getD (0+(zzi.wrap (p1+a3.1)).toNat) zzd).loop.2)]) (z01) a3.2 (a3.2.getD (0+(zzi.wrap (p1+a3.1)).toNat) zzd) rfl (by kernel_rfl) rfl rfl rfl hc10 rfl rfl (.refl _) rfl rfl rfl rfl
     ·exact DOk.one fun r hr=>z0p (xs:=[.d (dU ((a3.2.getD (0+p1.toNat) zzd).epoch)),.d (dU ((a3.2.getD (0+p1.toNat) zzd).loop.1)),.d (dU ((a3.2.getD (0+p1.toNat) zzd).loop.2))]) (ds:=[dU ((a3.2.getD (0+p1.toNat) zzd).epoch),dU ((a3.2.getD (0+p1.toNat) zzd).loop.1),dU ((a3.2.getD (0+p1.toNat) zzd).loop.2)]) (z01) (a3.2.set (0+p1.toNat) (a3.2.getD (0+(zzi.wrap (p1+a3.1)).toNat) zzd)) (a3.2.getD (0+p1.toNat) zzd) rfl (by kernel_rfl) rfl rfl rfl hc12 rfl rfl (.refl _) rfl rfl rfl rfl
     exact⟨rfl,rfl⟩
    ·refine At.eqS (s':=⟨[(0,.c (oC 5000 3 ((a3.2.set (0+p1.toNat) (a3.2.getD (0+(zzi.wrap (p1+a3.1)).toNat) zzd)).set (0+(zzi.wrap (p1+a3.1)).toNat) (a3.2.getD (0+p1.toNat) zzd)))),(3,cD (.fn 32 [])),(8,cD (dI p1)),(9,cD (dI 0)),(12,cD (dI a3.1))],[(5000,vL 3 z01 ((a3.2.set (0+p1.toNat) (a3.2.getD (0+(zzi.wrap (p1+a3.1)).toNat) zzd)).set (0+(zzi.wrap (p1+a3.1)).toNat) (a3.2.getD (0+p1.toNat) zzd)))]⟩) (by simp only[oC,vL,zza]) ?_;refine At.done rfl ?_;refine z05 ?_;refine At.sg 5 [0,3,8,9,12,54,55,56,57,58] [5000] (z00 5) ?_;obtain⟨r13,hr13,h⟩:=bind_elim h;refine At.callL (nf:=0) (caps:=[]) (xs:=[.c (oC 5000 3 ((a3.2.set (0+p1.toNat) (a3.2.getD (0+(zzi.wrap (p1+a3.1)).toNat) zzd)).set (0+(zzi.wrap (p1+a3.1)).toNat) (a3.2.getD (0+p1.toNat) zzd))),cD (dI 0),cD (dI a3.1),cD (dI p1),cD (.fn 32 [])]) [(5000,5000)] [0,3,8,9,12] [] (s0:=⟨[(0,.c (oC 5000 3 ((a3.2.set (0+p1.toNat) (a3.2.getD (0+(zzi.wrap (p1+a3.1)).toNat) zzd)).set (0+(zzi.wrap (p1+a3.1)).toNat) (a3.2.getD (0+p1.toNat) zzd)))),(3,cD (.fn 32 [])),(8,cD (dI p1)),(9,cD (dI 0)),(12,cD (dI a3.1))],[]⟩) (z3l hr13) rfl rfl (by kernel_rfl) rfl (by kernel_rfl) (by kernel_rfl) (.ren rfl rfl (.flat (.refl _) rfl rfl (.flat (.refl _) rfl rfl (.flat (.refl _) rfl rfl (.flat (.refl _) rfl rfl .nil))))) ⟨⟨by kernel_rfl,by kernel_rfl⟩,trivial⟩ (by kernel_rfl) (by kernel_rfl) (by kernel_rfl) (by kernel_rfl) (by kernel_rfl) (by kernel_rfl) (by kernel_rfl) (by kernel_rfl) (by kernel_rfl) ⟨[(59,.tup []),(0,.c (oC 5000 3 ((a3.2.set (0+p1.toNat) (a3.2.getD (0+(zzi.wrap (p1+a3.1)).toNat) zzd)).set (0+(zzi.wrap (p1+a3.1)).toNat) (a3.2.getD (0+p1.toNat) zzd)))),(3,cD (.fn 32 [])),(8,cD (dI p1)),(9,cD (dI 0)),(12,cD (dI a3.1))],[(5000,vL 3 z01 r13)]⟩ (by kernel_rfl) ?_;obtain⟨hc14,h⟩:=z03 h;refine At.eqS ⟨[(59,.tup []),(0,.c (oC 5000 3 r13)),(3,cD (.fn 32 [])),(8,cD (dI p1)),(9,cD (dI 0)),(12,cD (dI a3.1))],[(5000,vL 3 z01 r13)]⟩ (by simp only[oC,vL,hc14]) ?_;refine At.done rfl ?_;refine z05 ?_;refine At.sg 3 [0,3,8,9,12] [5000] (z00 3) ?_;refine At.done rfl ?_;cases h;exact kr
   ·refine Tri.kp [] [5000] ?_;refine Tri.exit ?_;cases h;exact⟨rfl,kr⟩
  ·intro a4 h;cases h;exact RetAt.k
  ·exact fun x=>x.elim
 ·exact fun x=>x.elim
theorem z2b {p0:List Time}{p1:Int}{p2:Int}{l0:Int}{q:Int×Int×Int}(h:z18 p0 p1 p2 l0=some q):
 Summ Tryz.prog 109 [.c (wC 3 z01 p0),cD (dI p1),cD (dI p2),.c (.ptr 5000 0),cD (.fn 32 [])] [(5000,.box [.d (dI l0)])] (.tup [(false,[.d (dI q.1)]),(false,[.d (dI q.2.1)])]) [(5000,.box [.d (dI q.2.2)])]:=by
 refine Summ.i Tryz.func109 rfl [] fun w0 G0 V LL φ0=>?_;unfold z18 at h;refine Tri.sg [0,1,2,3,4] [5000] (z00 2) ?_;refine z02 ?_;refine z02 ?_;obtain⟨hc1,h⟩:=z03 h;obtain⟨hc2,h⟩:=z03 h;obtain⟨r3,hr3,h⟩:=bind_elim h;refine z0u [.a [4] [],.a [0] [],.a [2] [],.a [13,14] [],.a [15] [],.a [0] [],.a [1] [],.a [17,18] [],.a [19] [],.m ⟨[(12,cD (.fn 32 [])),(16,.agg (cTime (p0.getD p2.toNat zzd))),(20,.agg (cTime (p0.getD p1.toNat zzd)))],[]⟩ ⟨[(21,cD (dI r3))],[]⟩ [] [] [],.a [21] []] [1,2,3,22] [5000] (tN 3 (ai hc1 (tN 3 (ai hc2 (z00 2))))) (.a (.a (.a (.a (.a (.a (.a (.a (.a (.m ?_ (.a .z))))))))))) ?_
 ·exact DOk.cA [] [.agg (cTime (p0.getD p2.toNat zzd)),.agg (cTime (p0.getD p1.toNat zzd))] (z1k hr3) fun r=>(.cons (.refl _) (.cons (.refl _) .nil))
 refine z06 h (fun h=>?_) (fun h=>?_)
 ·refine Tri.sg [1,2] [5000] (z00 6) ?_;refine Tri.sg [10,11] [5000] (z00 4) ?_;refine Tri.ret ?_;cases h;exact RetAt.k
 ·refine Tri.skip ?_;refine Tri.sg [10,11] [5000] (z00 4) ?_;refine Tri.ret ?_;cases h;exact RetAt.k
theorem z3h {p0:List Time}{p1:Int}{p2:Int}{p3:Int}{l0:Int}{q:Int×Int}(h:z17 p0 p1 p2 p3 l0=some q):
 Summ Tryz.prog 104 [.c (wC 3 z01 p0),cD (dI p1),cD (dI p2),cD (dI p3),.c (.ptr 5000 0),cD (.fn 32 [])] [(5000,.box [.d (dI l0)])] (cD (dI q.1)) [(5000,.box [.d (dI q.2)])]:=by
 refine Summ.i Tryz.func104 rfl [] fun w0 G0 V LL φ0=>?_;unfold z17 at h;refine Tri.sg [0,1,2,3,4,5] [5000] (z00 1) ?_;refine z02 ?_;refine z05 ?_;refine At.sg 5 [0,3,4,5,14,15,16,17,18] [5000] (z00 5) ?_;obtain⟨r1,hr1,h⟩:=bind_elim h;refine z25 0 [] [.c (wC 3 z01 p0),cD (dI p1),cD (dI p2),.c (.ptr 5000 0),cD (.fn 32 [])] [(5000,5000)] [0,3,4,5] [] (z2b hr1) (.flat (.refl _) rfl rfl (.flat (.refl _) rfl rfl (.flat (.refl _) rfl rfl (.ren rfl rfl (.flat (.refl _) rfl rfl .nil))))) ?_;refine At.sg 5 [0,1,2,3,4,5] [5000] (z00 5) ?_;refine At.done rfl ?_;refine z02 ?_;refine z05 ?_;refine At.sg 5 [0,1,4,5,23,24,25,26,27] [5000] (z00 5) ?_;obtain⟨r2,hr2,h⟩:=bind_elim h;refine z25 0 [] [.c (wC 3 z01 p0),cD (dI r1.2.1),cD (dI p3),.c (.ptr 5000 0),cD (.fn 32 [])] [(5000,5000)] [0,1,4,5] [] (z2b hr2) (.flat (.refl _) rfl rfl (.flat (.refl _) rfl rfl (.flat (.refl _) rfl rfl (.ren rfl rfl (.flat (.refl _) rfl rfl .nil))))) ?_;refine At.sg 5 [0,1,2,4,5] [5000] (z00 5) ?_;refine At.done rfl ?_;refine z02 ?_;refine z05 ?_;refine At.sg 5 [32,33,34,35,36] [5000] (z00 5) ?_;obtain⟨r3,hr3,h⟩:=bind_elim h;refine z25 0 [] [.c (wC 3 z01 p0),cD (dI r1.1),cD (dI r2.1),.c (.ptr 5000 0),cD (.fn 32 [])] [(5000,5000)] [] [] (z2b hr3) (.flat (.refl _) rfl rfl (.flat (.refl _) rfl rfl (.flat (.refl _) rfl rfl (.ren rfl rfl (.flat (.refl _) rfl rfl .nil))))) ?_;refine At.sg 5 [2] [5000] (z00 5) ?_;refine At.done rfl ?_;refine Tri.sg [12] [5000] (z00 2) ?_;refine Tri.ret ?_;cases h;exact RetAt.k
theorem z1y {p0:List Time}{p1:Int}{l0:Int}{q:Int×Int}(h:z0c p0 p1 l0=some q):
 Summ Tryz.prog 103 [.c (wC 3 z01 p0),cD (dI p1),.c (.ptr 5000 0),cD (.fn 32 [])] [(5000,.box [.d (dI l0)])] (cD (dI q.1)) [(5000,.box [.d (dI q.2)])]:=by
 refine Summ.i Tryz.func103 rfl [] fun w0 G0 V LL φ0=>?_;unfold z0c at h;refine Tri.sg [0,1,2,3] [5000] (z00 1) ?_;refine z02 ?_;refine z05 ?_;refine At.sg 8 [9,11,12,14,15,16] [5000] (z00 8) ?_;obtain⟨r1,hr1,h⟩:=bind_elim h;refine z25 0 [] [.c (wC 3 z01 p0),cD (dI (zzi.wrap (p1-1))),cD (dI p1),cD (dI (zzi.wrap (p1+1))),.c (.ptr 5000 0),cD (.fn 32 [])] [(5000,5000)] [] [] (z3h hr1) (.flat (.refl _) rfl rfl (.flat (.refl _) rfl rfl (.flat (.refl _) rfl rfl (.flat (.refl _) rfl rfl (.ren rfl rfl (.flat (.refl _) rfl rfl .nil)))))) ?_;refine At.sg 1 [8] [5000] (z00 1) ?_;refine At.done rfl ?_;refine Tri.ret ?_;cases h;exact RetAt.k
theorem z5k {p0:List Time}{p1:Int}{p2:Int}{q:Int×Int}(h:z1c p0 p1 p2=some q):
 Summ Tryz.prog 83 [.c (wC 3 z01 p0),cD (dI p1),cD (dI p2),cD (.fn 32 [])] [] (.tup [(false,[.d (dI q.1)]),(false,[.d (dI q.2)])]) []:=by
 refine Summ.i Tryz.func83 rfl [] fun w0 G0 V LL φ0=>?_;unfold z1c at h;refine Tri.sg [0,1,2,3] [] (z00 2) ?_;refine Tri.sg [0,1,3,10] [] (z00 4) ?_;refine Tri.sg [0,1,3,10,11] [11] (z00 1) ?_;refine Tri.sg [0,1,3,10,11,12] [11] (tN 2 (ai (show((4:Int)≠0)from(by decide:(4:Int)≠0)) (z00 3))) ?_;refine Tri.sg [0,1,3,10,11,12,13] [11] (tN 2 (ai (show((4:Int)≠0)from(by decide:(4:Int)≠0)) (z00 3))) ?_;refine Tri.sg [0,3,10,11,12,13,14] [11] (tN 2 (ai (show((4:Int)≠0)from(by decide:(4:Int)≠0)) (z00 3))) ?_;refine z0f (fun(a1:Int×Int)=>⟨[(11,.c (.ptr 11 0)),(13,cD (dI a1.1))],[(11,.box [.d (dI a1.2)])]⟩) h (fun a1 h=>?_) (fun j2 h=>?_)
 ·refine Tri.sg [13,55] [] (z00 1) ?_;refine z0y ?_;refine Tri.sg [13,55,57] [] (z00 2) ?_;refine z06 h (fun h=>?_) (fun h=>?_)
  ·refine Tri.sg [8,9] [] (z00 3) ?_;refine Tri.ret ?_;cases h;exact RetAt.k
  ·refine Tri.sg [13,60] [] (z00 2) ?_;refine z06 h (fun h=>?_) (fun h=>?_)
   ·refine Tri.sg [8,9] [] (z00 3) ?_;refine Tri.ret ?_;cases h;exact RetAt.k
   ·refine Tri.sg [8,9] [] (z00 3) ?_;refine Tri.ret ?_;cases h;exact RetAt.k
 ·refine Tri.sg [0,3,10,11,12,13,14,34] [11] (z00 2) ?_;refine z06 h (fun h=>?_) (fun h=>?_)
  ·refine z0f (fun(a3:Int×Int×Int×Int)=>⟨[(0,.c (wC 3 z01 p0)),(3,cD (.fn 32 [])),(11,.c (.ptr 11 0)),(12,cD (dI a3.1)),(13,cD (dI a3.2.1)),(14,cD (dI a3.2.2.1))],[(11,.box [.d (dI a3.2.2.2)])]⟩) h (fun a3 h=>?_) (fun j4 h=>?_)
   ·refine z05 ?_;refine At.sg 5 [11,49,50,51,52,53] [11] (z00 5) ?_;obtain⟨r5,hr5,h⟩:=bind_elim h;refine z25 0 [] [.c (wC 3 z01 p0),cD (dI a3.1),cD (dI a3.2.1),cD (dI a3.2.2.1),.c (.ptr 11 0),cD (.fn 32 [])] [(5000,11)] [11] [] (z3h hr5) (.flat (.refl _) rfl rfl (.flat (.refl _) rfl rfl (.flat (.refl _) rfl rfl (.flat (.refl _) rfl rfl (.ren rfl rfl (.flat (.refl _) rfl rfl .nil)))))) ?_;refine At.sg 1 [11,13] [11] (z00 1) ?_;refine At.done rfl ?_;exact⟨_,h,kr⟩
   ·refine Tri.sg [0,3,11,12,13,14,36] [11] (z00 2) ?_;refine z06 h (fun h=>?_) (fun h=>?_)
    ·refine z02 ?_;refine z05 ?_;refine At.sg 3 [0,3,11,13,14,37,38,39] [11] (z00 3) ?_;obtain⟨r6,hr6,h⟩:=bind_elim h;refine z25 0 [] [.c (wC 3 z01 p0),cD (dI (zzi.wrap (p1+(zzi.wrap ((zzi.wrap ((zzi.wrap (p2-p1)).tdiv 4))*1))))),.c (.ptr 11 0),cD (.fn 32 [])] [(5000,11)] [0,3,11,13,14] [] (z1y hr6) (.flat (.refl _) rfl rfl (.flat (.refl _) rfl rfl (.ren rfl rfl (.flat (.refl _) rfl rfl .nil)))) ?_;refine At.sg 1 [0,3,11,12,13,14] [11] (z00 1) ?_;refine At.done rfl ?_;refine z02 ?_;refine z05 ?_;refine At.sg 3 [0,3,11,12,14,41,42,43] [11] (z00 3) ?_;obtain⟨r7,hr7,h⟩:=bind_elim h;refine z25 0 [] [.c (wC 3 z01 p0),cD (dI (zzi.wrap (p1+(zzi.wrap ((zzi.wrap ((zzi.wrap (p2-p1)).tdiv 4))*2))))),.c (.ptr 11 0),cD (.fn 32 [])] [(5000,11)] [0,3,11,12,14] [] (z1y hr7) (.flat (.refl _) rfl rfl (.flat (.refl _) rfl rfl (.ren rfl rfl (.flat (.refl _) rfl rfl .nil)))) ?_;refine At.sg 1 [0,3,11,12,13,14] [11] (z00 1) ?_;refine At.done rfl ?_;refine z05 ?_;refine At.sg 3 [0,3,11,12,13,45,46,47] [11] (z00 3) ?_;obtain⟨r8,hr8,h⟩:=bind_elim h;refine z25 0 [] [.c (wC 3 z01 p0),cD (dI (zzi.wrap (p1+(zzi.wrap ((zzi.wrap ((zzi.wrap (p2-p1)).tdiv 4))*3))))),.c (.ptr 11 0),cD (.fn 32 [])] [(5000,11)] [0,3,11,12,13] [] (z1y hr8) (.flat (.refl _) rfl rfl (.flat (.refl _) rfl rfl (.ren rfl rfl (.flat (.refl _) rfl rfl .nil)))) ?_;refine At.sg 1 [0,3,11,12,13,14] [11] (z00 1) ?_;refine At.done rfl ?_;exact⟨_,h,kr⟩
    ·refine Tri.kp [0,3,11,12,13,14] [11] ?_;refine Tri.skip ?_;exact⟨_,h,kr⟩
  ·refine Tri.kp [11,13] [11] ?_;refine Tri.skip ?_;exact⟨_,h,kr⟩
theorem z5l {fuel:Nat}{p1:Int}{p2:Int}{l0:List Time}{q:List Time}(h:z16 fuel p1 p2 l0=some q):
 Summ Tryz.prog 84 [.c (oC 5000 3 l0),cD (dI p1),cD (dI p2),cD (.fn 32 [])] [(5000,vL 3 z01 l0)] (.tup []) [(5000,vL 3 z01 q)]:=by
 refine Summ.i Tryz.func84 rfl [] fun w0 G0 V LL φ0=>?_;unfold z16 at h;refine Tri.sg [0,2,8] [5000] (z00 2) ?_;refine Tri.sg [0,8,9] [5000] (z00 3) ?_;refine Tri.keep [0,8,9] [5000] (s':=⟨[(0,.c (oC 5000 3 l0)),(8,cD (dI p1)),(9,cD (dI (zzi.wrap (p2-1))))],[(5000,vL 3 z01 l0)]⟩) (by kernel_rfl) ?_;refine z5b (fuel:=fuel) (st0:=(p1,(zzi.wrap (p2-1)),l0)) (fun(x:Empty) s=>False) (fun(a1:Int×Int×(List Time))=>⟨[(0,.c (oC 5000 3 a1.2.2)),(8,cD (dI a1.1)),(9,cD (dI a1.2.1))],[(5000,vL 3 z01 a1.2.2)]⟩) (fun(a1:Int×Int×(List Time))=>⟨[],[(5000,vL 3 z01 a1.2.2)]⟩) h ?_ ?_ ?_
 ·intro a1 c h;refine z02 ?_;refine z22 [0,8,9,15] [5000] ⟨[(0,.c (oC 5000 3 a1.2.2)),(8,cD (dI a1.1)),(9,cD (dI a1.2.1)),(15,cD (.bool (decide (a1.1<a1.2.1))))],[(5000,vL 3 z01 a1.2.2)]⟩ _ (by kernel_rfl) (z00 3) ?_;refine z06 h (fun h=>?_) (fun h=>?_)
  ·refine Tri.skip ?_;refine z0y ?_;refine z02 ?_;obtain⟨hc3,h⟩:=z03 h;obtain⟨hc4,h⟩:=z03 h;obtain⟨hc5,h⟩:=z03 h;obtain⟨hc6,h⟩:=z03 h;obtain⟨hc7,h⟩:=z03 h;obtain⟨hc8,h⟩:=z03 h;obtain⟨hc9,h⟩:=z03 h;obtain⟨hc10,h⟩:=z03 h;refine z2g ⟨[(0,.c (oC 5000 3 a1.2.2)),(8,cD (dI a1.1)),(9,cD (dI a1.2.1))],[(5000,vL 3 z01 ((a1.2.2.set (0+a1.1.toNat) (a1.2.2.getD (0+a1.2.1.toNat) zzd)).set (0+a1.2.1.toNat) (a1.2.2.getD (0+a1.1.toNat) zzd)))]⟩ ?_ ?_
   ·refine z44 ⟨[(0,.c (oC 5000 3 a1.2.2)),(8,cD (dI a1.1)),(9,cD (dI a1.2.1))],[(5000,vL 3 z01 ((a1.2.2.set (0+a1.1.toNat) (a1.2.2.getD (0+a1.2.1.toNat) zzd)).set (0+a1.2.1.toNat) (a1.2.2.getD (0+a1.1.toNat) zzd)))]⟩ [.a [0] [],.a [8] [],.a [0] [],.a [9] [],.a [0] [],.a [9] [],.a [20,21] [5000],.a [22] [5000],.a [0] [],.a [8] [],.a [24,25] [5000],.a [26] [5000],.a [16,17] [5000],.m ⟨[(23,.agg (cTime (a1.2.2.getD (0+a1.2.1.toNat) zzd))),(28,.c (.vptr 5000 3 (0+a1.1.toNat) 0))],[(5000,vL 3 z01 a1.2.2)]⟩ ⟨[],[(5000,vL 3 z01 (a1.2.2.set (0+a1.1.toNat) (a1.2.2.getD (0+a1.2.1.toNat) zzd)))]⟩ [] [] [],.a [18,19] [5000],.m ⟨[(27,.agg (cTime (a1.2.2.getD (0+a1.1.toNat) zzd))),(29,.c (.vptr 5000 3 (0+a1.2.1.toNat) 0))],[(5000,vL 3 z01 (a1.2.2.set (0+a1.1.toNat) (a1.2.2.getD (0+a1.2.1.toNat) zzd)))]⟩ ⟨[],[(5000,vL 3 z01 ((a1.2.2.set (0+a1.1.toNat) (a1.2.2.getD (0+a1.2.1.toNat) zzd)).set (0+a1.2.1.toNat) (a1.2.2.getD (0+a1.1.toNat) zzd)))]⟩ [] [] []] [0,8,9] [5000] (tN 6 (ai hc3 (ai hc4 (tN 2 (ai hc5 (ai hc6 (ai hc7 (ai hc9 trivial)))))))) (.a (.a (.a (.a (.a (.a (.a (.a (.a (.a (.a (.a (.a (.m ?_ (.a (.m ?_ .z)))))))))))))))) ?_
    ·exact DOk.one fun r hr=>z0p (xs:=[.d (dU ((a1.2.2.getD (0+a1.2.1.toNat) zzd).epoch)),.d (dU ((a1.2.2.getD (0+a1.2.1.toNat) zzd).loop.1)),.d (dU ((a1.2.2.getD (0+a1.2.1.toNat) zzd).loop.2))]) (ds:=[dU ((a1.2.2.getD (0+a1.2.1.toNat) zzd).epoch),dU ((a1.2.2.getD (0+a1.2.1.toNat) zzd).loop.1),dU ((a1.2.2.getD (0+a1.2.1.toNat) zzd).loop.2)]) (z01) a1.2.2 (a1.2.2.getD (0+a1.2.1.toNat) zzd) rfl (by kernel_rfl) rfl rfl rfl hc8 rfl rfl (.refl _) rfl rfl rfl rfl
    ·exact DOk.one fun r hr=>z0p (xs:=[.d (dU ((a1.2.2.getD (0+a1.1.toNat) zzd).epoch)),.d (dU ((a1.2.2.getD (0+a1.1.toNat) zzd).loop.1)),.d (dU ((a1.2.2.getD (0+a1.1.toNat) zzd).loop.2))]) (ds:=[dU ((a1.2.2.getD (0+a1.1.toNat) zzd).epoch),dU ((a1.2.2.getD (0+a1.1.toNat) zzd).loop.1),dU ((a1.2.2.getD (0+a1.1.toNat) zzd).loop.2)]) (z01) (a1.2.2.set (0+a1.1.toNat) (a1.2.2.getD (0+a1.2.1.toNat) zzd)) (a1.2.2.getD (0+a1.1.toNat) zzd) rfl (by kernel_rfl) rfl rfl rfl hc10 rfl rfl (.refl _) rfl rfl rfl rfl
    exact⟨rfl,rfl⟩
   ·refine At.eqS (s':=⟨[(0,.c (oC 5000 3 ((a1.2.2.set (0+a1.1.toNat) (a1.2.2.getD (0+a1.2.1.toNat) zzd)).set (0+a1.2.1.toNat) (a1.2.2.getD (0+a1.1.toNat) zzd)))),(8,cD (dI a1.1)),(9,cD (dI a1.2.1))],[(5000,vL 3 z01 ((a1.2.2.set (0+a1.1.toNat) (a1.2.2.getD (0+a1.2.1.toNat) zzd)).set (0+a1.2.1.toNat) (a1.2.2.getD (0+a1.1.toNat) zzd)))]⟩) (by simp only[oC,vL,zza]) ?_;refine At.done rfl ?_;refine Tri.sg [0,8,9] [5000] (z00 3) ?_;refine z05 ?_;refine At.sg 3 [0,8,9] [5000] (z00 3) ?_;refine At.done rfl ?_;cases h;exact kr
  ·refine Tri.kp [] [5000] ?_;refine Tri.exit ?_;cases h;exact⟨rfl,kr⟩
 ·intro a2 h;cases h;exact RetAt.k
 ·exact fun x=>x.elim
theorem z4h {fuel:Nat}{p1:Int}{p2:Int}{l0:List Time}{q:Bool×(List Time)}(h:z0h fuel p1 p2 l0=some q):
 Summ Tryz.prog 85 [.c (oC 5000 3 l0),cD (dI p1),cD (dI p2),cD (.fn 32 [])] [(5000,vL 3 z01 l0)] (cD (.bool q.1)) [(5000,vL 3 z01 q.2)]:=by
 refine Summ.i Tryz.func85 rfl [] fun w0 G0 V LL φ0=>?_;unfold z0h at h;refine Tri.sg [0,1,2,3] [5000] (z00 1) ?_;refine Tri.sg [0,1,2,3,9] [5000] (z00 3) ?_;refine z02 ?_;refine Tri.sg [0,1,2,3,9,10] [5000] (z00 1) ?_;refine z4v ((zzi.wrap (p1+1)),0,l0) (fun(x:Bool×(List Time)) s=>RetAt Tryz.prog Tryz.f85 (cD (.bool x.1)) [(5000,vL 3 z01 x.2)] s) (fun(a1:Int×Int×(List Time))=>⟨[(0,.c (oC 5000 3 a1.2.2)),(1,cD (dI p1)),(2,cD (dI p2)),(3,cD (.fn 32 [])),(9,cD (dI a1.1)),(10,cD (dI a1.2.1))],[(5000,vL 3 z01 a1.2.2)]⟩) [0,1,2,3,9,10] [5000] h ?_ ?_ ?_
 ·intro a1 c h;refine z02 ?_;refine Tri.sg [0,1,2,3,9,10,16] [5000] (z00 2) ?_;refine z06 h (fun h=>?_) (fun h=>?_)
  ·refine Tri.skip ?_;refine z0f (fun(a3:Int×(List Time))=>⟨[(0,.c (oC 5000 3 a3.2)),(1,cD (dI p1)),(2,cD (dI p2)),(3,cD (.fn 32 [])),(9,cD (dI a3.1)),(10,cD (dI a1.2.1))],[(5000,vL 3 z01 a3.2)]⟩) h (fun a3 h=>?_) (fun j4 h=>?_)
   ·refine z05 ?_;refine At.sg 3 [0,1,2,3,9,10] [5000] (z00 3) ?_;refine At.done rfl ?_;cases h;exact kr
   ·refine z0y ?_;refine z02 ?_;refine z4v (a1.1) (fun(x:Empty) s=>False) (fun(a5:Int)=>⟨[(0,.c (oC 5000 3 a1.2.2)),(1,cD (dI p1)),(2,cD (dI p2)),(3,cD (.fn 32 [])),(9,cD (dI a5)),(10,cD (dI a1.2.1))],[(5000,vL 3 z01 a1.2.2)]⟩) [0,1,2,3,9,10] [5000] h ?_ ?_ ?_
    ·intro a5 c h;refine Tri.eqS ⟨[(0,.c (oC 5000 3 a1.2.2)),(1,cD (dI p1)),(2,cD (dI p2)),(3,cD (.fn 32 [])),(9,cD (dI a5)),(10,cD (dI a1.2.1))],[(5000,vL 3 z01 a1.2.2)]⟩ kr ?_;refine z02 ?_;refine z0f (fun(a47:Bool)=>⟨[(0,.c (oC 5000 3 a1.2.2)),(1,cD (dI p1)),(2,cD (dI p2)),(3,cD (.fn 32 [])),(9,cD (dI a5)),(10,cD (dI a1.2.1)),(36,cD (.bool a47))],[(5000,vL 3 z01 a1.2.2)]⟩) h (fun a47 h=>?_) (fun j48 h=>?_)
     ·refine z06 h (fun h=>?_) (fun h=>?_)
      ·refine Tri.skip ?_;refine z0y ?_;refine z05 ?_;refine At.sg 3 [0,1,2,3,9,10] [5000] (z00 3) ?_;refine At.done rfl ?_;cases h;exact kr
      ·refine Tri.kp [0,1,2,3,9,10] [5000] ?_;refine Tri.exit ?_;cases h;exact⟨rfl,kr⟩
     ·rcases z2m h with⟨hp49,h⟩|⟨hp49,h⟩
      ·obtain⟨hc50,h⟩:=z03 h;obtain⟨hc51,h⟩:=z03 h;obtain⟨hc52,h⟩:=z03 h;obtain⟨hc53,h⟩:=z03 h;obtain⟨r54,hr54,h⟩:=bind_elim h;refine z0u [.a [9] [],.a [2] [],.a [19,20] [],.m ⟨[(21,cD (.bool (decide (a5<p2))))],[]⟩ ⟨[(22,.c (.d (.bool true)))],[]⟩ [] [] [],.a [3,22] [],.a [0,22] [],.a [9,22] [],.a [22,24,25] [5000],.a [22,26] [5000],.a [0,22] [],.a [9,22] [],.a [22,29] [],.a [22,28,30] [5000],.a [22,31] [5000],.m ⟨[(22,cD (.bool true)),(23,cD (.fn 32 [])),(27,.agg (cTime (a1.2.2.getD (0+a5.toNat) zzd))),(32,.agg (cTime (a1.2.2.getD (0+(zzi.wrap (a5-1)).toNat) zzd)))],[]⟩ ⟨[(33,cD (dI r54))],[]⟩ [] [] [],.a [22,33] [],.a [22,34] [],.a [22,35] []] [0,1,2,3,9,10,36] [5000] (tN 6 (ai hc50 (ai hc51 (tN 3 (ai hc52 (ai hc53 (z00 3))))))) (.a (.a (.a (.m ?_ (.a (.a (.a (.a (.a (.a (.a (.a (.a (.a (.m ?_ (.a (.a (.a .z)))))))))))))))))) ?_
       ·exact z0l (fun b=> .val (.c (.d (.bool b))) (True)) (p:=(decide (a5<p2))) hp49 (fun r=>by kernel_rfl) (fun r=>by kernel_rfl) trivial (by kernel_rfl) (by kernel_rfl) (fun r=>rfl)
       ·exact DOk.cA [] [.agg (cTime (a1.2.2.getD (0+a5.toNat) zzd)),.agg (cTime (a1.2.2.getD (0+(zzi.wrap (a5-1)).toNat) zzd))] (z1k hr54) fun r=>(.cons (.refl _) (.cons (.refl _) .nil))
       exact⟨_,h,kr⟩
      ·refine z0u [.a [9] [],.a [2] [],.a [19,20] [],.m ⟨[(21,cD (.bool (decide (a5<p2))))],[]⟩ ⟨[(22,.c (.d (.bool false)))],[]⟩ [] [] [],.a [3,22] [],.a [0,22] [],.a [9,22] [],.a [22,24,25] [],.a [22,26] [],.a [0,22] [],.a [9,22] [],.a [22,29] [],.a [22,28,30] [],.a [22,31] [],.a [22,23,27,32] [],.a [22,33] [],.a [22,34] [],.a [22,35] []] [0,1,2,3,9,10,36] [5000] (z00 4) (.a (.a (.a (.m ?_ (.a (.a (.a (.a (.a (.a (.a (.a (.a (.a (.a (.a (.a (.a .z)))))))))))))))))) ?_
       ·exact z0l (fun b=> .val (.c (.d (.bool b))) (True)) (p:=(decide (a5<p2))) hp49 (fun r=>by kernel_rfl) (fun r=>by kernel_rfl) trivial (by kernel_rfl) (by kernel_rfl) (fun r=>rfl)
       exact⟨_,h,kr⟩
    ·intro a6 h;refine z02 ?_;refine Tri.sg [0,1,2,3,9,10,41] [5000] (z00 3) ?_;refine z06 h (fun h=>?_) (fun h=>?_)
     ·refine Tri.sg [8] [5000] (z00 1) ?_;refine Tri.ret ?_;cases h;exact RetAt.k
     ·refine Tri.skip ?_;refine z02 ?_;refine z22 [0,1,2,3,9,10,45] [5000] ⟨[(0,.c (oC 5000 3 a1.2.2)),(1,cD (dI p1)),(2,cD (dI p2)),(3,cD (.fn 32 [])),(9,cD (dI a6)),(10,cD (dI a1.2.1)),(45,cD (.bool (decide ((zzi.wrap (p2-p1))<50))))],[(5000,vL 3 z01 a1.2.2)]⟩ _ (by kernel_rfl) (z00 4) ?_;refine z06 h (fun h=>?_) (fun h=>?_)
      ·refine Tri.sg [8] [5000] (z00 1) ?_;refine Tri.ret ?_;cases h;exact RetAt.k
      ·refine Tri.skip ?_;refine z02 ?_;obtain⟨hc7,h⟩:=z03 h;obtain⟨hc8,h⟩:=z03 h;obtain⟨hc9,h⟩:=z03 h;obtain⟨hc10,h⟩:=z03 h;obtain⟨hc11,h⟩:=z03 h;obtain⟨hc12,h⟩:=z03 h;obtain⟨hc13,h⟩:=z03 h;obtain⟨hc14,h⟩:=z03 h;refine z2g ⟨[(0,.c (oC 5000 3 a1.2.2)),(1,cD (dI p1)),(2,cD (dI p2)),(3,cD (.fn 32 [])),(9,cD (dI a6)),(10,cD (dI a1.2.1))],[(5000,vL 3 z01 ((a1.2.2.set (0+a6.toNat) (a1.2.2.getD (0+(zzi.wrap (a6-1)).toNat) zzd)).set (0+(zzi.wrap (a6-1)).toNat) (a1.2.2.getD (0+a6.toNat) zzd)))]⟩ ?_ ?_
       ·refine z44 ⟨[(0,.c (oC 5000 3 a1.2.2)),(1,cD (dI p1)),(2,cD (dI p2)),(3,cD (.fn 32 [])),(9,cD (dI a6)),(10,cD (dI a1.2.1))],[(5000,vL 3 z01 ((a1.2.2.set (0+a6.toNat) (a1.2.2.getD (0+(zzi.wrap (a6-1)).toNat) zzd)).set (0+(zzi.wrap (a6-1)).toNat) (a1.2.2.getD (0+a6.toNat) zzd)))]⟩ [.a [0] [],.a [9] [],.a [0] [],.a [9] [],.a [49] [],.a [0] [],.a [9] [],.a [52] [],.a [51,53] [5000],.a [54] [5000],.a [0] [],.a [9] [],.a [56,57] [5000],.a [58] [5000],.a [46,47] [5000],.m ⟨[(55,.agg (cTime (a1.2.2.getD (0+(zzi.wrap (a6-1)).toNat) zzd))),(60,.c (.vptr 5000 3 (0+a6.toNat) 0))],[(5000,vL 3 z01 a1.2.2)]⟩ ⟨[],[(5000,vL 3 z01 (a1.2.2.set (0+a6.toNat) (a1.2.2.getD (0+(zzi.wrap (a6-1)).toNat) zzd)))]⟩ [] [] [],.a [48,50] [5000],.m ⟨[(59,.agg (cTime (a1.2.2.getD (0+a6.toNat) zzd))),(61,.c (.vptr 5000 3 (0+(zzi.wrap (a6-1)).toNat) 0))],[(5000,vL 3 z01 (a1.2.2.set (0+a6.toNat) (a1.2.2.getD (0+(zzi.wrap (a6-1)).toNat) zzd)))]⟩ ⟨[],[(5000,vL 3 z01 ((a1.2.2.set (0+a6.toNat) (a1.2.2.getD (0+(zzi.wrap (a6-1)).toNat) zzd)).set (0+(zzi.wrap (a6-1)).toNat) (a1.2.2.getD (0+a6.toNat) zzd)))]⟩ [] [] []] [0,1,2,3,9,10] [5000] (tN 8 (ai hc7 (ai hc8 (tN 2 (ai hc9 (ai hc10 (ai hc11 (ai hc13 trivial)))))))) (.a (.a (.a (.a (.a (.a (.a (.a (.a (.a (.a (.a (.a (.a (.a (.m ?_ (.a (.m ?_ .z)))))))))))))))))) ?_
        ·exact DOk.one fun r hr=>z0p (xs:=[.d (dU ((a1.2.2.getD (0+(zzi.wrap (a6-1)).toNat) zzd).epoch)),.d (dU ((a1.2.2.getD (0+(zzi.wrap (a6-1)).toNat) zzd).loop.1)),.d (dU ((a1.2.2.getD (0+(zzi.wrap (a6-1)).toNat) zzd).loop.2))]) (ds:=[dU ((a1.2.2.getD (0+(zzi.wrap (a6-1)).toNat) zzd).epoch),dU ((a1.2.2.getD (0+(zzi.wrap (a6-1)).toNat) zzd).loop.1),dU ((a1.2.2.getD (0+(zzi.wrap (a6-1)).toNat) zzd).loop.2)]) (z01) a1.2.2 (a1.2.2.getD (0+(zzi.wrap (a6-1)).toNat) zzd) rfl (by kernel_rfl) rfl rfl rfl hc12 rfl rfl (.refl _) rfl rfl rfl rfl
        ·exact DOk.one fun r hr=>z0p (xs:=[.d (dU ((a1.2.2.getD (0+a6.toNat) zzd).epoch)),.d (dU ((a1.2.2.getD (0+a6.toNat) zzd).loop.1)),.d (dU ((a1.2.2.getD (0+a6.toNat) zzd).loop.2))]) (ds:=[dU ((a1.2.2.getD (0+a6.toNat) zzd).epoch),dU ((a1.2.2.getD (0+a6.toNat) zzd).loop.1),dU ((a1.2.2.getD (0+a6.toNat) zzd).loop.2)]) (z01) (a1.2.2.set (0+a6.toNat) (a1.2.2.getD (0+(zzi.wrap (a6-1)).toNat) zzd)) (a1.2.2.getD (0+a6.toNat) zzd) rfl (by kernel_rfl) rfl rfl rfl hc14 rfl rfl (.refl _) rfl rfl rfl rfl
        exact⟨rfl,rfl⟩
       ·refine At.eqS (s':=⟨[(0,.c (oC 5000 3 ((a1.2.2.set (0+a6.toNat) (a1.2.2.getD (0+(zzi.wrap (a6-1)).toNat) zzd)).set (0+(zzi.wrap (a6-1)).toNat) (a1.2.2.getD (0+a6.toNat) zzd)))),(1,cD (dI p1)),(2,cD (dI p2)),(3,cD (.fn 32 [])),(9,cD (dI a6)),(10,cD (dI a1.2.1))],[(5000,vL 3 z01 ((a1.2.2.set (0+a6.toNat) (a1.2.2.getD (0+(zzi.wrap (a6-1)).toNat) zzd)).set (0+(zzi.wrap (a6-1)).toNat) (a1.2.2.getD (0+a6.toNat) zzd)))]⟩) (by simp only[oC,vL,zza]) ?_;refine At.done rfl ?_;refine z0f (fun(a15:List Time)=>⟨[(0,.c (oC 5000 3 a15)),(1,cD (dI p1)),(2,cD (dI p2)),(3,cD (.fn 32 [])),(9,cD (dI a6)),(10,cD (dI a1.2.1))],[(5000,vL 3 z01 a15)]⟩) h (fun a15 h=>?_) (fun j16 h=>?_)
        ·refine Tri.sg [0,1,2,3,9,10,104] [5000] (z00 4) ?_;refine z06 h (fun h=>?_) (fun h=>?_)
         ·refine Tri.sg [0,1,2,3,9,10,12] [5000] (z00 3) ?_;refine Tri.keep [0,1,2,3,9,10,12] [5000] (s':=⟨[(0,.c (oC 5000 3 a15)),(1,cD (dI p1)),(2,cD (dI p2)),(3,cD (.fn 32 [])),(9,cD (dI a6)),(10,cD (dI a1.2.1)),(12,cD (dI (zzi.wrap (a6+1))))],[(5000,vL 3 z01 a15)]⟩) (by kernel_rfl) ?_;refine z5b (fuel:=fuel) (st0:=((zzi.wrap (a6+1)),a15)) (fun(x:Empty) s=>False) (fun(a17:Int×(List Time))=>⟨[(0,.c (oC 5000 3 a17.2)),(1,cD (dI p1)),(2,cD (dI p2)),(3,cD (.fn 32 [])),(9,cD (dI a6)),(10,cD (dI a1.2.1)),(12,cD (dI a17.1))],[(5000,vL 3 z01 a17.2)]⟩) (fun(a17:Int×(List Time))=>⟨[(0,.c (oC 5000 3 a17.2)),(1,cD (dI p1)),(2,cD (dI p2)),(3,cD (.fn 32 [])),(9,cD (dI a6)),(10,cD (dI a1.2.1))],[(5000,vL 3 z01 a17.2)]⟩) h ?_ ?_ ?_
          ·intro a17 c h;refine z02 ?_;refine Tri.sg [0,1,2,3,9,10,12,109] [5000] (z00 3) ?_;refine z06 h (fun h=>?_) (fun h=>?_)
           ·refine Tri.skip ?_;refine z02 ?_;refine z0y ?_;refine z02 ?_;refine z02 ?_;obtain⟨hc19,h⟩:=z03 h;obtain⟨hc20,h⟩:=z03 h;obtain⟨hc21,h⟩:=z03 h;obtain⟨hc22,h⟩:=z03 h;obtain⟨r23,hr23,h⟩:=bind_elim h;refine z44 ⟨[(0,.c (oC 5000 3 a17.2)),(1,cD (dI p1)),(2,cD (dI p2)),(3,cD (.fn 32 [])),(9,cD (dI a6)),(10,cD (dI a1.2.1)),(12,cD (dI a17.1)),(124,cD (.bool (!(decide (r23<0)))))],[(5000,vL 3 z01 a17.2)]⟩ [.a [3] [],.a [0] [],.a [12] [],.a [113,114] [5000],.a [115] [5000],.a [0] [],.a [12] [],.a [118] [],.a [117,119] [5000],.a [120] [5000],.m ⟨[(112,cD (.fn 32 [])),(116,.agg (cTime (a17.2.getD (0+a17.1.toNat) zzd))),(121,.agg (cTime (a17.2.getD (0+(zzi.wrap (a17.1-1)).toNat) zzd)))],[]⟩ ⟨[(122,cD (dI r23))],[]⟩ [] [] [],.a [122] [],.a [123] []] [0,1,2,3,9,10,12,124] [5000] (tN 3 (ai hc19 (ai hc20 (tN 3 (ai hc21 (ai hc22 (z00 2))))))) (.a (.a (.a (.a (.a (.a (.a (.a (.a (.a (.m ?_ (.a (.a .z))))))))))))) ?_
            ·exact DOk.cA [] [.agg (cTime (a17.2.getD (0+a17.1.toNat) zzd)),.agg (cTime (a17.2.getD (0+(zzi.wrap (a17.1-1)).toNat) zzd))] (z1k hr23) fun r=>(.cons (.refl _) (.cons (.refl _) .nil))
            refine z06 h (fun h=>?_) (fun h=>?_)
            ·refine Tri.kp [0,1,2,3,9,10] [5000] ?_;refine Tri.exit ?_;cases h;exact⟨rfl,kr⟩
            ·refine Tri.skip ?_;obtain⟨hc24,h⟩:=z03 h;obtain⟨hc25,h⟩:=z03 h;obtain⟨hc26,h⟩:=z03 h;obtain⟨hc27,h⟩:=z03 h;obtain⟨hc28,h⟩:=z03 h;obtain⟨hc29,h⟩:=z03 h;obtain⟨hc30,h⟩:=z03 h;obtain⟨hc31,h⟩:=z03 h;refine z2g ⟨[(0,.c (oC 5000 3 a17.2)),(1,cD (dI p1)),(2,cD (dI p2)),(3,cD (.fn 32 [])),(9,cD (dI a6)),(10,cD (dI a1.2.1)),(12,cD (dI a17.1))],[(5000,vL 3 z01 ((a17.2.set (0+a17.1.toNat) (a17.2.getD (0+(zzi.wrap (a17.1-1)).toNat) zzd)).set (0+(zzi.wrap (a17.1-1)).toNat) (a17.2.getD (0+a17.1.toNat) zzd)))]⟩ ?_ ?_
             ·refine z44 ⟨[(0,.c (oC 5000 3 a17.2)),(1,cD (dI p1)),(2,cD (dI p2)),(3,cD (.fn 32 [])),(9,cD (dI a6)),(10,cD (dI a1.2.1)),(12,cD (dI a17.1))],[(5000,vL 3 z01 ((a17.2.set (0+a17.1.toNat) (a17.2.getD (0+(zzi.wrap (a17.1-1)).toNat) zzd)).set (0+(zzi.wrap (a17.1-1)).toNat) (a17.2.getD (0+a17.1.toNat) zzd)))]⟩ [.a [0] [],.a [12] [],.a [0] [],.a [12] [],.a [128] [],.a [0] [],.a [12] [],.a [131] [],.a [130,132] [5000],.a [133] [5000],.a [0] [],.a [12] [],.a [135,136] [5000],.a [137] [5000],.a [125,126] [5000],.m ⟨[(134,.agg (cTime (a17.2.getD (0+(zzi.wrap (a17.1-1)).toNat) zzd))),(139,.c (.vptr 5000 3 (0+a17.1.toNat) 0))],[(5000,vL 3 z01 a17.2)]⟩ ⟨[],[(5000,vL 3 z01 (a17.2.set (0+a17.1.toNat) (a17.2.getD (0+(zzi.wrap (a17.1-1)).toNat) zzd)))]⟩ [] [] [],.a [127,129] [5000],.m ⟨[(138,.agg (cTime (a17.2.getD (0+a17.1.toNat) zzd))),(140,.c (.vptr 5000 3 (0+(zzi.wrap (a17.1-1)).toNat) 0))],[(5000,vL 3 z01 (a17.2.set (0+a17.1.toNat) (a17.2.getD (0+(zzi.wrap (a17.1-1)).toNat) zzd)))]⟩ ⟨[],[(5000,vL 3 z01 ((a17.2.set (0+a17.1.toNat) (a17.2.getD (0+(zzi.wrap (a17.1-1)).toNat) zzd)).set (0+(zzi.wrap (a17.1-1)).toNat) (a17.2.getD (0+a17.1.toNat) zzd)))]⟩ [] [] []] [0,1,2,3,9,10,12] [5000] (tN 8 (ai hc24 (ai hc25 (tN 2 (ai hc26 (ai hc27 (ai hc28 (ai hc30 trivial)))))))) (.a (.a (.a (.a (.a (.a (.a (.a (.a (.a (.a (.a (.a (.a (.a (.m ?_ (.a (.m ?_ .z)))))))))))))))))) ?_
              ·exact DOk.one fun r hr=>z0p (xs:=[.d (dU ((a17.2.getD (0+(zzi.wrap (a17.1-1)).toNat) zzd).epoch)),.d (dU ((a17.2.getD (0+(zzi.wrap (a17.1-1)).toNat) zzd).loop.1)),.d (dU ((a17.2.getD (0+(zzi.wrap (a17.1-1)).toNat) zzd).loop.2))]) (ds:=[dU ((a17.2.getD (0+(zzi.wrap (a17.1-1)).toNat) zzd).epoch),dU ((a17.2.getD (0+(zzi.wrap (a17.1-1)).toNat) zzd).loop.1),dU ((a17.2.getD (0+(zzi.wrap (a17.1-1)).toNat) zzd).loop.2)]) (z01) a17.2 (a17.2.getD (0+(zzi.wrap (a17.1-1)).toNat) zzd) rfl (by kernel_rfl) rfl rfl rfl hc29 rfl rfl (.refl _) rfl rfl rfl rfl
              ·exact DOk.one fun r hr=>z0p (xs:=[.d (dU ((a17.2.getD (0+a17.1.toNat) zzd).epoch)),.d (dU ((a17.2.getD (0+a17.1.toNat) zzd).loop.1)),.d (dU ((a17.2.getD (0+a17.1.toNat) zzd).loop.2))]) (ds:=[dU ((a17.2.getD (0+a17.1.toNat) zzd).epoch),dU ((a17.2.getD (0+a17.1.toNat) zzd).loop.1),dU ((a17.2.getD (0+a17.1.toNat) zzd).loop.2)]) (z01) (a17.2.set (0+a17.1.toNat) (a17.2.getD (0+(zzi.wrap (a17.1-1)).toNat) zzd)) (a17.2.getD (0+a17.1.toNat) zzd) rfl (by kernel_rfl) rfl rfl rfl hc31 rfl rfl (.refl _) rfl rfl rfl rfl
              exact⟨rfl,rfl⟩
             ·refine At.eqS (s':=⟨[(0,.c (oC 5000 3 ((a17.2.set (0+a17.1.toNat) (a17.2.getD (0+(zzi.wrap (a17.1-1)).toNat) zzd)).set (0+(zzi.wrap (a17.1-1)).toNat) (a17.2.getD (0+a17.1.toNat) zzd)))),(1,cD (dI p1)),(2,cD (dI p2)),(3,cD (.fn 32 [])),(9,cD (dI a6)),(10,cD (dI a1.2.1)),(12,cD (dI a17.1))],[(5000,vL 3 z01 ((a17.2.set (0+a17.1.toNat) (a17.2.getD (0+(zzi.wrap (a17.1-1)).toNat) zzd)).set (0+(zzi.wrap (a17.1-1)).toNat) (a17.2.getD (0+a17.1.toNat) zzd)))]⟩) (by simp only[oC,vL,zza]) ?_;refine At.done rfl ?_;refine z05 ?_;refine At.sg 3 [0,1,2,3,9,10,12] [5000] (z00 3) ?_;refine At.done rfl ?_;cases h;exact kr
           ·refine Tri.kp [0,1,2,3,9,10] [5000] ?_;refine Tri.exit ?_;cases h;exact⟨rfl,kr⟩
          ·intro a18 h;exact⟨_,h,kr⟩
          ·exact fun x=>x.elim
         ·refine Tri.kp [0,1,2,3,9,10] [5000] ?_;refine Tri.skip ?_;exact⟨_,h,kr⟩
        ·refine Tri.sg [0,1,2,3,9,10,65] [5000] (z00 4) ?_;refine z06 h (fun h=>?_) (fun h=>?_)
         ·refine Tri.sg [0,1,2,3,9,10,11] [5000] (z00 3) ?_;refine Tri.keep [0,1,2,3,9,10,11] [5000] (s':=⟨[(0,.c (oC 5000 3 ((a1.2.2.set (0+a6.toNat) (a1.2.2.getD (0+(zzi.wrap (a6-1)).toNat) zzd)).set (0+(zzi.wrap (a6-1)).toNat) (a1.2.2.getD (0+a6.toNat) zzd)))),(1,cD (dI p1)),(2,cD (dI p2)),(3,cD (.fn 32 [])),(9,cD (dI a6)),(10,cD (dI a1.2.1)),(11,cD (dI (zzi.wrap (a6-1))))],[(5000,vL 3 z01 ((a1.2.2.set (0+a6.toNat) (a1.2.2.getD (0+(zzi.wrap (a6-1)).toNat) zzd)).set (0+(zzi.wrap (a6-1)).toNat) (a1.2.2.getD (0+a6.toNat) zzd)))]⟩) (by kernel_rfl) ?_;refine z5b (fuel:=fuel) (st0:=((zzi.wrap (a6-1)),((a1.2.2.set (0+a6.toNat) (a1.2.2.getD (0+(zzi.wrap (a6-1)).toNat) zzd)).set (0+(zzi.wrap (a6-1)).toNat) (a1.2.2.getD (0+a6.toNat) zzd)))) (fun(x:Empty) s=>False) (fun(a32:Int×(List Time))=>⟨[(0,.c (oC 5000 3 a32.2)),(1,cD (dI p1)),(2,cD (dI p2)),(3,cD (.fn 32 [])),(9,cD (dI a6)),(10,cD (dI a1.2.1)),(11,cD (dI a32.1))],[(5000,vL 3 z01 a32.2)]⟩) (fun(a32:Int×(List Time))=>⟨[(0,.c (oC 5000 3 a32.2)),(1,cD (dI p1)),(2,cD (dI p2)),(3,cD (.fn 32 [])),(9,cD (dI a6)),(10,cD (dI a1.2.1))],[(5000,vL 3 z01 a32.2)]⟩) h ?_ ?_ ?_
          ·intro a32 c h;refine z02 ?_;refine Tri.sg [0,1,2,3,9,10,11,69] [5000] (z00 2) ?_;refine z06 h (fun h=>?_) (fun h=>?_)
           ·refine Tri.skip ?_;refine z02 ?_;refine z0y ?_;refine z02 ?_;refine z02 ?_;obtain⟨hc34,h⟩:=z03 h;obtain⟨hc35,h⟩:=z03 h;obtain⟨hc36,h⟩:=z03 h;obtain⟨hc37,h⟩:=z03 h;obtain⟨r38,hr38,h⟩:=bind_elim h;refine z44 ⟨[(0,.c (oC 5000 3 a32.2)),(1,cD (dI p1)),(2,cD (dI p2)),(3,cD (.fn 32 [])),(9,cD (dI a6)),(10,cD (dI a1.2.1)),(11,cD (dI a32.1)),(84,cD (.bool (!(decide (r38<0)))))],[(5000,vL 3 z01 a32.2)]⟩ [.a [3] [],.a [0] [],.a [11] [],.a [73,74] [5000],.a [75] [5000],.a [0] [],.a [11] [],.a [78] [],.a [77,79] [5000],.a [80] [5000],.m ⟨[(72,cD (.fn 32 [])),(76,.agg (cTime (a32.2.getD (0+a32.1.toNat) zzd))),(81,.agg (cTime (a32.2.getD (0+(zzi.wrap (a32.1-1)).toNat) zzd)))],[]⟩ ⟨[(82,cD (dI r38))],[]⟩ [] [] [],.a [82] [],.a [83] []] [0,1,2,3,9,10,11,84] [5000] (tN 3 (ai hc34 (ai hc35 (tN 3 (ai hc36 (ai hc37 (z00 2))))))) (.a (.a (.a (.a (.a (.a (.a (.a (.a (.a (.m ?_ (.a (.a .z))))))))))))) ?_
            ·exact DOk.cA [] [.agg (cTime (a32.2.getD (0+a32.1.toNat) zzd)),.agg (cTime (a32.2.getD (0+(zzi.wrap (a32.1-1)).toNat) zzd))] (z1k hr38) fun r=>(.cons (.refl _) (.cons (.refl _) .nil))
            refine z06 h (fun h=>?_) (fun h=>?_)
            ·refine Tri.kp [0,1,2,3,9,10] [5000] ?_;refine Tri.exit ?_;cases h;exact⟨rfl,kr⟩
            ·refine Tri.skip ?_;obtain⟨hc39,h⟩:=z03 h;obtain⟨hc40,h⟩:=z03 h;obtain⟨hc41,h⟩:=z03 h;obtain⟨hc42,h⟩:=z03 h;obtain⟨hc43,h⟩:=z03 h;obtain⟨hc44,h⟩:=z03 h;obtain⟨hc45,h⟩:=z03 h;obtain⟨hc46,h⟩:=z03 h;refine z2g ⟨[(0,.c (oC 5000 3 a32.2)),(1,cD (dI p1)),(2,cD (dI p2)),(3,cD (.fn 32 [])),(9,cD (dI a6)),(10,cD (dI a1.2.1)),(11,cD (dI a32.1))],[(5000,vL 3 z01 ((a32.2.set (0+a32.1.toNat) (a32.2.getD (0+(zzi.wrap (a32.1-1)).toNat) zzd)).set (0+(zzi.wrap (a32.1-1)).toNat) (a32.2.getD (0+a32.1.toNat) zzd)))]⟩ ?_ ?_
             ·refine z44 ⟨[(0,.c (oC 5000 3 a32.2)),(1,cD (dI p1)),(2,cD (dI p2)),(3,cD (.fn 32 [])),(9,cD (dI a6)),(10,cD (dI a1.2.1)),(11,cD (dI a32.1))],[(5000,vL 3 z01 ((a32.2.set (0+a32.1.toNat) (a32.2.getD (0+(zzi.wrap (a32.1-1)).toNat) zzd)).set (0+(zzi.wrap (a32.1-1)).toNat) (a32.2.getD (0+a32.1.toNat) zzd)))]⟩ [.a [0] [],.a [11] [],.a [0] [],.a [11] [],.a [88] [],.a [0] [],.a [11] [],.a [91] [],.a [90,92] [5000],.a [93] [5000],.a [0] [],.a [11] [],.a [95,96] [5000],.a [97] [5000],.a [85,86] [5000],.m ⟨[(94,.agg (cTime (a32.2.getD (0+(zzi.wrap (a32.1-1)).toNat) zzd))),(99,.c (.vptr 5000 3 (0+a32.1.toNat) 0))],[(5000,vL 3 z01 a32.2)]⟩ ⟨[],[(5000,vL 3 z01 (a32.2.set (0+a32.1.toNat) (a32.2.getD (0+(zzi.wrap (a32.1-1)).toNat) zzd)))]⟩ [] [] [],.a [87,89] [5000],.m ⟨[(98,.agg (cTime (a32.2.getD (0+a32.1.toNat) zzd))),(100,.c (.vptr 5000 3 (0+(zzi.wrap (a32.1-1)).toNat) 0))],[(5000,vL 3 z01 (a32.2.set (0+a32.1.toNat) (a32.2.getD (0+(zzi.wrap (a32.1-1)).toNat) zzd)))]⟩ ⟨[],[(5000,vL 3 z01 ((a32.2.set (0+a32.1.toNat) (a32.2.getD (0+(zzi.wrap (a32.1-1)).toNat) zzd)).set (0+(zzi.wrap (a32.1-1)).toNat) (a32.2.getD (0+a32.1.toNat) zzd)))]⟩ [] [] []] [0,1,2,3,9,10,11] [5000] (tN 8 (ai hc39 (ai hc40 (tN 2 (ai hc41 (ai hc42 (ai hc43 (ai hc45 trivial)))))))) (.a (.a (.a (.a (.a (.a (.a (.a (.a (.a (.a (.a (.a (.a (.a (.m ?_ (.a (.m ?_ .z)))))))))))))))))) ?_
              ·exact DOk.one fun r hr=>z0p (xs:=[.d (dU ((a32.2.getD (0+(zzi.wrap (a32.1-1)).toNat) zzd).epoch)),.d (dU ((a32.2.getD (0+(zzi.wrap (a32.1-1)).toNat) zzd).loop.1)),.d (dU ((a32.2.getD (0+(zzi.wrap (a32.1-1)).toNat) zzd).loop.2))]) (ds:=[dU ((a32.2.getD (0+(zzi.wrap (a32.1-1)).toNat) zzd).epoch),dU ((a32.2.getD (0+(zzi.wrap (a32.1-1)).toNat) zzd).loop.1),dU ((a32.2.getD (0+(zzi.wrap (a32.1-1)).toNat) zzd).loop.2)]) (z01) a32.2 (a32.2.getD (0+(zzi.wrap (a32.1-1)).toNat) zzd) rfl (by kernel_rfl) rfl rfl rfl hc44 rfl rfl (.refl _) rfl rfl rfl rfl
              ·exact DOk.one fun r hr=>z0p (xs:=[.d (dU ((a32.2.getD (0+a32.1.toNat) zzd).epoch)),.d (dU ((a32.2.getD (0+a32.1.toNat) zzd).loop.1)),.d (dU ((a32.2.getD (0+a32.1.toNat) zzd).loop.2))]) (ds:=[dU ((a32.2.getD (0+a32.1.toNat) zzd).epoch),dU ((a32.2.getD (0+a32.1.toNat) zzd).loop.1),dU ((a32.2.getD (0+a32.1.toNat) zzd).loop.2)]) (z01) (a32.2.set (0+a32.1.toNat) (a32.2.getD (0+(zzi.wrap (a32.1-1)).toNat) zzd)) (a32.2.getD (0+a32.1.toNat) zzd) rfl (by kernel_rfl) rfl rfl rfl hc46 rfl rfl (.refl _) rfl rfl rfl rfl
              exact⟨rfl,rfl⟩
             ·refine At.eqS (s':=⟨[(0,.c (oC 5000 3 ((a32.2.set (0+a32.1.toNat) (a32.2.getD (0+(zzi.wrap (a32.1-1)).toNat) zzd)).set (0+(zzi.wrap (a32.1-1)).toNat) (a32.2.getD (0+a32.1.toNat) zzd)))),(1,cD (dI p1)),(2,cD (dI p2)),(3,cD (.fn 32 [])),(9,cD (dI a6)),(10,cD (dI a1.2.1)),(11,cD (dI a32.1))],[(5000,vL 3 z01 ((a32.2.set (0+a32.1.toNat) (a32.2.getD (0+(zzi.wrap (a32.1-1)).toNat) zzd)).set (0+(zzi.wrap (a32.1-1)).toNat) (a32.2.getD (0+a32.1.toNat) zzd)))]⟩) (by simp only[oC,vL,zza]) ?_;refine At.done rfl ?_;refine z05 ?_;refine At.sg 3 [0,1,2,3,9,10,11] [5000] (z00 3) ?_;refine At.done rfl ?_;cases h;exact kr
           ·refine Tri.kp [0,1,2,3,9,10] [5000] ?_;refine Tri.exit ?_;cases h;exact⟨rfl,kr⟩
          ·intro a33 h;exact⟨_,h,kr⟩
          ·exact fun x=>x.elim
         ·refine Tri.kp [0,1,2,3,9,10] [5000] ?_;refine Tri.skip ?_;exact⟨_,h,kr⟩
    ·exact fun x=>x.elim
  ·refine Tri.kp [0,1,2,3,9,10] [5000] ?_;refine Tri.exit ?_;cases h;exact⟨rfl,kr⟩
 ·intro a2 h;refine Tri.sg [8] [5000] (z00 1) ?_;refine Tri.ret ?_;cases h;exact RetAt.k
 ·exact fun x s hx hr=>by cases hx;exact hr
theorem z52 {fuel:Nat}{p1:Int}{p2:Int}{p3:Int}{l0:List Time}{q:Int×(List Time)}(h:z10 fuel p1 p2 p3 l0=some q):
 Summ Tryz.prog 86 [.c (oC 5000 3 l0),cD (dI p1),cD (dI p2),cD (dI p3),cD (.fn 32 [])] [(5000,vL 3 z01 l0)] (cD (dI q.1)) [(5000,vL 3 z01 q.2)]:=by
 refine Summ.i Tryz.func86 rfl [] fun w0 G0 V LL φ0=>?_;unfold z10 at h;refine z22 [0,1,2,3,4] [5000] ⟨[(0,.c (oC 5000 3 l0)),(1,cD (dI p1)),(2,cD (dI p2)),(3,cD (dI p3)),(4,cD (.fn 32 []))],[(5000,vL 3 z01 l0)]⟩ _ (by kernel_rfl) (z00 1) ?_;refine z02 ?_;obtain⟨hc1,h⟩:=z03 h;obtain⟨hc2,h⟩:=z03 h;obtain⟨hc3,h⟩:=z03 h;obtain⟨hc4,h⟩:=z03 h;obtain⟨hc5,h⟩:=z03 h;obtain⟨hc6,h⟩:=z03 h;obtain⟨hc7,h⟩:=z03 h;obtain⟨hc8,h⟩:=z03 h;refine z2g ⟨[(0,.c (oC 5000 3 l0)),(1,cD (dI p1)),(2,cD (dI p2)),(4,cD (.fn 32 []))],[(5000,vL 3 z01 ((l0.set (0+p1.toNat) (l0.getD (0+p3.toNat) zzd)).set (0+p3.toNat) (l0.getD (0+p1.toNat) zzd)))]⟩ ?_ ?_
 ·refine z44 ⟨[(0,.c (oC 5000 3 l0)),(1,cD (dI p1)),(2,cD (dI p2)),(4,cD (.fn 32 []))],[(5000,vL 3 z01 ((l0.set (0+p1.toNat) (l0.getD (0+p3.toNat) zzd)).set (0+p3.toNat) (l0.getD (0+p1.toNat) zzd)))]⟩ [.a [0] [],.a [1] [],.a [0] [],.a [3] [],.a [0] [],.a [3] [],.a [17,18] [5000],.a [19] [5000],.a [0] [],.a [1] [],.a [21,22] [5000],.a [23] [5000],.a [13,14] [5000],.m ⟨[(20,.agg (cTime (l0.getD (0+p3.toNat) zzd))),(25,.c (.vptr 5000 3 (0+p1.toNat) 0))],[(5000,vL 3 z01 l0)]⟩ ⟨[],[(5000,vL 3 z01 (l0.set (0+p1.toNat) (l0.getD (0+p3.toNat) zzd)))]⟩ [] [] [],.a [15,16] [5000],.m ⟨[(24,.agg (cTime (l0.getD (0+p1.toNat) zzd))),(26,.c (.vptr 5000 3 (0+p3.toNat) 0))],[(5000,vL 3 z01 (l0.set (0+p1.toNat) (l0.getD (0+p3.toNat) zzd)))]⟩ ⟨[],[(5000,vL 3 z01 ((l0.set (0+p1.toNat) (l0.getD (0+p3.toNat) zzd)).set (0+p3.toNat) (l0.getD (0+p1.toNat) zzd)))]⟩ [] [] []] [0,1,2,4] [5000] (tN 6 (ai hc1 (ai hc2 (tN 2 (ai hc3 (ai hc4 (ai hc5 (ai hc7 trivial)))))))) (.a (.a (.a (.a (.a (.a (.a (.a (.a (.a (.a (.a (.a (.m ?_ (.a (.m ?_ .z)))))))))))))))) ?_
  ·exact DOk.one fun r hr=>z0p (xs:=[.d (dU ((l0.getD (0+p3.toNat) zzd).epoch)),.d (dU ((l0.getD (0+p3.toNat) zzd).loop.1)),.d (dU ((l0.getD (0+p3.toNat) zzd).loop.2))]) (ds:=[dU ((l0.getD (0+p3.toNat) zzd).epoch),dU ((l0.getD (0+p3.toNat) zzd).loop.1),dU ((l0.getD (0+p3.toNat) zzd).loop.2)]) (z01) l0 (l0.getD (0+p3.toNat) zzd) rfl (by kernel_rfl) rfl rfl rfl hc6 rfl rfl (.refl _) rfl rfl rfl rfl
  ·exact DOk.one fun r hr=>z0p (xs:=[.d (dU ((l0.getD (0+p1.toNat) zzd).epoch)),.d (dU ((l0.getD (0+p1.toNat) zzd).loop.1)),.d (dU ((l0.getD (0+p1.toNat) zzd).loop.2))]) (ds:=[dU ((l0.getD (0+p1.toNat) zzd).epoch),dU ((l0.getD (0+p1.toNat) zzd).loop.1),dU ((l0.getD (0+p1.toNat) zzd).loop.2)]) (z01) (l0.set (0+p1.toNat) (l0.getD (0+p3.toNat) zzd)) (l0.getD (0+p1.toNat) zzd) rfl (by kernel_rfl) rfl rfl rfl hc8 rfl rfl (.refl _) rfl rfl rfl rfl
  exact⟨rfl,rfl⟩
 ·refine At.eqS (s':=⟨[(0,.c (oC 5000 3 ((l0.set (0+p1.toNat) (l0.getD (0+p3.toNat) zzd)).set (0+p3.toNat) (l0.getD (0+p1.toNat) zzd)))),(1,cD (dI p1)),(2,cD (dI p2)),(4,cD (.fn 32 []))],[(5000,vL 3 z01 ((l0.set (0+p1.toNat) (l0.getD (0+p3.toNat) zzd)).set (0+p3.toNat) (l0.getD (0+p1.toNat) zzd)))]⟩) (by simp only[oC,vL,zza]) ?_;refine At.done rfl ?_;refine Tri.sg [0,1,4,11,12] [5000] (z00 6) ?_;refine z02 ?_;refine z4v ((zzi.wrap (p1+1)),(zzi.wrap (p2-1)),((l0.set (0+p1.toNat) (l0.getD (0+p3.toNat) zzd)).set (0+p3.toNat) (l0.getD (0+p1.toNat) zzd))) (fun(x:Empty) s=>False) (fun(a9:Int×Int×(List Time))=>⟨[(0,.c (oC 5000 3 a9.2.2)),(1,cD (dI p1)),(4,cD (.fn 32 [])),(11,cD (dI a9.1)),(12,cD (dI a9.2.1))],[(5000,vL 3 z01 a9.2.2)]⟩) [0,1,4,11,12] [5000] h ?_ ?_ ?_
  ·intro a9 c h;refine z0y ?_;refine z02 ?_;refine z4v (a9.1) (fun(x:Empty) s=>False) (fun(a11:Int)=>⟨[(0,.c (oC 5000 3 a9.2.2)),(1,cD (dI p1)),(4,cD (.fn 32 [])),(11,cD (dI a11)),(12,cD (dI a9.2.1))],[(5000,vL 3 z01 a9.2.2)]⟩) [0,1,4,11,12] [5000] h ?_ ?_ ?_
   ·intro a11 c h;refine Tri.eqS ⟨[(0,.c (oC 5000 3 a9.2.2)),(1,cD (dI p1)),(4,cD (.fn 32 [])),(11,cD (dI a11)),(12,cD (dI a9.2.1))],[(5000,vL 3 z01 a9.2.2)]⟩ kr ?_;refine z02 ?_;refine z0f (fun(a31:Bool)=>⟨[(0,.c (oC 5000 3 a9.2.2)),(1,cD (dI p1)),(4,cD (.fn 32 [])),(11,cD (dI a11)),(12,cD (dI a9.2.1)),(47,cD (.bool a31))],[(5000,vL 3 z01 a9.2.2)]⟩) h (fun a31 h=>?_) (fun j32 h=>?_)
    ·refine z06 h (fun h=>?_) (fun h=>?_)
     ·refine Tri.skip ?_;refine z0y ?_;refine z05 ?_;refine At.sg 3 [0,1,4,11,12] [5000] (z00 3) ?_;refine At.done rfl ?_;cases h;exact kr
     ·refine Tri.kp [0,1,4,11,12] [5000] ?_;refine Tri.exit ?_;cases h;exact⟨rfl,kr⟩
    ·rcases z2m h with⟨hp33,h⟩|⟨hp33,h⟩
     ·obtain⟨hc34,h⟩:=z03 h;obtain⟨hc35,h⟩:=z03 h;obtain⟨hc36,h⟩:=z03 h;obtain⟨hc37,h⟩:=z03 h;obtain⟨r38,hr38,h⟩:=bind_elim h;refine z0u [.a [11] [],.a [12] [],.a [31,32] [],.m ⟨[(33,cD (.bool (decide (a11≤a9.2.1))))],[]⟩ ⟨[(34,.c (.d (.bool true)))],[]⟩ [] [] [],.a [4,34] [],.a [0,34] [],.a [1,34] [],.a [34,36,37] [5000],.a [34,38] [5000],.a [0,34] [],.a [11,34] [],.a [34,40,41] [5000],.a [34,42] [5000],.m ⟨[(34,cD (.bool true)),(35,cD (.fn 32 [])),(39,.agg (cTime (a9.2.2.getD (0+p1.toNat) zzd))),(43,.agg (cTime (a9.2.2.getD (0+a11.toNat) zzd)))],[]⟩ ⟨[(44,cD (dI r38))],[]⟩ [] [] [],.a [34,44] [],.a [34,45] [],.a [34,46] []] [0,1,4,11,12,47] [5000] (tN 6 (ai hc34 (ai hc35 (tN 2 (ai hc36 (ai hc37 (z00 3))))))) (.a (.a (.a (.m ?_ (.a (.a (.a (.a (.a (.a (.a (.a (.a (.m ?_ (.a (.a (.a .z))))))))))))))))) ?_
      ·exact z0l (fun b=> .val (.c (.d (.bool b))) (True)) (p:=(decide (a11≤a9.2.1))) hp33 (fun r=>by kernel_rfl) (fun r=>by kernel_rfl) trivial (by kernel_rfl) (by kernel_rfl) (fun r=>rfl)
      ·exact DOk.cA [] [.agg (cTime (a9.2.2.getD (0+p1.toNat) zzd)),.agg (cTime (a9.2.2.getD (0+a11.toNat) zzd))] (z1k hr38) fun r=>(.cons (.refl _) (.cons (.refl _) .nil))
      exact⟨_,h,kr⟩
     ·refine z0u [.a [11] [],.a [12] [],.a [31,32] [],.m ⟨[(33,cD (.bool (decide (a11≤a9.2.1))))],[]⟩ ⟨[(34,.c (.d (.bool false)))],[]⟩ [] [] [],.a [4,34] [],.a [0,34] [],.a [1,34] [],.a [34,36,37] [],.a [34,38] [],.a [0,34] [],.a [11,34] [],.a [34,40,41] [],.a [34,42] [],.a [34,35,39,43] [],.a [34,44] [],.a [34,45] [],.a [34,46] []] [0,1,4,11,12,47] [5000] (z00 4) (.a (.a (.a (.m ?_ (.a (.a (.a (.a (.a (.a (.a (.a (.a (.a (.a (.a (.a .z))))))))))))))))) ?_
      ·exact z0l (fun b=> .val (.c (.d (.bool b))) (True)) (p:=(decide (a11≤a9.2.1))) hp33 (fun r=>by kernel_rfl) (fun r=>by kernel_rfl) trivial (by kernel_rfl) (by kernel_rfl) (fun r=>rfl)
      exact⟨_,h,kr⟩
   ·intro a12 h;refine z02 ?_;refine z4v (a9.2.1) (fun(x:Empty) s=>False) (fun(a13:Int)=>⟨[(0,.c (oC 5000 3 a9.2.2)),(1,cD (dI p1)),(4,cD (.fn 32 [])),(11,cD (dI a12)),(12,cD (dI a13))],[(5000,vL 3 z01 a9.2.2)]⟩) [0,1,4,11,12] [5000] h ?_ ?_ ?_
    ·intro a13 c h;refine Tri.eqS ⟨[(0,.c (oC 5000 3 a9.2.2)),(1,cD (dI p1)),(4,cD (.fn 32 [])),(11,cD (dI a12)),(12,cD (dI a13))],[(5000,vL 3 z01 a9.2.2)]⟩ kr ?_;refine z02 ?_;refine z0f (fun(a23:Bool)=>⟨[(0,.c (oC 5000 3 a9.2.2)),(1,cD (dI p1)),(4,cD (.fn 32 [])),(11,cD (dI a12)),(12,cD (dI a13)),(65,cD (.bool a23))],[(5000,vL 3 z01 a9.2.2)]⟩) h (fun a23 h=>?_) (fun j24 h=>?_)
     ·refine z06 h (fun h=>?_) (fun h=>?_)
      ·refine Tri.skip ?_;refine z0y ?_;refine z05 ?_;refine At.sg 3 [0,1,4,11,12] [5000] (z00 3) ?_;refine At.done rfl ?_;cases h;exact kr
      ·refine Tri.kp [0,1,4,11,12] [5000] ?_;refine Tri.exit ?_;cases h;exact⟨rfl,kr⟩
     ·rcases z2m h with⟨hp25,h⟩|⟨hp25,h⟩
      ·obtain⟨hc26,h⟩:=z03 h;obtain⟨hc27,h⟩:=z03 h;obtain⟨hc28,h⟩:=z03 h;obtain⟨hc29,h⟩:=z03 h;obtain⟨r30,hr30,h⟩:=bind_elim h;refine z0u [.a [11] [],.a [12] [],.a [50,51] [],.m ⟨[(52,cD (.bool (decide (a12≤a13))))],[]⟩ ⟨[(53,.c (.d (.bool true)))],[]⟩ [] [] [],.a [4,53] [],.a [0,53] [],.a [1,53] [],.a [53,55,56] [5000],.a [53,57] [5000],.a [0,53] [],.a [12,53] [],.a [53,59,60] [5000],.a [53,61] [5000],.m ⟨[(53,cD (.bool true)),(54,cD (.fn 32 [])),(58,.agg (cTime (a9.2.2.getD (0+p1.toNat) zzd))),(62,.agg (cTime (a9.2.2.getD (0+a13.toNat) zzd)))],[]⟩ ⟨[(63,cD (dI r30))],[]⟩ [] [] [],.a [53,63] [],.a [53,64] []] [0,1,4,11,12,65] [5000] (tN 6 (ai hc26 (ai hc27 (tN 2 (ai hc28 (ai hc29 (z00 2))))))) (.a (.a (.a (.m ?_ (.a (.a (.a (.a (.a (.a (.a (.a (.a (.m ?_ (.a (.a .z)))))))))))))))) ?_
       ·exact z0l (fun b=> .val (.c (.d (.bool b))) (True)) (p:=(decide (a12≤a13))) hp25 (fun r=>by kernel_rfl) (fun r=>by kernel_rfl) trivial (by kernel_rfl) (by kernel_rfl) (fun r=>rfl)
       ·exact DOk.cA [] [.agg (cTime (a9.2.2.getD (0+p1.toNat) zzd)),.agg (cTime (a9.2.2.getD (0+a13.toNat) zzd))] (z1k hr30) fun r=>(.cons (.refl _) (.cons (.refl _) .nil))
       exact⟨_,h,kr⟩
      ·refine z0u [.a [11] [],.a [12] [],.a [50,51] [],.m ⟨[(52,cD (.bool (decide (a12≤a13))))],[]⟩ ⟨[(53,.c (.d (.bool false)))],[]⟩ [] [] [],.a [4,53] [],.a [0,53] [],.a [1,53] [],.a [53,55,56] [],.a [53,57] [],.a [0,53] [],.a [12,53] [],.a [53,59,60] [],.a [53,61] [],.a [53,54,58,62] [],.a [53,63] [],.a [53,64] []] [0,1,4,11,12,65] [5000] (z00 4) (.a (.a (.a (.m ?_ (.a (.a (.a (.a (.a (.a (.a (.a (.a (.a (.a (.a .z)))))))))))))))) ?_
       ·exact z0l (fun b=> .val (.c (.d (.bool b))) (True)) (p:=(decide (a12≤a13))) hp25 (fun r=>by kernel_rfl) (fun r=>by kernel_rfl) trivial (by kernel_rfl) (by kernel_rfl) (fun r=>rfl)
       exact⟨_,h,kr⟩
    ·intro a14 h;refine z02 ?_;refine z22 [0,1,4,11,12,70] [5000] ⟨[(0,.c (oC 5000 3 a9.2.2)),(1,cD (dI p1)),(4,cD (.fn 32 [])),(11,cD (dI a12)),(12,cD (dI a14)),(70,cD (.bool (decide (a14<a12))))],[(5000,vL 3 z01 a9.2.2)]⟩ _ (by kernel_rfl) (z00 3) ?_;refine z06 h (fun h=>?_) (fun h=>?_)
     ·refine Tri.kp [0,1,4,11,12] [5000] ?_;refine Tri.exit ?_;cases h;exact⟨rfl,kr⟩
     ·refine Tri.skip ?_;refine z02 ?_;obtain⟨hc15,h⟩:=z03 h;obtain⟨hc16,h⟩:=z03 h;obtain⟨hc17,h⟩:=z03 h;obtain⟨hc18,h⟩:=z03 h;obtain⟨hc19,h⟩:=z03 h;obtain⟨hc20,h⟩:=z03 h;obtain⟨hc21,h⟩:=z03 h;obtain⟨hc22,h⟩:=z03 h;refine z2g ⟨[(0,.c (oC 5000 3 a9.2.2)),(1,cD (dI p1)),(4,cD (.fn 32 [])),(11,cD (dI a12)),(12,cD (dI a14))],[(5000,vL 3 z01 ((a9.2.2.set (0+a12.toNat) (a9.2.2.getD (0+a14.toNat) zzd)).set (0+a14.toNat) (a9.2.2.getD (0+a12.toNat) zzd)))]⟩ ?_ ?_
      ·refine z44 ⟨[(0,.c (oC 5000 3 a9.2.2)),(1,cD (dI p1)),(4,cD (.fn 32 [])),(11,cD (dI a12)),(12,cD (dI a14))],[(5000,vL 3 z01 ((a9.2.2.set (0+a12.toNat) (a9.2.2.getD (0+a14.toNat) zzd)).set (0+a14.toNat) (a9.2.2.getD (0+a12.toNat) zzd)))]⟩ [.a [0] [],.a [11] [],.a [0] [],.a [12] [],.a [0] [],.a [12] [],.a [75,76] [5000],.a [77] [5000],.a [0] [],.a [11] [],.a [79,80] [5000],.a [81] [5000],.a [71,72] [5000],.m ⟨[(78,.agg (cTime (a9.2.2.getD (0+a14.toNat) zzd))),(83,.c (.vptr 5000 3 (0+a12.toNat) 0))],[(5000,vL 3 z01 a9.2.2)]⟩ ⟨[],[(5000,vL 3 z01 (a9.2.2.set (0+a12.toNat) (a9.2.2.getD (0+a14.toNat) zzd)))]⟩ [] [] [],.a [73,74] [5000],.m ⟨[(82,.agg (cTime (a9.2.2.getD (0+a12.toNat) zzd))),(84,.c (.vptr 5000 3 (0+a14.toNat) 0))],[(5000,vL 3 z01 (a9.2.2.set (0+a12.toNat) (a9.2.2.getD (0+a14.toNat) zzd)))]⟩ ⟨[],[(5000,vL 3 z01 ((a9.2.2.set (0+a12.toNat) (a9.2.2.getD (0+a14.toNat) zzd)).set (0+a14.toNat) (a9.2.2.getD (0+a12.toNat) zzd)))]⟩ [] [] []] [0,1,4,11,12] [5000] (tN 6 (ai hc15 (ai hc16 (tN 2 (ai hc17 (ai hc18 (ai hc19 (ai hc21 trivial)))))))) (.a (.a (.a (.a (.a (.a (.a (.a (.a (.a (.a (.a (.a (.m ?_ (.a (.m ?_ .z)))))))))))))))) ?_
       ·exact DOk.one fun r hr=>z0p (xs:=[.d (dU ((a9.2.2.getD (0+a14.toNat) zzd).epoch)),.d (dU ((a9.2.2.getD (0+a14.toNat) zzd).loop.1)),.d (dU ((a9.2.2.getD (0+a14.toNat) zzd).loop.2))]) (ds:=[dU ((a9.2.2.getD (0+a14.toNat) zzd).epoch),dU ((a9.2.2.getD (0+a14.toNat) zzd).loop.1),dU ((a9.2.2.getD (0+a14.toNat) zzd).loop.2)]) (z01) a9.2.2 (a9.2.2.getD (0+a14.toNat) zzd) rfl (by kernel_rfl) rfl rfl rfl hc20 rfl rfl (.refl _) rfl rfl rfl rfl
       ·exact DOk.one fun r hr=>z0p (xs:=[.d (dU ((a9.2.2.getD (0+a12.toNat) zzd).epoch)),.d (dU ((a9.2.2.getD (0+a12.toNat) zzd).loop.1)),.d (dU ((a9.2.2.getD (0+a12.toNat) zzd).loop.2))]) (ds:=[dU ((a9.2.2.getD (0+a12.toNat) zzd).epoch),dU ((a9.2.2.getD (0+a12.toNat) zzd).loop.1),dU ((a9.2.2.getD (0+a12.toNat) zzd).loop.2)]) (z01) (a9.2.2.set (0+a12.toNat) (a9.2.2.getD (0+a14.toNat) zzd)) (a9.2.2.getD (0+a12.toNat) zzd) rfl (by kernel_rfl) rfl rfl rfl hc22 rfl rfl (.refl _) rfl rfl rfl rfl
       exact⟨rfl,rfl⟩
      ·refine At.eqS (s':=⟨[(0,.c (oC 5000 3 ((a9.2.2.set (0+a12.toNat) (a9.2.2.getD (0+a14.toNat) zzd)).set (0+a14.toNat) (a9.2.2.getD (0+a12.toNat) zzd)))),(1,cD (dI p1)),(4,cD (.fn 32 [])),(11,cD (dI a12)),(12,cD (dI a14))],[(5000,vL 3 z01 ((a9.2.2.set (0+a12.toNat) (a9.2.2.getD (0+a14.toNat) zzd)).set (0+a14.toNat) (a9.2.2.getD (0+a12.toNat) zzd)))]⟩) (by simp only[oC,vL,zza]) ?_;refine At.done rfl ?_;refine Tri.sg [0,1,4,11,12] [5000] (z00 3) ?_;refine z05 ?_;refine At.sg 3 [0,1,4,11,12] [5000] (z00 3) ?_;refine At.done rfl ?_;cases h;exact kr
    ·exact fun x=>x.elim
   ·exact fun x=>x.elim
  ·intro a10 h;refine Tri.sg [10] [5000] (z00 2) ?_;refine Tri.ret ?_;cases h;exact RetAt.k
  ·exact fun x=>x.elim
theorem z61 {fuel:Nat}{p1:Int}{p2:Int}{p3:Int}{l0:List Time}{q:Int×Bool×(List Time)}(h:z1d fuel p1 p2 p3 l0=some q):
 Summ Tryz.prog 87 [.c (oC 5000 3 l0),cD (dI p1),cD (dI p2),cD (dI p3),cD (.fn 32 [])] [(5000,vL 3 z01 l0)] (.tup [(false,[.d (dI q.1)]),(false,[.d (.bool q.2.1)])]) [(5000,vL 3 z01 q.2.2)]:=by
 refine Summ.i Tryz.func87 rfl [] fun w0 G0 V LL φ0=>?_;unfold z1d at h;refine z22 [0,1,2,3,4] [5000] ⟨[(0,.c (oC 5000 3 l0)),(1,cD (dI p1)),(2,cD (dI p2)),(3,cD (dI p3)),(4,cD (.fn 32 []))],[(5000,vL 3 z01 l0)]⟩ _ (by kernel_rfl) (z00 2) ?_;refine z02 ?_;obtain⟨hc1,h⟩:=z03 h;obtain⟨hc2,h⟩:=z03 h;obtain⟨hc3,h⟩:=z03 h;obtain⟨hc4,h⟩:=z03 h;obtain⟨hc5,h⟩:=z03 h;obtain⟨hc6,h⟩:=z03 h;obtain⟨hc7,h⟩:=z03 h;obtain⟨hc8,h⟩:=z03 h;refine z2g ⟨[(0,.c (oC 5000 3 l0)),(1,cD (dI p1)),(2,cD (dI p2)),(4,cD (.fn 32 []))],[(5000,vL 3 z01 ((l0.set (0+p1.toNat) (l0.getD (0+p3.toNat) zzd)).set (0+p3.toNat) (l0.getD (0+p1.toNat) zzd)))]⟩ ?_ ?_
 ·refine z44 ⟨[(0,.c (oC 5000 3 l0)),(1,cD (dI p1)),(2,cD (dI p2)),(4,cD (.fn 32 []))],[(5000,vL 3 z01 ((l0.set (0+p1.toNat) (l0.getD (0+p3.toNat) zzd)).set (0+p3.toNat) (l0.getD (0+p1.toNat) zzd)))]⟩ [.a [0] [],.a [1] [],.a [0] [],.a [3] [],.a [0] [],.a [3] [],.a [18,19] [5000],.a [20] [5000],.a [0] [],.a [1] [],.a [22,23] [5000],.a [24] [5000],.a [14,15] [5000],.m ⟨[(21,.agg (cTime (l0.getD (0+p3.toNat) zzd))),(26,.c (.vptr 5000 3 (0+p1.toNat) 0))],[(5000,vL 3 z01 l0)]⟩ ⟨[],[(5000,vL 3 z01 (l0.set (0+p1.toNat) (l0.getD (0+p3.toNat) zzd)))]⟩ [] [] [],.a [16,17] [5000],.m ⟨[(25,.agg (cTime (l0.getD (0+p1.toNat) zzd))),(27,.c (.vptr 5000 3 (0+p3.toNat) 0))],[(5000,vL 3 z01 (l0.set (0+p1.toNat) (l0.getD (0+p3.toNat) zzd)))]⟩ ⟨[],[(5000,vL 3 z01 ((l0.set (0+p1.toNat) (l0.getD (0+p3.toNat) zzd)).set (0+p3.toNat) (l0.getD (0+p1.toNat) zzd)))]⟩ [] [] []] [0,1,2,4] [5000] (tN 6 (ai hc1 (ai hc2 (tN 2 (ai hc3 (ai hc4 (ai hc5 (ai hc7 trivial)))))))) (.a (.a (.a (.a (.a (.a (.a (.a (.a (.a (.a (.a (.a (.m ?_ (.a (.m ?_ .z)))))))))))))))) ?_
  ·exact DOk.one fun r hr=>z0p (xs:=[.d (dU ((l0.getD (0+p3.toNat) zzd).epoch)),.d (dU ((l0.getD (0+p3.toNat) zzd).loop.1)),.d (dU ((l0.getD (0+p3.toNat) zzd).loop.2))]) (ds:=[dU ((l0.getD (0+p3.toNat) zzd).epoch),dU ((l0.getD (0+p3.toNat) zzd).loop.1),dU ((l0.getD (0+p3.toNat) zzd).loop.2)]) (z01) l0 (l0.getD (0+p3.toNat) zzd) rfl (by kernel_rfl) rfl rfl rfl hc6 rfl rfl (.refl _) rfl rfl rfl rfl
  ·exact DOk.one fun r hr=>z0p (xs:=[.d (dU ((l0.getD (0+p1.toNat) zzd).epoch)),.d (dU ((l0.getD (0+p1.toNat) zzd).loop.1)),.d (dU ((l0.getD (0+p1.toNat) zzd).loop.2))]) (ds:=[dU ((l0.getD (0+p1.toNat) zzd).epoch),dU ((l0.getD (0+p1.toNat) zzd).loop.1),dU ((l0.getD (0+p1.toNat) zzd).loop.2)]) (z01) (l0.set (0+p1.toNat) (l0.getD (0+p3.toNat) zzd)) (l0.getD (0+p1.toNat) zzd) rfl (by kernel_rfl) rfl rfl rfl hc8 rfl rfl (.refl _) rfl rfl rfl rfl
  exact⟨rfl,rfl⟩
 ·refine At.eqS (s':=⟨[(0,.c (oC 5000 3 ((l0.set (0+p1.toNat) (l0.getD (0+p3.toNat) zzd)).set (0+p3.toNat) (l0.getD (0+p1.toNat) zzd)))),(1,cD (dI p1)),(2,cD (dI p2)),(4,cD (.fn 32 []))],[(5000,vL 3 z01 ((l0.set (0+p1.toNat) (l0.getD (0+p3.toNat) zzd)).set (0+p3.toNat) (l0.getD (0+p1.toNat) zzd)))]⟩) (by simp only[oC,vL,zza]) ?_;refine At.done rfl ?_;refine Tri.sg [0,1,4,12,13] [5000] (z00 6) ?_;refine z02 ?_;refine z4v ((zzi.wrap (p1+1)),(zzi.wrap (p2-1))) (fun(x:Empty) s=>False) (fun(a9:Int×Int)=>⟨[(0,.c (oC 5000 3 ((l0.set (0+p1.toNat) (l0.getD (0+p3.toNat) zzd)).set (0+p3.toNat) (l0.getD (0+p1.toNat) zzd)))),(1,cD (dI p1)),(4,cD (.fn 32 [])),(12,cD (dI a9.1)),(13,cD (dI a9.2))],[(5000,vL 3 z01 ((l0.set (0+p1.toNat) (l0.getD (0+p3.toNat) zzd)).set (0+p3.toNat) (l0.getD (0+p1.toNat) zzd)))]⟩) [0,1,4,12,13] [5000] h ?_ ?_ ?_
  ·intro a9 c h;refine Tri.eqS ⟨[(0,.c (oC 5000 3 ((l0.set (0+p1.toNat) (l0.getD (0+p3.toNat) zzd)).set (0+p3.toNat) (l0.getD (0+p1.toNat) zzd)))),(1,cD (dI p1)),(4,cD (.fn 32 [])),(12,cD (dI a9.1)),(13,cD (dI a9.2))],[(5000,vL 3 z01 ((l0.set (0+p1.toNat) (l0.getD (0+p3.toNat) zzd)).set (0+p3.toNat) (l0.getD (0+p1.toNat) zzd)))]⟩ kr ?_;refine z02 ?_;refine z0f (fun(a75:Bool)=>⟨[(0,.c (oC 5000 3 ((l0.set (0+p1.toNat) (l0.getD (0+p3.toNat) zzd)).set (0+p3.toNat) (l0.getD (0+p1.toNat) zzd)))),(1,cD (dI p1)),(4,cD (.fn 32 [])),(12,cD (dI a9.1)),(13,cD (dI a9.2)),(47,cD (.bool a75))],[(5000,vL 3 z01 ((l0.set (0+p1.toNat) (l0.getD (0+p3.toNat) zzd)).set (0+p3.toNat) (l0.getD (0+p1.toNat) zzd)))]⟩) h (fun a75 h=>?_) (fun j76 h=>?_)
   ·refine z06 h (fun h=>?_) (fun h=>?_)
    ·refine Tri.skip ?_;refine z0y ?_;refine z05 ?_;refine At.sg 3 [0,1,4,12,13] [5000] (z00 3) ?_;refine At.done rfl ?_;cases h;exact kr
    ·refine Tri.kp [0,1,4,12,13] [5000] ?_;refine Tri.exit ?_;cases h;exact⟨rfl,kr⟩
   ·rcases z2m h with⟨hp77,h⟩|⟨hp77,h⟩
    ·obtain⟨hc78,h⟩:=z03 h;obtain⟨hc79,h⟩:=z03 h;obtain⟨hc80,h⟩:=z03 h;obtain⟨hc81,h⟩:=z03 h;obtain⟨r82,hr82,h⟩:=bind_elim h;refine z0u [.a [12] [],.a [13] [],.a [32,33] [],.m ⟨[(34,cD (.bool (decide (a9.1≤a9.2))))],[]⟩ ⟨[(35,.c (.d (.bool true)))],[]⟩ [] [] [],.a [4,35] [],.a [0,35] [],.a [12,35] [],.a [35,37,38] [5000],.a [35,39] [5000],.a [0,35] [],.a [1,35] [],.a [35,41,42] [5000],.a [35,43] [5000],.m ⟨[(35,cD (.bool true)),(36,cD (.fn 32 [])),(40,.agg (cTime (((l0.set (0+p1.toNat) (l0.getD (0+p3.toNat) zzd)).set (0+p3.toNat) (l0.getD (0+p1.toNat) zzd)).getD (0+a9.1.toNat) zzd))),(44,.agg (cTime (((l0.set (0+p1.toNat) (l0.getD (0+p3.toNat) zzd)).set (0+p3.toNat) (l0.getD (0+p1.toNat) zzd)).getD (0+p1.toNat) zzd)))],[]⟩ ⟨[(45,cD (dI r82))],[]⟩ [] [] [],.a [35,45] [],.a [35,46] []] [0,1,4,12,13,47] [5000] (tN 6 (ai hc78 (ai hc79 (tN 2 (ai hc80 (ai hc81 (z00 2))))))) (.a (.a (.a (.m ?_ (.a (.a (.a (.a (.a (.a (.a (.a (.a (.m ?_ (.a (.a .z)))))))))))))))) ?_
     ·exact z0l (fun b=> .val (.c (.d (.bool b))) (True)) (p:=(decide (a9.1≤a9.2))) hp77 (fun r=>by kernel_rfl) (fun r=>by kernel_rfl) trivial (by kernel_rfl) (by kernel_rfl) (fun r=>rfl)
     ·exact DOk.cA [] [.agg (cTime (((l0.set (0+p1.toNat) (l0.getD (0+p3.toNat) zzd)).set (0+p3.toNat) (l0.getD (0+p1.toNat) zzd)).getD (0+a9.1.toNat) zzd)),.agg (cTime (((l0.set (0+p1.toNat) (l0.getD (0+p3.toNat) zzd)).set (0+p3.toNat) (l0.getD (0+p1.toNat) zzd)).getD (0+p1.toNat) zzd))] (z1k hr82) fun r=>(.cons (.refl _) (.cons (.refl _) .nil))
     exact⟨_,h,kr⟩
    ·refine z0u [.a [12] [],.a [13] [],.a [32,33] [],.m ⟨[(34,cD (.bool (decide (a9.1≤a9.2))))],[]⟩ ⟨[(35,.c (.d (.bool false)))],[]⟩ [] [] [],.a [4,35] [],.a [0,35] [],.a [12,35] [],.a [35,37,38] [],.a [35,39] [],.a [0,35] [],.a [1,35] [],.a [35,41,42] [],.a [35,43] [],.a [35,36,40,44] [],.a [35,45] [],.a [35,46] []] [0,1,4,12,13,47] [5000] (z00 4) (.a (.a (.a (.m ?_ (.a (.a (.a (.a (.a (.a (.a (.a (.a (.a (.a (.a .z)))))))))))))))) ?_
     ·exact z0l (fun b=> .val (.c (.d (.bool b))) (True)) (p:=(decide (a9.1≤a9.2))) hp77 (fun r=>by kernel_rfl) (fun r=>by kernel_rfl) trivial (by kernel_rfl) (by kernel_rfl) (fun r=>rfl)
     exact⟨_,h,kr⟩
  ·intro a10 h;refine z02 ?_;refine z4v (a10.2) (fun(x:Empty) s=>False) (fun(a11:Int)=>⟨[(0,.c (oC 5000 3 ((l0.set (0+p1.toNat) (l0.getD (0+p3.toNat) zzd)).set (0+p3.toNat) (l0.getD (0+p1.toNat) zzd)))),(1,cD (dI p1)),(4,cD (.fn 32 [])),(12,cD (dI a10.1)),(13,cD (dI a11))],[(5000,vL 3 z01 ((l0.set (0+p1.toNat) (l0.getD (0+p3.toNat) zzd)).set (0+p3.toNat) (l0.getD (0+p1.toNat) zzd)))]⟩) [0,1,4,12,13] [5000] h ?_ ?_ ?_
   ·intro a11 c h;refine Tri.eqS ⟨[(0,.c (oC 5000 3 ((l0.set (0+p1.toNat) (l0.getD (0+p3.toNat) zzd)).set (0+p3.toNat) (l0.getD (0+p1.toNat) zzd)))),(1,cD (dI p1)),(4,cD (.fn 32 [])),(12,cD (dI a10.1)),(13,cD (dI a11))],[(5000,vL 3 z01 ((l0.set (0+p1.toNat) (l0.getD (0+p3.toNat) zzd)).set (0+p3.toNat) (l0.getD (0+p1.toNat) zzd)))]⟩ kr ?_;refine z02 ?_;refine z0f (fun(a67:Bool)=>⟨[(0,.c (oC 5000 3 ((l0.set (0+p1.toNat) (l0.getD (0+p3.toNat) zzd)).set (0+p3.toNat) (l0.getD (0+p1.toNat) zzd)))),(1,cD (dI p1)),(4,cD (.fn 32 [])),(12,cD (dI a10.1)),(13,cD (dI a11)),(66,cD (.bool a67))],[(5000,vL 3 z01 ((l0.set (0+p1.toNat) (l0.getD (0+p3.toNat) zzd)).set (0+p3.toNat) (l0.getD (0+p1.toNat) zzd)))]⟩) h (fun a67 h=>?_) (fun j68 h=>?_)
    ·refine z06 h (fun h=>?_) (fun h=>?_)
     ·refine Tri.skip ?_;refine z0y ?_;refine z05 ?_;refine At.sg 3 [0,1,4,12,13] [5000] (z00 3) ?_;refine At.done rfl ?_;cases h;exact kr
     ·refine Tri.kp [0,1,4,12,13] [5000] ?_;refine Tri.exit ?_;cases h;exact⟨rfl,kr⟩
    ·rcases z2m h with⟨hp69,h⟩|⟨hp69,h⟩
     ·obtain⟨hc70,h⟩:=z03 h;obtain⟨hc71,h⟩:=z03 h;obtain⟨hc72,h⟩:=z03 h;obtain⟨hc73,h⟩:=z03 h;obtain⟨r74,hr74,h⟩:=bind_elim h;refine z0u [.a [12] [],.a [13] [],.a [50,51] [],.m ⟨[(52,cD (.bool (decide (a10.1≤a11))))],[]⟩ ⟨[(53,.c (.d (.bool true)))],[]⟩ [] [] [],.a [4,53] [],.a [0,53] [],.a [13,53] [],.a [53,55,56] [5000],.a [53,57] [5000],.a [0,53] [],.a [1,53] [],.a [53,59,60] [5000],.a [53,61] [5000],.m ⟨[(53,cD (.bool true)),(54,cD (.fn 32 [])),(58,.agg (cTime (((l0.set (0+p1.toNat) (l0.getD (0+p3.toNat) zzd)).set (0+p3.toNat) (l0.getD (0+p1.toNat) zzd)).getD (0+a11.toNat) zzd))),(62,.agg (cTime (((l0.set (0+p1.toNat) (l0.getD (0+p3.toNat) zzd)).set (0+p3.toNat) (l0.getD (0+p1.toNat) zzd)).getD (0+p1.toNat) zzd)))],[]⟩ ⟨[(63,cD (dI r74))],[]⟩ [] [] [],.a [53,63] [],.a [53,64] [],.a [53,65] []] [0,1,4,12,13,66] [5000] (tN 6 (ai hc70 (ai hc71 (tN 2 (ai hc72 (ai hc73 (z00 3))))))) (.a (.a (.a (.m ?_ (.a (.a (.a (.a (.a (.a (.a (.a (.a (.m ?_ (.a (.a (.a .z))))))))))))))))) ?_
      ·exact z0l (fun b=> .val (.c (.d (.bool b))) (True)) (p:=(decide (a10.1≤a11))) hp69 (fun r=>by kernel_rfl) (fun r=>by kernel_rfl) trivial (by kernel_rfl) (by kernel_rfl) (fun r=>rfl)
      ·exact DOk.cA [] [.agg (cTime (((l0.set (0+p1.toNat) (l0.getD (0+p3.toNat) zzd)).set (0+p3.toNat) (l0.getD (0+p1.toNat) zzd)).getD (0+a11.toNat) zzd)),.agg (cTime (((l0.set (0+p1.toNat) (l0.getD (0+p3.toNat) zzd)).set (0+p3.toNat) (l0.getD (0+p1.toNat) zzd)).getD (0+p1.toNat) zzd))] (z1k hr74) fun r=>(.cons (.refl _) (.cons (.refl _) .nil))
      exact⟨_,h,kr⟩
     ·refine z0u [.a [12] [],.a [13] [],.a [50,51] [],.m ⟨[(52,cD (.bool (decide (a10.1≤a11))))],[]⟩ ⟨[(53,.c (.d (.bool false)))],[]⟩ [] [] [],.a [4,53] [],.a [0,53] [],.a [13,53] [],.a [53,55,56] [],.a [53,57] [],.a [0,53] [],.a [1,53] [],.a [53,59,60] [],.a [53,61] [],.a [53,54,58,62] [],.a [53,63] [],.a [53,64] [],.a [53,65] []] [0,1,4,12,13,66] [5000] (z00 4) (.a (.a (.a (.m ?_ (.a (.a (.a (.a (.a (.a (.a (.a (.a (.a (.a (.a (.a .z))))))))))))))))) ?_
      ·exact z0l (fun b=> .val (.c (.d (.bool b))) (True)) (p:=(decide (a10.1≤a11))) hp69 (fun r=>by kernel_rfl) (fun r=>by kernel_rfl) trivial (by kernel_rfl) (by kernel_rfl) (fun r=>rfl)
      exact⟨_,h,kr⟩
   ·intro a12 h;refine z02 ?_;refine z22 [0,1,4,12,13,71] [5000] ⟨[(0,.c (oC 5000 3 ((l0.set (0+p1.toNat) (l0.getD (0+p3.toNat) zzd)).set (0+p3.toNat) (l0.getD (0+p1.toNat) zzd)))),(1,cD (dI p1)),(4,cD (.fn 32 [])),(12,cD (dI a10.1)),(13,cD (dI a12)),(71,cD (.bool (decide (a12<a10.1))))],[(5000,vL 3 z01 ((l0.set (0+p1.toNat) (l0.getD (0+p3.toNat) zzd)).set (0+p3.toNat) (l0.getD (0+p1.toNat) zzd)))]⟩ _ (by kernel_rfl) (z00 3) ?_;refine z06 h (fun h=>?_) (fun h=>?_)
    ·refine z02 ?_;obtain⟨hc13,h⟩:=z03 h;obtain⟨hc14,h⟩:=z03 h;obtain⟨hc15,h⟩:=z03 h;obtain⟨hc16,h⟩:=z03 h;obtain⟨hc17,h⟩:=z03 h;obtain⟨hc18,h⟩:=z03 h;obtain⟨hc19,h⟩:=z03 h;obtain⟨hc20,h⟩:=z03 h;refine z0u [.a [0] [],.a [13] [],.a [0] [],.a [1] [],.a [0] [],.a [1] [],.a [76,77] [5000],.a [78] [5000],.a [0] [],.a [13] [],.a [80,81] [5000],.a [82] [5000],.a [72,73] [5000],.m ⟨[(79,.agg (cTime (((l0.set (0+p1.toNat) (l0.getD (0+p3.toNat) zzd)).set (0+p3.toNat) (l0.getD (0+p1.toNat) zzd)).getD (0+p1.toNat) zzd))),(84,.c (.vptr 5000 3 (0+a12.toNat) 0))],[(5000,vL 3 z01 ((l0.set (0+p1.toNat) (l0.getD (0+p3.toNat) zzd)).set (0+p3.toNat) (l0.getD (0+p1.toNat) zzd)))]⟩ ⟨[],[(5000,vL 3 z01 (((l0.set (0+p1.toNat) (l0.getD (0+p3.toNat) zzd)).set (0+p3.toNat) (l0.getD (0+p1.toNat) zzd)).set (0+a12.toNat) (((l0.set (0+p1.toNat) (l0.getD (0+p3.toNat) zzd)).set (0+p3.toNat) (l0.getD (0+p1.toNat) zzd)).getD (0+p1.toNat) zzd)))]⟩ [] [] [],.a [74,75] [5000],.m ⟨[(83,.agg (cTime (((l0.set (0+p1.toNat) (l0.getD (0+p3.toNat) zzd)).set (0+p3.toNat) (l0.getD (0+p1.toNat) zzd)).getD (0+a12.toNat) zzd))),(85,.c (.vptr 5000 3 (0+p1.toNat) 0))],[(5000,vL 3 z01 (((l0.set (0+p1.toNat) (l0.getD (0+p3.toNat) zzd)).set (0+p3.toNat) (l0.getD (0+p1.toNat) zzd)).set (0+a12.toNat) (((l0.set (0+p1.toNat) (l0.getD (0+p3.toNat) zzd)).set (0+p3.toNat) (l0.getD (0+p1.toNat) zzd)).getD (0+p1.toNat) zzd)))]⟩ ⟨[],[(5000,vL 3 z01 ((((l0.set (0+p1.toNat) (l0.getD (0+p3.toNat) zzd)).set (0+p3.toNat) (l0.getD (0+p1.toNat) zzd)).set (0+a12.toNat) (((l0.set (0+p1.toNat) (l0.getD (0+p3.toNat) zzd)).set (0+p3.toNat) (l0.getD (0+p1.toNat) zzd)).getD (0+p1.toNat) zzd)).set (0+p1.toNat) (((l0.set (0+p1.toNat) (l0.getD (0+p3.toNat) zzd)).set (0+p3.toNat) (l0.getD (0+p1.toNat) zzd)).getD (0+a12.toNat) zzd)))]⟩ [] [] []] [13] [5000] (tN 6 (ai hc13 (ai hc14 (tN 2 (ai hc15 (ai hc16 (ai hc17 (ai hc19 trivial)))))))) (.a (.a (.a (.a (.a (.a (.a (.a (.a (.a (.a (.a (.a (.m ?_ (.a (.m ?_ .z)))))))))))))))) ?_
     ·exact DOk.one fun r hr=>z0p (xs:=[.d (dU ((((l0.set (0+p1.toNat) (l0.getD (0+p3.toNat) zzd)).set (0+p3.toNat) (l0.getD (0+p1.toNat) zzd)).getD (0+p1.toNat) zzd).epoch)),.d (dU ((((l0.set (0+p1.toNat) (l0.getD (0+p3.toNat) zzd)).set (0+p3.toNat) (l0.getD (0+p1.toNat) zzd)).getD (0+p1.toNat) zzd).loop.1)),.d (dU ((((l0.set (0+p1.toNat) (l0.getD (0+p3.toNat) zzd)).set (0+p3.toNat) (l0.getD (0+p1.toNat) zzd)).getD (0+p1.toNat) zzd).loop.2))]) (ds:=[dU ((((l0.set (0+p1.toNat) (l0.getD (0+p3.toNat) zzd)).set (0+p3.toNat) (l0.getD (0+p1.toNat) zzd)).getD (0+p1.toNat) zzd).epoch),dU ((((l0.set (0+p1.toNat) (l0.getD (0+p3.toNat) zzd)).set (0+p3.toNat) (l0.getD (0+p1.toNat) zzd)).getD (0+p1.toNat) zzd).loop.1),dU ((((l0.set (0+p1.toNat) (l0.getD (0+p3.toNat) zzd)).set (0+p3.toNat) (l0.getD (0+p1.toNat) zzd)).getD (0+p1.toNat) zzd).loop.2)]) (z01) ((l0.set (0+p1.toNat) (l0.getD (0+p3.toNat) zzd)).set (0+p3.toNat) (l0.getD (0+p1.toNat) zzd)) (((l0.set (0+p1.toNat) (l0.getD (0+p3.toNat) zzd)).set (0+p3.toNat) (l0.getD (0+p1.toNat) zzd)).getD (0+p1.toNat) zzd) rfl (by kernel_rfl) rfl rfl rfl hc18 rfl rfl (.refl _) rfl rfl rfl rfl
     ·exact DOk.one fun r hr=>z0p (xs:=[.d (dU ((((l0.set (0+p1.toNat) (l0.getD (0+p3.toNat) zzd)).set (0+p3.toNat) (l0.getD (0+p1.toNat) zzd)).getD (0+a12.toNat) zzd).epoch)),.d (dU ((((l0.set (0+p1.toNat) (l0.getD (0+p3.toNat) zzd)).set (0+p3.toNat) (l0.getD (0+p1.toNat) zzd)).getD (0+a12.toNat) zzd).loop.1)),.d (dU ((((l0.set (0+p1.toNat) (l0.getD (0+p3.toNat) zzd)).set (0+p3.toNat) (l0.getD (0+p1.toNat) zzd)).getD (0+a12.toNat) zzd).loop.2))]) (ds:=[dU ((((l0.set (0+p1.toNat) (l0.getD (0+p3.toNat) zzd)).set (0+p3.toNat) (l0.getD (0+p1.toNat) zzd)).getD (0+a12.toNat) zzd).epoch),dU ((((l0.set (0+p1.toNat) (l0.getD (0+p3.toNat) zzd)).set (0+p3.toNat) (l0.getD (0+p1.toNat) zzd)).getD (0+a12.toNat) zzd).loop.1),dU ((((l0.set (0+p1.toNat) (l0.getD (0+p3.toNat) zzd)).set (0+p3.toNat) (l0.getD (0+p1.toNat) zzd)).getD (0+a12.toNat) zzd).loop.2)]) (z01) (((l0.set (0+p1.toNat) (l0.getD (0+p3.toNat) zzd)).set (0+p3.toNat) (l0.getD (0+p1.toNat) zzd)).set (0+a12.toNat) (((l0.set (0+p1.toNat) (l0.getD (0+p3.toNat) zzd)).set (0+p3.toNat) (l0.getD (0+p1.toNat) zzd)).getD (0+p1.toNat) zzd)) (((l0.set (0+p1.toNat) (l0.getD (0+p3.toNat) zzd)).set (0+p3.toNat) (l0.getD (0+p1.toNat) zzd)).getD (0+a12.toNat) zzd) rfl (by kernel_rfl) rfl rfl rfl hc20 rfl rfl (.refl _) rfl rfl rfl rfl
     refine Tri.sg [10,11] [5000] (z00 3) ?_;refine Tri.ret ?_;cases h;exact RetAt.k
    ·refine Tri.skip ?_;refine z02 ?_;obtain⟨hc21,h⟩:=z03 h;obtain⟨hc22,h⟩:=z03 h;obtain⟨hc23,h⟩:=z03 h;obtain⟨hc24,h⟩:=z03 h;obtain⟨hc25,h⟩:=z03 h;obtain⟨hc26,h⟩:=z03 h;obtain⟨hc27,h⟩:=z03 h;obtain⟨hc28,h⟩:=z03 h;refine z2g ⟨[(0,.c (oC 5000 3 ((l0.set (0+p1.toNat) (l0.getD (0+p3.toNat) zzd)).set (0+p3.toNat) (l0.getD (0+p1.toNat) zzd)))),(1,cD (dI p1)),(4,cD (.fn 32 [])),(12,cD (dI a10.1)),(13,cD (dI a12))],[(5000,vL 3 z01 ((((l0.set (0+p1.toNat) (l0.getD (0+p3.toNat) zzd)).set (0+p3.toNat) (l0.getD (0+p1.toNat) zzd)).set (0+a10.1.toNat) (((l0.set (0+p1.toNat) (l0.getD (0+p3.toNat) zzd)).set (0+p3.toNat) (l0.getD (0+p1.toNat) zzd)).getD (0+a12.toNat) zzd)).set (0+a12.toNat) (((l0.set (0+p1.toNat) (l0.getD (0+p3.toNat) zzd)).set (0+p3.toNat) (l0.getD (0+p1.toNat) zzd)).getD (0+a10.1.toNat) zzd)))]⟩ ?_ ?_
     ·refine z44 ⟨[(0,.c (oC 5000 3 ((l0.set (0+p1.toNat) (l0.getD (0+p3.toNat) zzd)).set (0+p3.toNat) (l0.getD (0+p1.toNat) zzd)))),(1,cD (dI p1)),(4,cD (.fn 32 [])),(12,cD (dI a10.1)),(13,cD (dI a12))],[(5000,vL 3 z01 ((((l0.set (0+p1.toNat) (l0.getD (0+p3.toNat) zzd)).set (0+p3.toNat) (l0.getD (0+p1.toNat) zzd)).set (0+a10.1.toNat) (((l0.set (0+p1.toNat) (l0.getD (0+p3.toNat) zzd)).set (0+p3.toNat) (l0.getD (0+p1.toNat) zzd)).getD (0+a12.toNat) zzd)).set (0+a12.toNat) (((l0.set (0+p1.toNat) (l0.getD (0+p3.toNat) zzd)).set (0+p3.toNat) (l0.getD (0+p1.toNat) zzd)).getD (0+a10.1.toNat) zzd)))]⟩ [.a [0] [],.a [12] [],.a [0] [],.a [13] [],.a [0] [],.a [13] [],.a [91,92] [5000],.a [93] [5000],.a [0] [],.a [12] [],.a [95,96] [5000],.a [97] [5000],.a [87,88] [5000],.m ⟨[(94,.agg (cTime (((l0.set (0+p1.toNat) (l0.getD (0+p3.toNat) zzd)).set (0+p3.toNat) (l0.getD (0+p1.toNat) zzd)).getD (0+a12.toNat) zzd))),(99,.c (.vptr 5000 3 (0+a10.1.toNat) 0))],[(5000,vL 3 z01 ((l0.set (0+p1.toNat) (l0.getD (0+p3.toNat) zzd)).set (0+p3.toNat) (l0.getD (0+p1.toNat) zzd)))]⟩ ⟨[],[(5000,vL 3 z01 (((l0.set (0+p1.toNat) (l0.getD (0+p3.toNat) zzd)).set (0+p3.toNat) (l0.getD (0+p1.toNat) zzd)).set (0+a10.1.toNat) (((l0.set (0+p1.toNat) (l0.getD (0+p3.toNat) zzd)).set (0+p3.toNat) (l0.getD (0+p1.toNat) zzd)).getD (0+a12.toNat) zzd)))]⟩ [] [] [],.a [89,90] [5000],.m ⟨[(98,.agg (cTime (((l0.set (0+p1.toNat) (l0.getD (0+p3.toNat) zzd)).set (0+p3.toNat) (l0.getD (0+p1.toNat) zzd)).getD (0+a10.1.toNat) zzd))),(100,.c (.vptr 5000 3 (0+a12.toNat) 0))],[(5000,vL 3 z01 (((l0.set (0+p1.toNat) (l0.getD (0+p3.toNat) zzd)).set (0+p3.toNat) (l0.getD (0+p1.toNat) zzd)).set (0+a10.1.toNat) (((l0.set (0+p1.toNat) (l0.getD (0+p3.toNat) zzd)).set (0+p3.toNat) (l0.getD (0+p1.toNat) zzd)).getD (0+a12.toNat) zzd)))]⟩ ⟨[],[(5000,vL 3 z01 ((((l0.set (0+p1.toNat) (l0.getD (0+p3.toNat) zzd)).set (0+p3.toNat) (l0.getD (0+p1.toNat) zzd)).set (0+a10.1.toNat) (((l0.set (0+p1.toNat) (l0.getD (0+p3.toNat) zzd)).set (0+p3.toNat) (l0.getD (0+p1.toNat) zzd)).getD (0+a12.toNat) zzd)).set (0+a12.toNat) (((l0.set (0+p1.toNat) (l0.getD (0+p3.toNat) zzd)).set (0+p3.toNat) (l0.getD (0+p1.toNat) zzd)).getD (0+a10.1.toNat) zzd)))]⟩ [] [] []] [0,1,4,12,13] [5000] (tN 6 (ai hc21 (ai hc22 (tN 2 (ai hc23 (ai hc24 (ai hc25 (ai hc27 trivial)))))))) (.a (.a (.a (.a (.a (.a (.a (.a (.a (.a (.a (.a (.a (.m ?_ (.a (.m ?_ .z)))))))))))))))) ?_
      ·exact DOk.one fun r hr=>z0p (xs:=[.d (dU ((((l0.set (0+p1.toNat) (l0.getD (0+p3.toNat) zzd)).set (0+p3.toNat) (l0.getD (0+p1.toNat) zzd)).getD (0+a12.toNat) zzd).epoch)),.d (dU ((((l0.set (0+p1.toNat) (l0.getD (0+p3.toNat) zzd)).set (0+p3.toNat) (l0.getD (0+p1.toNat) zzd)).getD (0+a12.toNat) zzd).loop.1)),.d (dU ((((l0.set (0+p1.toNat) (l0.getD (0+p3.toNat) zzd)).set (0+p3.toNat) (l0.getD (0+p1.toNat) zzd)).getD (0+a12.toNat) zzd).loop.2))]) (ds:=[dU ((((l0.set (0+p1.toNat) (l0.getD (0+p3.toNat) zzd)).set (0+p3.toNat) (l0.getD (0+p1.toNat) zzd)).getD (0+a12.toNat) zzd).epoch),dU ((((l0.set (0+p1.toNat) (l0.getD (0+p3.toNat) zzd)).set (0+p3.toNat) (l0.getD (0+p1.toNat) zzd)).getD (0+a12.toNat) zzd).loop.1),dU ((((l0.set (0+p1.toNat) (l0.getD (0+p3.toNat) zzd)).set (0+p3.toNat) (l0.getD (0+p1.toNat) zzd)).getD (0+a12.toNat) zzd).loop.2)]) (z01) ((l0.set (0+p1.toNat) (l0.getD (0+p3.toNat) zzd)).set (0+p3.toNat) (l0.getD (0+p1.toNat) zzd)) (((l0.set (0+p1.toNat) (l0.getD (0+p3.toNat) zzd)).set (0+p3.toNat) (l0.getD (0+p1.toNat) zzd)).getD (0+a12.toNat) zzd) rfl (by kernel_rfl) rfl rfl rfl hc26 rfl rfl (.refl _) rfl rfl rfl rfl
      ·exact DOk.one fun r hr=>z0p (xs:=[.d (dU ((((l0.set (0+p1.toNat) (l0.getD (0+p3.toNat) zzd)).set (0+p3.toNat) (l0.getD (0+p1.toNat) zzd)).getD (0+a10.1.toNat) zzd).epoch)),.d (dU ((((l0.set (0+p1.toNat) (l0.getD (0+p3.toNat) zzd)).set (0+p3.toNat) (l0.getD (0+p1.toNat) zzd)).getD (0+a10.1.toNat) zzd).loop.1)),.d (dU ((((l0.set (0+p1.toNat) (l0.getD (0+p3.toNat) zzd)).set (0+p3.toNat) (l0.getD (0+p1.toNat) zzd)).getD (0+a10.1.toNat) zzd).loop.2))]) (ds:=[dU ((((l0.set (0+p1.toNat) (l0.getD (0+p3.toNat) zzd)).set (0+p3.toNat) (l0.getD (0+p1.toNat) zzd)).getD (0+a10.1.toNat) zzd).epoch),dU ((((l0.set (0+p1.toNat) (l0.getD (0+p3.toNat) zzd)).set (0+p3.toNat) (l0.getD (0+p1.toNat) zzd)).getD (0+a10.1.toNat) zzd).loop.1),dU ((((l0.set (0+p1.toNat) (l0.getD (0+p3.toNat) zzd)).set (0+p3.toNat) (l0.getD (0+p1.toNat) zzd)).getD (0+a10.1.toNat) zzd).loop.2)]) (z01) (((l0.set (0+p1.toNat) (l0.getD (0+p3.toNat) zzd)).set (0+p3.toNat) (l0.getD (0+p1.toNat) zzd)).set (0+a10.1.toNat) (((l0.set (0+p1.toNat) (l0.getD (0+p3.toNat) zzd)).set (0+p3.toNat) (l0.getD (0+p1.toNat) zzd)).getD (0+a12.toNat) zzd)) (((l0.set (0+p1.toNat) (l0.getD (0+p3.toNat) zzd)).set (0+p3.toNat) (l0.getD (0+p1.toNat) zzd)).getD (0+a10.1.toNat) zzd) rfl (by kernel_rfl) rfl rfl rfl hc28 rfl rfl (.refl _) rfl rfl rfl rfl
      exact⟨rfl,rfl⟩
     ·refine At.eqS (s':=⟨[(0,.c (oC 5000 3 ((((l0.set (0+p1.toNat) (l0.getD (0+p3.toNat) zzd)).set (0+p3.toNat) (l0.getD (0+p1.toNat) zzd)).set (0+a10.1.toNat) (((l0.set (0+p1.toNat) (l0.getD (0+p3.toNat) zzd)).set (0+p3.toNat) (l0.getD (0+p1.toNat) zzd)).getD (0+a12.toNat) zzd)).set (0+a12.toNat) (((l0.set (0+p1.toNat) (l0.getD (0+p3.toNat) zzd)).set (0+p3.toNat) (l0.getD (0+p1.toNat) zzd)).getD (0+a10.1.toNat) zzd)))),(1,cD (dI p1)),(4,cD (.fn 32 [])),(12,cD (dI a10.1)),(13,cD (dI a12))],[(5000,vL 3 z01 ((((l0.set (0+p1.toNat) (l0.getD (0+p3.toNat) zzd)).set (0+p3.toNat) (l0.getD (0+p1.toNat) zzd)).set (0+a10.1.toNat) (((l0.set (0+p1.toNat) (l0.getD (0+p3.toNat) zzd)).set (0+p3.toNat) (l0.getD (0+p1.toNat) zzd)).getD (0+a12.toNat) zzd)).set (0+a12.toNat) (((l0.set (0+p1.toNat) (l0.getD (0+p3.toNat) zzd)).set (0+p3.toNat) (l0.getD (0+p1.toNat) zzd)).getD (0+a10.1.toNat) zzd)))]⟩) (by simp only[oC,vL,zza]) ?_;refine At.done rfl ?_;refine Tri.sg [0,1,4,12,13] [5000] (z00 3) ?_;refine Tri.sg [0,1,4,12,13] [5000] (z00 3) ?_;refine z02 ?_;refine z4v ((zzi.wrap (a10.1+1)),(zzi.wrap (a12-1)),((((l0.set (0+p1.toNat) (l0.getD (0+p3.toNat) zzd)).set (0+p3.toNat) (l0.getD (0+p1.toNat) zzd)).set (0+a10.1.toNat) (((l0.set (0+p1.toNat) (l0.getD (0+p3.toNat) zzd)).set (0+p3.toNat) (l0.getD (0+p1.toNat) zzd)).getD (0+a12.toNat) zzd)).set (0+a12.toNat) (((l0.set (0+p1.toNat) (l0.getD (0+p3.toNat) zzd)).set (0+p3.toNat) (l0.getD (0+p1.toNat) zzd)).getD (0+a10.1.toNat) zzd))) (fun(x:Empty) s=>False) (fun(a29:Int×Int×(List Time))=>⟨[(0,.c (oC 5000 3 a29.2.2)),(1,cD (dI p1)),(4,cD (.fn 32 [])),(12,cD (dI a29.1)),(13,cD (dI a29.2.1))],[(5000,vL 3 z01 a29.2.2)]⟩) [0,1,4,12,13] [5000] h ?_ ?_ ?_
      ·intro a29 c h;refine z0y ?_;refine z02 ?_;refine z4v (a29.1) (fun(x:Empty) s=>False) (fun(a39:Int)=>⟨[(0,.c (oC 5000 3 a29.2.2)),(1,cD (dI p1)),(4,cD (.fn 32 [])),(12,cD (dI a39)),(13,cD (dI a29.2.1))],[(5000,vL 3 z01 a29.2.2)]⟩) [0,1,4,12,13] [5000] h ?_ ?_ ?_
       ·intro a39 c h;refine Tri.eqS ⟨[(0,.c (oC 5000 3 a29.2.2)),(1,cD (dI p1)),(4,cD (.fn 32 [])),(12,cD (dI a39)),(13,cD (dI a29.2.1))],[(5000,vL 3 z01 a29.2.2)]⟩ kr ?_;refine z02 ?_;refine z0f (fun(a59:Bool)=>⟨[(0,.c (oC 5000 3 a29.2.2)),(1,cD (dI p1)),(4,cD (.fn 32 [])),(12,cD (dI a39)),(13,cD (dI a29.2.1)),(120,cD (.bool a59))],[(5000,vL 3 z01 a29.2.2)]⟩) h (fun a59 h=>?_) (fun j60 h=>?_)
        ·refine z06 h (fun h=>?_) (fun h=>?_)
         ·refine Tri.skip ?_;refine z0y ?_;refine z05 ?_;refine At.sg 3 [0,1,4,12,13] [5000] (z00 3) ?_;refine At.done rfl ?_;cases h;exact kr
         ·refine Tri.kp [0,1,4,12,13] [5000] ?_;refine Tri.exit ?_;cases h;exact⟨rfl,kr⟩
        ·rcases z2m h with⟨hp61,h⟩|⟨hp61,h⟩
         ·obtain⟨hc62,h⟩:=z03 h;obtain⟨hc63,h⟩:=z03 h;obtain⟨hc64,h⟩:=z03 h;obtain⟨hc65,h⟩:=z03 h;obtain⟨r66,hr66,h⟩:=bind_elim h;refine z0u [.a [12] [],.a [13] [],.a [105,106] [],.m ⟨[(107,cD (.bool (decide (a39≤a29.2.1))))],[]⟩ ⟨[(108,.c (.d (.bool true)))],[]⟩ [] [] [],.a [4,108] [],.a [0,108] [],.a [12,108] [],.a [108,110,111] [5000],.a [108,112] [5000],.a [0,108] [],.a [1,108] [],.a [108,114,115] [5000],.a [108,116] [5000],.m ⟨[(108,cD (.bool true)),(109,cD (.fn 32 [])),(113,.agg (cTime (a29.2.2.getD (0+a39.toNat) zzd))),(117,.agg (cTime (a29.2.2.getD (0+p1.toNat) zzd)))],[]⟩ ⟨[(118,cD (dI r66))],[]⟩ [] [] [],.a [108,118] [],.a [108,119] []] [0,1,4,12,13,120] [5000] (tN 6 (ai hc62 (ai hc63 (tN 2 (ai hc64 (ai hc65 (z00 2))))))) (.a (.a (.a (.m ?_ (.a (.a (.a (.a (.a (.a (.a (.a (.a (.m ?_ (.a (.a .z)))))))))))))))) ?_
          ·exact z0l (fun b=> .val (.c (.d (.bool b))) (True)) (p:=(decide (a39≤a29.2.1))) hp61 (fun r=>by kernel_rfl) (fun r=>by kernel_rfl) trivial (by kernel_rfl) (by kernel_rfl) (fun r=>rfl)
          ·exact DOk.cA [] [.agg (cTime (a29.2.2.getD (0+a39.toNat) zzd)),.agg (cTime (a29.2.2.getD (0+p1.toNat) zzd))] (z1k hr66) fun r=>(.cons (.refl _) (.cons (.refl _) .nil))
          exact⟨_,h,kr⟩
         ·refine z0u [.a [12] [],.a [13] [],.a [105,106] [],.m ⟨[(107,cD (.bool (decide (a39≤a29.2.1))))],[]⟩ ⟨[(108,.c (.d (.bool false)))],[]⟩ [] [] [],.a [4,108] [],.a [0,108] [],.a [12,108] [],.a [108,110,111] [],.a [108,112] [],.a [0,108] [],.a [1,108] [],.a [108,114,115] [],.a [108,116] [],.a [108,109,113,117] [],.a [108,118] [],.a [108,119] []] [0,1,4,12,13,120] [5000] (z00 4) (.a (.a (.a (.m ?_ (.a (.a (.a (.a (.a (.a (.a (.a (.a (.a (.a (.a .z)))))))))))))))) ?_
          ·exact z0l (fun b=> .val (.c (.d (.bool b))) (True)) (p:=(decide (a39≤a29.2.1))) hp61 (fun r=>by kernel_rfl) (fun r=>by kernel_rfl) trivial (by kernel_rfl) (by kernel_rfl) (fun r=>rfl)
          exact⟨_,h,kr⟩
       ·intro a40 h;refine z02 ?_;refine z4v (a29.2.1) (fun(x:Empty) s=>False) (fun(a41:Int)=>⟨[(0,.c (oC 5000 3 a29.2.2)),(1,cD (dI p1)),(4,cD (.fn 32 [])),(12,cD (dI a40)),(13,cD (dI a41))],[(5000,vL 3 z01 a29.2.2)]⟩) [0,1,4,12,13] [5000] h ?_ ?_ ?_
        ·intro a41 c h;refine Tri.eqS ⟨[(0,.c (oC 5000 3 a29.2.2)),(1,cD (dI p1)),(4,cD (.fn 32 [])),(12,cD (dI a40)),(13,cD (dI a41))],[(5000,vL 3 z01 a29.2.2)]⟩ kr ?_;refine z02 ?_;refine z0f (fun(a51:Bool)=>⟨[(0,.c (oC 5000 3 a29.2.2)),(1,cD (dI p1)),(4,cD (.fn 32 [])),(12,cD (dI a40)),(13,cD (dI a41)),(139,cD (.bool a51))],[(5000,vL 3 z01 a29.2.2)]⟩) h (fun a51 h=>?_) (fun j52 h=>?_)
         ·refine z06 h (fun h=>?_) (fun h=>?_)
          ·refine Tri.skip ?_;refine z0y ?_;refine z05 ?_;refine At.sg 3 [0,1,4,12,13] [5000] (z00 3) ?_;refine At.done rfl ?_;cases h;exact kr
          ·refine Tri.kp [0,1,4,12,13] [5000] ?_;refine Tri.exit ?_;cases h;exact⟨rfl,kr⟩
         ·rcases z2m h with⟨hp53,h⟩|⟨hp53,h⟩
          ·obtain⟨hc54,h⟩:=z03 h;obtain⟨hc55,h⟩:=z03 h;obtain⟨hc56,h⟩:=z03 h;obtain⟨hc57,h⟩:=z03 h;obtain⟨r58,hr58,h⟩:=bind_elim h;refine z0u [.a [12] [],.a [13] [],.a [123,124] [],.m ⟨[(125,cD (.bool (decide (a40≤a41))))],[]⟩ ⟨[(126,.c (.d (.bool true)))],[]⟩ [] [] [],.a [4,126] [],.a [0,126] [],.a [13,126] [],.a [126,128,129] [5000],.a [126,130] [5000],.a [0,126] [],.a [1,126] [],.a [126,132,133] [5000],.a [126,134] [5000],.m ⟨[(126,cD (.bool true)),(127,cD (.fn 32 [])),(131,.agg (cTime (a29.2.2.getD (0+a41.toNat) zzd))),(135,.agg (cTime (a29.2.2.getD (0+p1.toNat) zzd)))],[]⟩ ⟨[(136,cD (dI r58))],[]⟩ [] [] [],.a [126,136] [],.a [126,137] [],.a [126,138] []] [0,1,4,12,13,139] [5000] (tN 6 (ai hc54 (ai hc55 (tN 2 (ai hc56 (ai hc57 (z00 3))))))) (.a (.a (.a (.m ?_ (.a (.a (.a (.a (.a (.a (.a (.a (.a (.m ?_ (.a (.a (.a .z))))))))))))))))) ?_
           ·exact z0l (fun b=> .val (.c (.d (.bool b))) (True)) (p:=(decide (a40≤a41))) hp53 (fun r=>by kernel_rfl) (fun r=>by kernel_rfl) trivial (by kernel_rfl) (by kernel_rfl) (fun r=>rfl)
           ·exact DOk.cA [] [.agg (cTime (a29.2.2.getD (0+a41.toNat) zzd)),.agg (cTime (a29.2.2.getD (0+p1.toNat) zzd))] (z1k hr58) fun r=>(.cons (.refl _) (.cons (.refl _) .nil))
           exact⟨_,h,kr⟩
          ·refine z0u [.a [12] [],.a [13] [],.a [123,124] [],.m ⟨[(125,cD (.bool (decide (a40≤a41))))],[]⟩ ⟨[(126,.c (.d (.bool false)))],[]⟩ [] [] [],.a [4,126] [],.a [0,126] [],.a [13,126] [],.a [126,128,129] [],.a [126,130] [],.a [0,126] [],.a [1,126] [],.a [126,132,133] [],.a [126,134] [],.a [126,127,131,135] [],.a [126,136] [],.a [126,137] [],.a [126,138] []] [0,1,4,12,13,139] [5000] (z00 4) (.a (.a (.a (.m ?_ (.a (.a (.a (.a (.a (.a (.a (.a (.a (.a (.a (.a (.a .z))))))))))))))))) ?_
           ·exact z0l (fun b=> .val (.c (.d (.bool b))) (True)) (p:=(decide (a40≤a41))) hp53 (fun r=>by kernel_rfl) (fun r=>by kernel_rfl) trivial (by kernel_rfl) (by kernel_rfl) (fun r=>rfl)
           exact⟨_,h,kr⟩
        ·intro a42 h;refine z02 ?_;refine z22 [0,1,4,12,13,144] [5000] ⟨[(0,.c (oC 5000 3 a29.2.2)),(1,cD (dI p1)),(4,cD (.fn 32 [])),(12,cD (dI a40)),(13,cD (dI a42)),(144,cD (.bool (decide (a42<a40))))],[(5000,vL 3 z01 a29.2.2)]⟩ _ (by kernel_rfl) (z00 3) ?_;refine z06 h (fun h=>?_) (fun h=>?_)
         ·refine Tri.kp [0,1,4,12,13] [5000] ?_;refine Tri.exit ?_;cases h;exact⟨rfl,kr⟩
         ·refine Tri.skip ?_;refine z02 ?_;obtain⟨hc43,h⟩:=z03 h;obtain⟨hc44,h⟩:=z03 h;obtain⟨hc45,h⟩:=z03 h;obtain⟨hc46,h⟩:=z03 h;obtain⟨hc47,h⟩:=z03 h;obtain⟨hc48,h⟩:=z03 h;obtain⟨hc49,h⟩:=z03 h;obtain⟨hc50,h⟩:=z03 h;refine z2g ⟨[(0,.c (oC 5000 3 a29.2.2)),(1,cD (dI p1)),(4,cD (.fn 32 [])),(12,cD (dI a40)),(13,cD (dI a42))],[(5000,vL 3 z01 ((a29.2.2.set (0+a40.toNat) (a29.2.2.getD (0+a42.toNat) zzd)).set (0+a42.toNat) (a29.2.2.getD (0+a40.toNat) zzd)))]⟩ ?_ ?_
          ·refine z44 ⟨[(0,.c (oC 5000 3 a29.2.2)),(1,cD (dI p1)),(4,cD (.fn 32 [])),(12,cD (dI a40)),(13,cD (dI a42))],[(5000,vL 3 z01 ((a29.2.2.set (0+a40.toNat) (a29.2.2.getD (0+a42.toNat) zzd)).set (0+a42.toNat) (a29.2.2.getD (0+a40.toNat) zzd)))]⟩ [.a [0] [],.a [12] [],.a [0] [],.a [13] [],.a [0] [],.a [13] [],.a [149,150] [5000],.a [151] [5000],.a [0] [],.a [12] [],.a [153,154] [5000],.a [155] [5000],.a [145,146] [5000],.m ⟨[(152,.agg (cTime (a29.2.2.getD (0+a42.toNat) zzd))),(157,.c (.vptr 5000 3 (0+a40.toNat) 0))],[(5000,vL 3 z01 a29.2.2)]⟩ ⟨[],[(5000,vL 3 z01 (a29.2.2.set (0+a40.toNat) (a29.2.2.getD (0+a42.toNat) zzd)))]⟩ [] [] [],.a [147,148] [5000],.m ⟨[(156,.agg (cTime (a29.2.2.getD (0+a40.toNat) zzd))),(158,.c (.vptr 5000 3 (0+a42.toNat) 0))],[(5000,vL 3 z01 (a29.2.2.set (0+a40.toNat) (a29.2.2.getD (0+a42.toNat) zzd)))]⟩ ⟨[],[(5000,vL 3 z01 ((a29.2.2.set (0+a40.toNat) (a29.2.2.getD (0+a42.toNat) zzd)).set (0+a42.toNat) (a29.2.2.getD (0+a40.toNat) zzd)))]⟩ [] [] []] [0,1,4,12,13] [5000] (tN 6 (ai hc43 (ai hc44 (tN 2 (ai hc45 (ai hc46 (ai hc47 (ai hc49 trivial)))))))) (.a (.a (.a (.a (.a (.a (.a (.a (.a (.a (.a (.a (.a (.m ?_ (.a (.m ?_ .z)))))))))))))))) ?_
           ·exact DOk.one fun r hr=>z0p (xs:=[.d (dU ((a29.2.2.getD (0+a42.toNat) zzd).epoch)),.d (dU ((a29.2.2.getD (0+a42.toNat) zzd).loop.1)),.d (dU ((a29.2.2.getD (0+a42.toNat) zzd).loop.2))]) (ds:=[dU ((a29.2.2.getD (0+a42.toNat) zzd).epoch),dU ((a29.2.2.getD (0+a42.toNat) zzd).loop.1),dU ((a29.2.2.getD (0+a42.toNat) zzd).loop.2)]) (z01) a29.2.2 (a29.2.2.getD (0+a42.toNat) zzd) rfl (by kernel_rfl) rfl rfl rfl hc48 rfl rfl (.refl _) rfl rfl rfl rfl
           ·exact DOk.one fun r hr=>z0p (xs:=[.d (dU ((a29.2.2.getD (0+a40.toNat) zzd).epoch)),.d (dU ((a29.2.2.getD (0+a40.toNat) zzd).loop.1)),.d (dU ((a29.2.2.getD (0+a40.toNat) zzd).loop.2))]) (ds:=[dU ((a29.2.2.getD (0+a40.toNat) zzd).epoch),dU ((a29.2.2.getD (0+a40.toNat) zzd).loop.1),dU ((a29.2.2.getD (0+a40.toNat) zzd).loop.2)]) (z01) (a29.2.2.set (0+a40.toNat) (a29.2.2.getD (0+a42.toNat) zzd)) (a29.2.2.getD (0+a40.toNat) zzd) rfl (by kernel_rfl) rfl rfl rfl hc50 rfl rfl (.refl _) rfl rfl rfl rfl
           exact⟨rfl,rfl⟩
          ·refine At.eqS (s':=⟨[(0,.c (oC 5000 3 ((a29.2.2.set (0+a40.toNat) (a29.2.2.getD (0+a42.toNat) zzd)).set (0+a42.toNat) (a29.2.2.getD (0+a40.toNat) zzd)))),(1,cD (dI p1)),(4,cD (.fn 32 [])),(12,cD (dI a40)),(13,cD (dI a42))],[(5000,vL 3 z01 ((a29.2.2.set (0+a40.toNat) (a29.2.2.getD (0+a42.toNat) zzd)).set (0+a42.toNat) (a29.2.2.getD (0+a40.toNat) zzd)))]⟩) (by simp only[oC,vL,zza]) ?_;refine At.done rfl ?_;refine Tri.sg [0,1,4,12,13] [5000] (z00 3) ?_;refine z05 ?_;refine At.sg 3 [0,1,4,12,13] [5000] (z00 3) ?_;refine At.done rfl ?_;cases h;exact kr
        ·exact fun x=>x.elim
       ·exact fun x=>x.elim
      ·intro a30 h;refine z02 ?_;obtain⟨hc31,h⟩:=z03 h;obtain⟨hc32,h⟩:=z03 h;obtain⟨hc33,h⟩:=z03 h;obtain⟨hc34,h⟩:=z03 h;obtain⟨hc35,h⟩:=z03 h;obtain⟨hc36,h⟩:=z03 h;obtain⟨hc37,h⟩:=z03 h;obtain⟨hc38,h⟩:=z03 h;refine z0u [.a [0] [],.a [13] [],.a [0] [],.a [1] [],.a [0] [],.a [1] [],.a [167,168] [5000],.a [169] [5000],.a [0] [],.a [13] [],.a [171,172] [5000],.a [173] [5000],.a [163,164] [5000],.m ⟨[(170,.agg (cTime (a30.2.2.getD (0+p1.toNat) zzd))),(175,.c (.vptr 5000 3 (0+a30.2.1.toNat) 0))],[(5000,vL 3 z01 a30.2.2)]⟩ ⟨[],[(5000,vL 3 z01 (a30.2.2.set (0+a30.2.1.toNat) (a30.2.2.getD (0+p1.toNat) zzd)))]⟩ [] [] [],.a [165,166] [5000],.m ⟨[(174,.agg (cTime (a30.2.2.getD (0+a30.2.1.toNat) zzd))),(176,.c (.vptr 5000 3 (0+p1.toNat) 0))],[(5000,vL 3 z01 (a30.2.2.set (0+a30.2.1.toNat) (a30.2.2.getD (0+p1.toNat) zzd)))]⟩ ⟨[],[(5000,vL 3 z01 ((a30.2.2.set (0+a30.2.1.toNat) (a30.2.2.getD (0+p1.toNat) zzd)).set (0+p1.toNat) (a30.2.2.getD (0+a30.2.1.toNat) zzd)))]⟩ [] [] []] [13] [5000] (tN 6 (ai hc31 (ai hc32 (tN 2 (ai hc33 (ai hc34 (ai hc35 (ai hc37 trivial)))))))) (.a (.a (.a (.a (.a (.a (.a (.a (.a (.a (.a (.a (.a (.m ?_ (.a (.m ?_ .z)))))))))))))))) ?_
       ·exact DOk.one fun r hr=>z0p (xs:=[.d (dU ((a30.2.2.getD (0+p1.toNat) zzd).epoch)),.d (dU ((a30.2.2.getD (0+p1.toNat) zzd).loop.1)),.d (dU ((a30.2.2.getD (0+p1.toNat) zzd).loop.2))]) (ds:=[dU ((a30.2.2.getD (0+p1.toNat) zzd).epoch),dU ((a30.2.2.getD (0+p1.toNat) zzd).loop.1),dU ((a30.2.2.getD (0+p1.toNat) zzd).loop.2)]) (z01) a30.2.2 (a30.2.2.getD (0+p1.toNat) zzd) rfl (by kernel_rfl) rfl rfl rfl hc36 rfl rfl (.refl _) rfl rfl rfl rfl
       ·exact DOk.one fun r hr=>z0p (xs:=[.d (dU ((a30.2.2.getD (0+a30.2.1.toNat) zzd).epoch)),.d (dU ((a30.2.2.getD (0+a30.2.1.toNat) zzd).loop.1)),.d (dU ((a30.2.2.getD (0+a30.2.1.toNat) zzd).loop.2))]) (ds:=[dU ((a30.2.2.getD (0+a30.2.1.toNat) zzd).epoch),dU ((a30.2.2.getD (0+a30.2.1.toNat) zzd).loop.1),dU ((a30.2.2.getD (0+a30.2.1.toNat) zzd).loop.2)]) (z01) (a30.2.2.set (0+a30.2.1.toNat) (a30.2.2.getD (0+p1.toNat) zzd)) (a30.2.2.getD (0+a30.2.1.toNat) zzd) rfl (by kernel_rfl) rfl rfl rfl hc38 rfl rfl (.refl _) rfl rfl rfl rfl
       refine Tri.sg [10,11] [5000] (z00 3) ?_;refine Tri.ret ?_;cases h;exact RetAt.k
      ·exact fun x=>x.elim
   ·exact fun x=>x.elim
  ·exact fun x=>x.elim
theorem z9j {p0:Int}{q:Int}(h:z3i p0=some q):
 Summ Tryz.prog 101 [cD (dI p0)] [] (cD (dU q)) []:=by
 refine Summ.i Tryz.func101 rfl [] fun w0 G0 V LL φ0=>?_;unfold z3i at h;refine Tri.sg [0] [] (z00 1) ?_;refine z02 ?_;refine z05 ?_;refine At.sg 2 [4] [] (z00 2) ?_;obtain⟨r1,hr1,h⟩:=bind_elim h;refine At.cA [] [cD (dU (zzu.wrap p0))] (z9e hr1) (.cons (.refl _) .nil) ?_;obtain⟨hc2,h⟩:=z03 h;refine At.sg 2 [2] [] (ai hc2 (z00 1)) ?_;refine At.done rfl ?_;refine Tri.ret ?_;cases h;exact RetAt.k
theorem z8s {l0:Int}{q:Int×Int}(h:z33 l0=some q):
 Summ Tryz.prog 102 [.c (.ptr 5000 0)] [(5000,.box [.d (dU l0)])] (cD (dU q.1)) [(5000,.box [.d (dU q.2)])]:=by
 refine Summ.i Tryz.func102 rfl [] fun w0 G0 V LL φ0=>?_;unfold z33 at h;refine Tri.sg [0] [5000] (z00 1) ?_;refine z02 ?_;refine z0u [.a [0] [],.a [3] [],.a [4] [5000],.a [0] [],.a [6] [],.a [7] [5000],.a [8] [],.a [5,9] [],.a [3] [],.m ⟨[(10,cD (dU (z09 .xor .u64 l0 (shlOp .u64 l0 13)))),(11,.c (.ptr 5000 0))],[(5000,.box [.d (dU l0)])]⟩ ⟨[],[(5000,.box [.d (dU (z09 .xor .u64 l0 (shlOp .u64 l0 13)))])]⟩ [] [] []] [0] [5000] (tN 6 (ai (show((0:Int)≤13)from(by decide:(0:Int)≤13)) (z00 2))) (.a (.a (.a (.a (.a (.a (.a (.a (.a (.m ?_ .z)))))))))) ?_
 ·exact DOk.step (.turn 5000 (.box [.d (dU (z09 .xor .u64 l0 (shlOp .u64 l0 13)))])) (fun r=>by kernel_rfl) (fun r=>by kernel_rfl) trivial (by kernel_rfl) (by kernel_rfl) (fun r=>rfl)
 refine z02 ?_;refine z0u [.a [0] [],.a [12] [],.a [13] [5000],.a [0] [],.a [15] [],.a [16] [5000],.a [17] [],.a [14,18] [],.a [12] [],.m ⟨[(19,cD (dU (z09 .xor .u64 (z09 .xor .u64 l0 (shlOp .u64 l0 13)) (shrOp .u64 (z09 .xor .u64 l0 (shlOp .u64 l0 13)) 7)))),(20,.c (.ptr 5000 0))],[(5000,.box [.d (dU (z09 .xor .u64 l0 (shlOp .u64 l0 13)))])]⟩ ⟨[],[(5000,.box [.d (dU (z09 .xor .u64 (z09 .xor .u64 l0 (shlOp .u64 l0 13)) (shrOp .u64 (z09 .xor .u64 l0 (shlOp .u64 l0 13)) 7)))])]⟩ [] [] []] [0] [5000] (tN 6 (ai (show((0:Int)≤7)from(by decide:(0:Int)≤7)) (z00 2))) (.a (.a (.a (.a (.a (.a (.a (.a (.a (.m ?_ .z)))))))))) ?_
 ·exact DOk.step (.turn 5000 (.box [.d (dU (z09 .xor .u64 (z09 .xor .u64 l0 (shlOp .u64 l0 13)) (shrOp .u64 (z09 .xor .u64 l0 (shlOp .u64 l0 13)) 7)))])) (fun r=>by kernel_rfl) (fun r=>by kernel_rfl) trivial (by kernel_rfl) (by kernel_rfl) (fun r=>rfl)
 refine z02 ?_;refine z0u [.a [0] [],.a [21] [],.a [22] [5000],.a [0] [],.a [24] [],.a [25] [5000],.a [26] [],.a [23,27] [],.a [21] [],.m ⟨[(28,cD (dU (z09 .xor .u64 (z09 .xor .u64 (z09 .xor .u64 l0 (shlOp .u64 l0 13)) (shrOp .u64 (z09 .xor .u64 l0 (shlOp .u64 l0 13)) 7)) (shlOp .u64 (z09 .xor .u64 (z09 .xor .u64 l0 (shlOp .u64 l0 13)) (shrOp .u64 (z09 .xor .u64 l0 (shlOp .u64 l0 13)) 7)) 17)))),(29,.c (.ptr 5000 0))],[(5000,.box [.d (dU (z09 .xor .u64 (z09 .xor .u64 l0 (shlOp .u64 l0 13)) (shrOp .u64 (z09 .xor .u64 l0 (shlOp .u64 l0 13)) 7)))])]⟩ ⟨[],[(5000,.box [.d (dU (z09 .xor .u64 (z09 .xor .u64 (z09 .xor .u64 l0 (shlOp .u64 l0 13)) (shrOp .u64 (z09 .xor .u64 l0 (shlOp .u64 l0 13)) 7)) (shlOp .u64 (z09 .xor .u64 (z09 .xor .u64 l0 (shlOp .u64 l0 13)) (shrOp .u64 (z09 .xor .u64 l0 (shlOp .u64 l0 13)) 7)) 17)))])]⟩ [] [] []] [0] [5000] (tN 6 (ai (show((0:Int)≤17)from(by decide:(0:Int)≤17)) (z00 2))) (.a (.a (.a (.a (.a (.a (.a (.a (.a (.m ?_ .z)))))))))) ?_
 ·exact DOk.step (.turn 5000 (.box [.d (dU (z09 .xor .u64 (z09 .xor .u64 (z09 .xor .u64 l0 (shlOp .u64 l0 13)) (shrOp .u64 (z09 .xor .u64 l0 (shlOp .u64 l0 13)) 7)) (shlOp .u64 (z09 .xor .u64 (z09 .xor .u64 l0 (shlOp .u64 l0 13)) (shrOp .u64 (z09 .xor .u64 l0 (shlOp .u64 l0 13)) 7)) 17)))])) (fun r=>by kernel_rfl) (fun r=>by kernel_rfl) trivial (by kernel_rfl) (by kernel_rfl) (fun r=>rfl)
 refine Tri.sg [2] [5000] (z00 4) ?_;refine Tri.ret ?_;cases h;exact RetAt.k
theorem z53 {fuel:Nat}{p1:Int}{p2:Int}{l0:List Time}{q:List Time}(h:z11 fuel p1 p2 l0=some q):
 Summ Tryz.prog 82 [.c (oC 5000 3 l0),cD (dI p1),cD (dI p2),cD (.fn 32 [])] [(5000,vL 3 z01 l0)] (.tup []) [(5000,vL 3 z01 q)]:=by
 refine Summ.i Tryz.func82 rfl [] fun w0 G0 V LL φ0=>?_;unfold z11 at h;refine Tri.sg [0,1,8] [5000] (z00 4) ?_;refine Tri.sg [0,1,8,17] [5000] (z00 2) ?_;refine z06 h (fun h=>?_) (fun h=>?_)
 ·refine Tri.sg [0,1,8,9] [9,5000] (z00 4) ?_;refine z02 ?_;refine z05 ?_;refine At.sg 1 [0,1,8,9,20] [9,5000] (z00 1) ?_;obtain⟨r1,hr1,h⟩:=bind_elim h;refine At.cA [] [cD (dI (zzi.wrap (p2-p1)))] (z9j hr1) (.cons (.refl _) .nil) ?_;refine At.sg 1 [0,1,8,9,10] [9,5000] (z00 1) ?_;refine At.done rfl ?_;refine Tri.sg [0,1,8,9,10,11] [9,5000] (tN 2 (ai (show((4:Int)≠0)from(by decide:(4:Int)≠0)) (z00 4))) ?_;refine Tri.keep [0,1,8,9,10,11] [9,5000] (s':=⟨[(0,.c (oC 5000 3 l0)),(1,cD (dI p1)),(8,cD (dI (zzi.wrap (p2-p1)))),(9,.c (.ptr 9 0)),(10,cD (dU r1)),(11,cD (dI (zzi.wrap ((zzi.wrap (p1+(zzi.wrap ((zzi.wrap ((zzi.wrap (p2-p1)).tdiv 4))*2))))-1))))],[(9,.box [.d (dU (zzu.wrap (zzi.wrap (p2-p1))))]),(5000,vL 3 z01 l0)]⟩) (by kernel_rfl) ?_;refine z5b (fuel:=fuel) (st0:=((zzi.wrap (p2-p1)),(zzi.wrap ((zzi.wrap (p1+(zzi.wrap ((zzi.wrap ((zzi.wrap (p2-p1)).tdiv 4))*2))))-1)),(zzu.wrap (zzi.wrap (p2-p1))),l0)) (fun(x:Empty) s=>False) (fun(a2:Int×Int×Int×(List Time))=>⟨[(0,.c (oC 5000 3 a2.2.2.2)),(1,cD (dI p1)),(8,cD (dI a2.1)),(9,.c (.ptr 9 0)),(10,cD (dU r1)),(11,cD (dI a2.2.1))],[(9,.box [.d (dU a2.2.2.1)]),(5000,vL 3 z01 a2.2.2.2)]⟩) (fun(a2:Int×Int×Int×(List Time))=>⟨[],[(5000,vL 3 z01 a2.2.2.2)]⟩) h ?_ ?_ ?_
  ·intro a2 c h;refine z02 ?_;refine Tri.sg [0,1,8,9,10,11,35] [9,5000] (tN 3 (ai (show((4:Int)≠0)from(by decide:(4:Int)≠0)) (z00 4))) ?_;refine z06 h (fun h=>?_) (fun h=>?_)
   ·refine Tri.skip ?_;refine z02 ?_;refine z0y ?_;refine z02 ?_;refine z05 ?_;obtain⟨r4,hr4,h⟩:=bind_elim h;refine z25 0 [] [.c (.ptr 9 0)] [(5000,9)] [0,1,8,9,10,11] [5000] (z8s hr4) (.ren rfl rfl .nil) ?_;refine At.sg 5 [0,1,8,9,10,11,12] [9,5000] (z00 5) ?_;refine At.done rfl ?_;refine z0f (fun(a5:Int)=>⟨[(0,.c (oC 5000 3 a2.2.2.2)),(1,cD (dI p1)),(8,cD (dI a2.1)),(9,.c (.ptr 9 0)),(10,cD (dU r1)),(11,cD (dI a2.2.1)),(12,cD (dI a5))],[(9,.box [.d (dU r4.2)]),(5000,vL 3 z01 a2.2.2.2)]⟩) h (fun a5 h=>?_) (fun j6 h=>?_)
    ·refine Tri.eqS ⟨[(0,.c (oC 5000 3 a2.2.2.2)),(1,cD (dI p1)),(8,cD (dI a2.1)),(9,.c (.ptr 9 0)),(10,cD (dU r1)),(11,cD (dI a2.2.1)),(12,cD (dI a5))],[(9,.box [.d (dU r4.2)]),(5000,vL 3 z01 a2.2.2.2)]⟩ kr ?_;obtain⟨hc7,h⟩:=z03 h;obtain⟨hc8,h⟩:=z03 h;obtain⟨hc9,h⟩:=z03 h;obtain⟨hc10,h⟩:=z03 h;obtain⟨hc11,h⟩:=z03 h;obtain⟨hc12,h⟩:=z03 h;obtain⟨hc13,h⟩:=z03 h;obtain⟨hc14,h⟩:=z03 h;refine z2g ⟨[(0,.c (oC 5000 3 a2.2.2.2)),(1,cD (dI p1)),(8,cD (dI a2.1)),(9,.c (.ptr 9 0)),(10,cD (dU r1)),(11,cD (dI a2.2.1))],[(9,.box [.d (dU r4.2)]),(5000,vL 3 z01 ((a2.2.2.2.set (0+a2.2.1.toNat) (a2.2.2.2.getD (0+(zzi.wrap (p1+a5)).toNat) zzd)).set (0+(zzi.wrap (p1+a5)).toNat) (a2.2.2.2.getD (0+a2.2.1.toNat) zzd)))]⟩ ?_ ?_
     ·refine z44 ⟨[(0,.c (oC 5000 3 a2.2.2.2)),(1,cD (dI p1)),(8,cD (dI a2.1)),(9,.c (.ptr 9 0)),(10,cD (dU r1)),(11,cD (dI a2.2.1))],[(9,.box [.d (dU r4.2)]),(5000,vL 3 z01 ((a2.2.2.2.set (0+a2.2.1.toNat) (a2.2.2.2.getD (0+(zzi.wrap (p1+a5)).toNat) zzd)).set (0+(zzi.wrap (p1+a5)).toNat) (a2.2.2.2.getD (0+a2.2.1.toNat) zzd)))]⟩ [.a [0] [],.a [11] [],.a [0] [],.a [1] [],.a [12] [],.a [52,53] [],.a [0] [],.a [1] [],.a [12] [],.a [56,57] [],.a [55,58] [5000],.a [59] [5000],.a [0] [],.a [11] [],.a [61,62] [5000],.a [63] [5000],.a [49,50] [5000],.m ⟨[(60,.agg (cTime (a2.2.2.2.getD (0+(zzi.wrap (p1+a5)).toNat) zzd))),(65,.c (.vptr 5000 3 (0+a2.2.1.toNat) 0))],[(5000,vL 3 z01 a2.2.2.2)]⟩ ⟨[],[(5000,vL 3 z01 (a2.2.2.2.set (0+a2.2.1.toNat) (a2.2.2.2.getD (0+(zzi.wrap (p1+a5)).toNat) zzd)))]⟩ [] [] [],.a [51,54] [5000],.m ⟨[(64,.agg (cTime (a2.2.2.2.getD (0+a2.2.1.toNat) zzd))),(66,.c (.vptr 5000 3 (0+(zzi.wrap (p1+a5)).toNat) 0))],[(5000,vL 3 z01 (a2.2.2.2.set (0+a2.2.1.toNat) (a2.2.2.2.getD (0+(zzi.wrap (p1+a5)).toNat) zzd)))]⟩ ⟨[],[(5000,vL 3 z01 ((a2.2.2.2.set (0+a2.2.1.toNat) (a2.2.2.2.getD (0+(zzi.wrap (p1+a5)).toNat) zzd)).set (0+(zzi.wrap (p1+a5)).toNat) (a2.2.2.2.getD (0+a2.2.1.toNat) zzd)))]⟩ [] [] []] [0,1,8,9,10,11] [9,5000] (tN 10 (ai hc7 (ai hc8 (tN 2 (ai hc9 (ai hc10 (ai hc11 (ai hc13 trivial)))))))) (.a (.a (.a (.a (.a (.a (.a (.a (.a (.a (.a (.a (.a (.a (.a (.a (.a (.m ?_ (.a (.m ?_ .z)))))))))))))))))))) ?_
      ·exact DOk.one fun r hr=>z0p (xs:=[.d (dU ((a2.2.2.2.getD (0+(zzi.wrap (p1+a5)).toNat) zzd).epoch)),.d (dU ((a2.2.2.2.getD (0+(zzi.wrap (p1+a5)).toNat) zzd).loop.1)),.d (dU ((a2.2.2.2.getD (0+(zzi.wrap (p1+a5)).toNat) zzd).loop.2))]) (ds:=[dU ((a2.2.2.2.getD (0+(zzi.wrap (p1+a5)).toNat) zzd).epoch),dU ((a2.2.2.2.getD (0+(zzi.wrap (p1+a5)).toNat) zzd).loop.1),dU ((a2.2.2.2.getD (0+(zzi.wrap (p1+a5)).toNat) zzd).loop.2)]) (z01) a2.2.2.2 (a2.2.2.2.getD (0+(zzi.wrap (p1+a5)).toNat) zzd) rfl (by kernel_rfl) rfl rfl rfl hc12 rfl rfl (.refl _) rfl rfl rfl rfl
      ·exact DOk.one fun r hr=>z0p (xs:=[.d (dU ((a2.2.2.2.getD (0+a2.2.1.toNat) zzd).epoch)),.d (dU ((a2.2.2.2.getD (0+a2.2.1.toNat) zzd).loop.1)),.d (dU ((a2.2.2.2.getD (0+a2.2.1.toNat) zzd).loop.2))]) (ds:=[dU ((a2.2.2.2.getD (0+a2.2.1.toNat) zzd).epoch),dU ((a2.2.2.2.getD (0+a2.2.1.toNat) zzd).loop.1),dU ((a2.2.2.2.getD (0+a2.2.1.toNat) zzd).loop.2)]) (z01) (a2.2.2.2.set (0+a2.2.1.toNat) (a2.2.2.2.getD (0+(zzi.wrap (p1+a5)).toNat) zzd)) (a2.2.2.2.getD (0+a2.2.1.toNat) zzd) rfl (by kernel_rfl) rfl rfl rfl hc14 rfl rfl (.refl _) rfl rfl rfl rfl
      exact⟨rfl,rfl⟩
     ·refine At.eqS (s':=⟨[(0,.c (oC 5000 3 ((a2.2.2.2.set (0+a2.2.1.toNat) (a2.2.2.2.getD (0+(zzi.wrap (p1+a5)).toNat) zzd)).set (0+(zzi.wrap (p1+a5)).toNat) (a2.2.2.2.getD (0+a2.2.1.toNat) zzd)))),(1,cD (dI p1)),(8,cD (dI a2.1)),(9,.c (.ptr 9 0)),(10,cD (dU r1)),(11,cD (dI a2.2.1))],[(9,.box [.d (dU r4.2)]),(5000,vL 3 z01 ((a2.2.2.2.set (0+a2.2.1.toNat) (a2.2.2.2.getD (0+(zzi.wrap (p1+a5)).toNat) zzd)).set (0+(zzi.wrap (p1+a5)).toNat) (a2.2.2.2.getD (0+a2.2.1.toNat) zzd)))]⟩) (by simp only[oC,vL,zza]) ?_;refine At.done rfl ?_;refine z05 ?_;refine At.sg 3 [0,1,8,9,10,11] [9,5000] (z00 3) ?_;refine At.done rfl ?_;cases h;exact kr
    ·refine Tri.sg [0,1,8,9,10,11,12,45] [9,5000] (z00 3) ?_;refine z06 h (fun h=>?_) (fun h=>?_)
     ·refine z05 ?_;refine At.sg 4 [0,1,8,9,10,11,12] [9,5000] (z00 4) ?_;refine At.done rfl ?_;exact⟨_,h,kr⟩
     ·refine Tri.kp [0,1,8,9,10,11,12] [9,5000] ?_;refine Tri.skip ?_;exact⟨_,h,kr⟩
   ·refine Tri.kp [] [5000] ?_;refine Tri.exit ?_;cases h;exact⟨rfl,kr⟩
  ·intro a3 h;cases h;exact RetAt.k
  ·exact fun x=>x.elim
 ·refine Tri.kp [] [5000] ?_;refine Tri.skip ?_;cases h;exact RetAt.k
theorem z66 {fuel:Nat}{p1:Int}{p2:Int}{p3:Int}{l0:List Time}{q:List Time}(h:z0g fuel p1 p2 p3 l0=some q):
 Summ Tryz.prog 52 [.c (oC 5000 3 l0),cD (dI p1),cD (dI p2),cD (dI p3),cD (.fn 32 [])] [(5000,vL 3 z01 l0)] (.tup []) [(5000,vL 3 z01 q)]:=by
 induction fuel generalizing p1 p2 p3 l0 q with
 |zero=>rw[z0g.eq_1]at h;cases h
 |succ fuel ih=>
  refine Summ.i Tryz.func52 rfl [] fun w0 G0 V LL φ0=>?_;rw[z0g.eq_2]at h;refine Tri.sg [0,1,2,3,4,10] [5000] (z00 1) ?_;refine Tri.sg [0,1,2,3,4,10,11] [5000] (z00 1) ?_;refine z4v (p1,p2,p3,true,true,l0) (fun(x:List Time) s=>RetAt Tryz.prog Tryz.f52 (.tup []) [(5000,vL 3 z01 x)] s) (fun(a1:Int×Int×Int×Bool×Bool×(List Time))=>⟨[(0,.c (oC 5000 3 a1.2.2.2.2.2)),(1,cD (dI a1.1)),(2,cD (dI a1.2.1)),(3,cD (dI a1.2.2.1)),(4,cD (.fn 32 [])),(10,cD (.bool a1.2.2.2.1)),(11,cD (.bool a1.2.2.2.2.1))],[(5000,vL 3 z01 a1.2.2.2.2.2)]⟩) [0,1,2,3,4,10,11] [5000] h ?_ ?_ ?_
  ·intro a1 c h;refine z0y ?_;refine Tri.sg [0,1,2,3,4,10,11,12] [5000] (z00 4) ?_;refine z02 ?_;refine Tri.sg [0,1,2,3,4,10,11,12,25] [5000] (z00 2) ?_;refine z06 h (fun h=>?_) (fun h=>?_)
   ·refine z02 ?_;refine z05 ?_;refine At.sg 4 [26,27,28,29] [5000] (z00 4) ?_;obtain⟨r3,hr3,h⟩:=bind_elim h;refine z25 0 [] [.c (oC 5000 3 a1.2.2.2.2.2),cD (dI a1.1),cD (dI a1.2.1),cD (.fn 32 [])] [(5000,5000)] [] [] (z54 hr3) (.ren rfl rfl (.flat (.refl _) rfl rfl (.flat (.refl _) rfl rfl (.flat (.refl _) rfl rfl .nil)))) ?_;refine At.done rfl ?_;refine Tri.ret ?_;cases h;exact RetAt.k
   ·refine Tri.skip ?_;refine z02 ?_;refine Tri.sg [0,1,2,3,4,10,11,12,32] [5000] (z00 2) ?_;refine z06 h (fun h=>?_) (fun h=>?_)
    ·refine z02 ?_;refine z05 ?_;refine At.sg 4 [33,34,35,36] [5000] (z00 4) ?_;obtain⟨r4,hr4,h⟩:=bind_elim h;refine z25 0 [] [.c (oC 5000 3 a1.2.2.2.2.2),cD (dI a1.1),cD (dI a1.2.1),cD (.fn 32 [])] [(5000,5000)] [] [] (z63 hr4) (.ren rfl rfl (.flat (.refl _) rfl rfl (.flat (.refl _) rfl rfl (.flat (.refl _) rfl rfl .nil)))) ?_;refine At.done rfl ?_;refine Tri.ret ?_;cases h;exact RetAt.k
    ·refine Tri.skip ?_;refine z0f (fun(a5:Int×Int×(List Time))=>⟨[(0,.c (oC 5000 3 a5.2.2)),(1,cD (dI a1.1)),(2,cD (dI a1.2.1)),(3,cD (dI a5.1)),(4,cD (.fn 32 [])),(10,cD (.bool a1.2.2.2.1)),(11,cD (.bool a1.2.2.2.2.1)),(12,cD (dI a5.2.1))],[(5000,vL 3 z01 a5.2.2)]⟩) h (fun a5 h=>?_) (fun j6 h=>?_)
     ·refine z02 ?_;refine z05 ?_;refine At.seg 4 [0,1,2,3,4,10,11,12,48,49,50,51] [5000] (s':=⟨[(0,.c (oC 5000 3 a5.2.2)),(1,cD (dI a1.1)),(2,cD (dI a1.2.1)),(3,cD (dI a5.1)),(4,cD (.fn 32 [])),(10,cD (.bool a1.2.2.2.1)),(11,cD (.bool a1.2.2.2.2.1)),(12,cD (dI a5.2.1)),(48,.c (oC 5000 3 a5.2.2)),(49,cD (dI a1.1)),(50,cD (dI a1.2.1)),(51,cD (.fn 32 []))],[(5000,vL 3 z01 a5.2.2)]⟩) (by kernel_rfl) (z00 4) ?_;obtain⟨r7,hr7,h⟩:=bind_elim h;refine At.cA [] [.c (oC 5000 3 a5.2.2),cD (dI a1.1),cD (dI a1.2.1),cD (.fn 32 [])] (z5k hr7) (.cons (AVArg.view (z01) a5.2.2 rfl) (.cons (.refl _) (.cons (.refl _) (.cons (.refl _) .nil)))) ?_;refine At.sg 5 [0,1,2,3,4,10,11,12,13,14] [5000] (z00 5) ?_;refine At.done rfl ?_;refine z0f (fun(a8:Int×Int×(List Time))=>⟨[(0,.c (oC 5000 3 a8.2.2)),(1,cD (dI a1.1)),(2,cD (dI a1.2.1)),(3,cD (dI a5.1)),(4,cD (.fn 32 [])),(10,cD (.bool a1.2.2.2.1)),(11,cD (.bool a1.2.2.2.2.1)),(12,cD (dI a5.2.1)),(13,cD (dI a8.1)),(14,cD (dI a8.2.1))],[(5000,vL 3 z01 a8.2.2)]⟩) h (fun a8 h=>?_) (fun j9 h=>?_)
      ·refine z0f (fun(a10:Bool×Bool×(List Time))=>⟨[(0,.c (oC 5000 3 a10.2.2)),(1,cD (dI a1.1)),(2,cD (dI a1.2.1)),(3,cD (dI a5.1)),(4,cD (.fn 32 [])),(10,cD (.bool a10.1)),(11,cD (.bool a10.2.1)),(12,cD (dI a5.2.1)),(13,cD (dI a8.1))],[(5000,vL 3 z01 a10.2.2)]⟩) h (fun a10 h=>?_) (fun j11 h=>?_)
       ·refine Tri.eqS ⟨[(0,.c (oC 5000 3 a10.2.2)),(1,cD (dI a1.1)),(2,cD (dI a1.2.1)),(3,cD (dI a5.1)),(4,cD (.fn 32 [])),(10,cD (.bool a10.1)),(11,cD (.bool a10.2.1)),(12,cD (dI a5.2.1)),(13,cD (dI a8.1))],[(5000,vL 3 z01 a10.2.2)]⟩ kr ?_;refine z02 ?_;refine z0f (fun(a12:Bool)=>⟨[(0,.c (oC 5000 3 a10.2.2)),(1,cD (dI a1.1)),(2,cD (dI a1.2.1)),(3,cD (dI a5.1)),(4,cD (.fn 32 [])),(10,cD (.bool a10.1)),(11,cD (.bool a10.2.1)),(12,cD (dI a5.2.1)),(13,cD (dI a8.1)),(97,cD (.bool a12))],[(5000,vL 3 z01 a10.2.2)]⟩) h (fun a12 h=>?_) (fun j13 h=>?_)
        ·refine z06 h (fun h=>?_) (fun h=>?_)
         ·refine z02 ?_;refine z05 ?_;refine At.sg 5 [0,2,3,4,10,11,98,99,100,101,102] [5000] (z00 5) ?_;obtain⟨r14,hr14,h⟩:=bind_elim h;refine At.callL (nf:=0) (caps:=[]) (xs:=[.c (oC 5000 3 a10.2.2),cD (dI a1.1),cD (dI a1.2.1),cD (dI a8.1),cD (.fn 32 [])]) [(5000,5000)] [0,2,3,4,10,11] [] (s0:=⟨[(0,.c (oC 5000 3 a10.2.2)),(2,cD (dI a1.2.1)),(3,cD (dI a5.1)),(4,cD (.fn 32 [])),(10,cD (.bool a10.1)),(11,cD (.bool a10.2.1))],[]⟩) (z52 hr14) rfl rfl (by kernel_rfl) rfl (by kernel_rfl) (by kernel_rfl) (.ren rfl rfl (.flat (.refl _) rfl rfl (.flat (.refl _) rfl rfl (.flat (.refl _) rfl rfl (.flat (.refl _) rfl rfl .nil))))) ⟨⟨by kernel_rfl,by kernel_rfl⟩,trivial⟩ (by kernel_rfl) (by kernel_rfl) (by kernel_rfl) (by kernel_rfl) (by kernel_rfl) (by kernel_rfl) (by kernel_rfl) (by kernel_rfl) (by kernel_rfl) ⟨[(103,cD (dI r14.1)),(0,.c (oC 5000 3 a10.2.2)),(2,cD (dI a1.2.1)),(3,cD (dI a5.1)),(4,cD (.fn 32 [])),(10,cD (.bool a10.1)),(11,cD (.bool a10.2.1))],[(5000,vL 3 z01 r14.2)]⟩ (by kernel_rfl) ?_;obtain⟨hc15,h⟩:=z03 h;refine At.eqS ⟨[(103,cD (dI r14.1)),(0,.c (oC 5000 3 r14.2)),(2,cD (dI a1.2.1)),(3,cD (dI a5.1)),(4,cD (.fn 32 [])),(10,cD (.bool a10.1)),(11,cD (.bool a10.2.1))],[(5000,vL 3 z01 r14.2)]⟩ (by simp only[oC,vL,hc15]) ?_;refine At.sg 1 [0,2,3,4,10,11,15] [5000] (z00 1) ?_;refine At.done rfl ?_;refine Tri.sg [0,1,2,3,4,10,11] [5000] (z00 2) ?_;refine Tri.kp [0,1,2,3,4,10,11] [5000] ?_;refine Tri.exit ?_;cases h;exact kr
         ·refine Tri.skip ?_;refine z02 ?_;refine z05 ?_;refine At.sg 5 [0,1,2,3,4,12,106,107,108,109,110] [5000] (z00 5) ?_;obtain⟨r16,hr16,h⟩:=bind_elim h;refine At.callL (nf:=0) (caps:=[]) (xs:=[.c (oC 5000 3 a10.2.2),cD (dI a1.1),cD (dI a1.2.1),cD (dI a8.1),cD (.fn 32 [])]) [(5000,5000)] [0,1,2,3,4,12] [] (s0:=⟨[(0,.c (oC 5000 3 a10.2.2)),(1,cD (dI a1.1)),(2,cD (dI a1.2.1)),(3,cD (dI a5.1)),(4,cD (.fn 32 [])),(12,cD (dI a5.2.1))],[]⟩) (z61 hr16) rfl rfl (by kernel_rfl) rfl (by kernel_rfl) (by kernel_rfl) (.ren rfl rfl (.flat (.refl _) rfl rfl (.flat (.refl _) rfl rfl (.flat (.refl _) rfl rfl (.flat (.refl _) rfl rfl .nil))))) ⟨⟨by kernel_rfl,by kernel_rfl⟩,trivial⟩ (by kernel_rfl) (by kernel_rfl) (by kernel_rfl) (by kernel_rfl) (by kernel_rfl) (by kernel_rfl) (by kernel_rfl) (by kernel_rfl) (by kernel_rfl) ⟨[(111,.tup [(false,[.d (dI r16.1)]),(false,[.d (.bool r16.2.1)])]),(0,.c (oC 5000 3 a10.2.2)),(1,cD (dI a1.1)),(2,cD (dI a1.2.1)),(3,cD (dI a5.1)),(4,cD (.fn 32 [])),(12,cD (dI a5.2.1))],[(5000,vL 3 z01 r16.2.2)]⟩ (by kernel_rfl) ?_;obtain⟨hc17,h⟩:=z03 h;refine At.eqS ⟨[(111,.tup [(false,[.d (dI r16.1)]),(false,[.d (.bool r16.2.1)])]),(0,.c (oC 5000 3 r16.2.2)),(1,cD (dI a1.1)),(2,cD (dI a1.2.1)),(3,cD (dI a5.1)),(4,cD (.fn 32 [])),(12,cD (dI a5.2.1))],[(5000,vL 3 z01 r16.2.2)]⟩ (by simp only[oC,vL,hc17]) ?_;refine At.sg 5 [0,1,2,3,4,12,16,17] [5000] (z00 5) ?_;refine At.done rfl ?_;refine Tri.sg [0,1,2,3,4,11,12,16] [5000] (z00 2) ?_;refine Tri.sg [0,1,2,3,4,11,12,16,18,19] [5000] (z00 8) ?_;refine Tri.sg [0,1,2,3,4,11,16,18,19,20] [5000] (tN 1 (ai (show((8:Int)≠0)from(by decide:(8:Int)≠0)) (z00 1))) ?_;refine Tri.sg [0,1,2,3,4,11,16,18,19,20,125] [5000] (z00 3) ?_;refine z06 h (fun h=>?_) (fun h=>?_)
          ·refine Tri.sg [0,1,2,3,4,10,11,16] [5000] (z00 4) ?_;refine z02 ?_;refine z05 ?_;refine At.sg 5 [0,2,3,4,10,11,16,129,130,131,132,133] [5000] (z00 5) ?_;obtain⟨r18,hr18,h⟩:=bind_elim h;refine At.callL (nf:=0) (caps:=[]) (xs:=[.c (oC 5000 3 r16.2.2),cD (dI a1.1),cD (dI r16.1),cD (dI a5.1),cD (.fn 32 [])]) [(5000,5000)] [0,2,3,4,10,11,16] [] (s0:=⟨[(0,.c (oC 5000 3 r16.2.2)),(2,cD (dI a1.2.1)),(3,cD (dI a5.1)),(4,cD (.fn 32 [])),(10,cD (.bool (decide ((zzi.wrap (a5.2.1.tdiv 8))≤(zzi.wrap (r16.1-a1.1)))))),(11,cD (.bool r16.2.1)),(16,cD (dI r16.1))],[]⟩) (ih hr18) rfl rfl (by kernel_rfl) rfl (by kernel_rfl) (by kernel_rfl) (.ren rfl rfl (.flat (.refl _) rfl rfl (.flat (.refl _) rfl rfl (.flat (.refl _) rfl rfl (.flat (.refl _) rfl rfl .nil))))) ⟨⟨by kernel_rfl,by kernel_rfl⟩,trivial⟩ (by kernel_rfl) (by kernel_rfl) (by kernel_rfl) (by kernel_rfl) (by kernel_rfl) (by kernel_rfl) (by kernel_rfl) (by kernel_rfl) (by kernel_rfl) ⟨[(134,.tup []),(0,.c (oC 5000 3 r16.2.2)),(2,cD (dI a1.2.1)),(3,cD (dI a5.1)),(4,cD (.fn 32 [])),(10,cD (.bool (decide ((zzi.wrap (a5.2.1.tdiv 8))≤(zzi.wrap (r16.1-a1.1)))))),(11,cD (.bool r16.2.1)),(16,cD (dI r16.1))],[(5000,vL 3 z01 r18)]⟩ (by kernel_rfl) ?_;obtain⟨hc19,h⟩:=z03 h;refine At.eqS ⟨[(134,.tup []),(0,.c (oC 5000 3 r18)),(2,cD (dI a1.2.1)),(3,cD (dI a5.1)),(4,cD (.fn 32 [])),(10,cD (.bool (decide ((zzi.wrap (a5.2.1.tdiv 8))≤(zzi.wrap (r16.1-a1.1)))))),(11,cD (.bool r16.2.1)),(16,cD (dI r16.1))],[(5000,vL 3 z01 r18)]⟩ (by simp only[oC,vL,hc19]) ?_;refine At.done rfl ?_;refine z05 ?_;refine At.sg 3 [0,1,2,3,4,10,11] [5000] (z00 3) ?_;refine At.done rfl ?_;cases h;exact kr
          ·refine Tri.sg [0,1,2,3,4,10,11,16] [5000] (z00 4) ?_;refine z02 ?_;refine z05 ?_;refine At.sg 6 [0,1,3,4,10,11,16,140,142,143,144,145] [5000] (z00 6) ?_;obtain⟨r20,hr20,h⟩:=bind_elim h;refine At.callL (nf:=0) (caps:=[]) (xs:=[.c (oC 5000 3 r16.2.2),cD (dI (zzi.wrap (r16.1+1))),cD (dI a1.2.1),cD (dI a5.1),cD (.fn 32 [])]) [(5000,5000)] [0,1,3,4,10,11,16] [] (s0:=⟨[(0,.c (oC 5000 3 r16.2.2)),(1,cD (dI a1.1)),(3,cD (dI a5.1)),(4,cD (.fn 32 [])),(10,cD (.bool (decide ((zzi.wrap (a5.2.1.tdiv 8))≤(zzi.wrap (a1.2.1-r16.1)))))),(11,cD (.bool r16.2.1)),(16,cD (dI r16.1))],[]⟩) (ih hr20) rfl rfl (by kernel_rfl) rfl (by kernel_rfl) (by kernel_rfl) (.ren rfl rfl (.flat (.refl _) rfl rfl (.flat (.refl _) rfl rfl (.flat (.refl _) rfl rfl (.flat (.refl _) rfl rfl .nil))))) ⟨⟨by kernel_rfl,by kernel_rfl⟩,trivial⟩ (by kernel_rfl) (by kernel_rfl) (by kernel_rfl) (by kernel_rfl) (by kernel_rfl) (by kernel_rfl) (by kernel_rfl) (by kernel_rfl) (by kernel_rfl) ⟨[(146,.tup []),(0,.c (oC 5000 3 r16.2.2)),(1,cD (dI a1.1)),(3,cD (dI a5.1)),(4,cD (.fn 32 [])),(10,cD (.bool (decide ((zzi.wrap (a5.2.1.tdiv 8))≤(zzi.wrap (a1.2.1-r16.1)))))),(11,cD (.bool r16.2.1)),(16,cD (dI r16.1))],[(5000,vL 3 z01 r20)]⟩ (by kernel_rfl) ?_;obtain⟨hc21,h⟩:=z03 h;refine At.eqS ⟨[(146,.tup []),(0,.c (oC 5000 3 r20)),(1,cD (dI a1.1)),(3,cD (dI a5.1)),(4,cD (.fn 32 [])),(10,cD (.bool (decide ((zzi.wrap (a5.2.1.tdiv 8))≤(zzi.wrap (a1.2.1-r16.1)))))),(11,cD (.bool r16.2.1)),(16,cD (dI r16.1))],[(5000,vL 3 z01 r20)]⟩ (by simp only[oC,vL,hc21]) ?_;refine At.done rfl ?_;refine z05 ?_;refine At.sg 2 [0,1,2,3,4,10,11] [5000] (z00 2) ?_;refine At.done rfl ?_;cases h;exact kr
        ·rcases z2m h with⟨hp22,h⟩|⟨hp22,h⟩
         ·obtain⟨hc23,h⟩:=z03 h;obtain⟨hc24,h⟩:=z03 h;obtain⟨hc25,h⟩:=z03 h;obtain⟨hc26,h⟩:=z03 h;obtain⟨r27,hr27,h⟩:=bind_elim h;refine z0u [.a [1] [],.a [81] [],.m ⟨[(82,cD (.bool (decide (0<a1.1))))],[]⟩ ⟨[(83,.c (.d (.bool true)))],[]⟩ [] [] [],.a [4,83] [],.a [0,83] [],.a [1,83] [],.a [83,86] [],.a [83,85,87] [5000],.a [83,88] [5000],.a [0,83] [],.a [13,83] [],.a [83,90,91] [5000],.a [83,92] [5000],.m ⟨[(83,cD (.bool true)),(84,cD (.fn 32 [])),(89,.agg (cTime (a10.2.2.getD (0+(zzi.wrap (a1.1-1)).toNat) zzd))),(93,.agg (cTime (a10.2.2.getD (0+a8.1.toNat) zzd)))],[]⟩ ⟨[(94,cD (dI r27))],[]⟩ [] [] [],.a [83,94] [],.a [83,95] [],.a [83,96] []] [0,1,2,3,4,10,11,12,13,97] [5000] (tN 6 (ai hc23 (ai hc24 (tN 2 (ai hc25 (ai hc26 (z00 3))))))) (.a (.a (.m ?_ (.a (.a (.a (.a (.a (.a (.a (.a (.a (.a (.m ?_ (.a (.a (.a .z))))))))))))))))) ?_
          ·exact z0l (fun b=> .val (.c (.d (.bool b))) (True)) (p:=(decide (0<a1.1))) hp22 (fun r=>by kernel_rfl) (fun r=>by kernel_rfl) trivial (by kernel_rfl) (by kernel_rfl) (fun r=>rfl)
          ·exact DOk.cA [] [.agg (cTime (a10.2.2.getD (0+(zzi.wrap (a1.1-1)).toNat) zzd)),.agg (cTime (a10.2.2.getD (0+a8.1.toNat) zzd))] (z1k hr27) fun r=>(.cons (.refl _) (.cons (.refl _) .nil))
          exact⟨_,h,kr⟩
         ·refine z0u [.a [1] [],.a [81] [],.m ⟨[(82,cD (.bool (decide (0<a1.1))))],[]⟩ ⟨[(83,.c (.d (.bool false)))],[]⟩ [] [] [],.a [4,83] [],.a [0,83] [],.a [1,83] [],.a [83,86] [],.a [83,85,87] [],.a [83,88] [],.a [0,83] [],.a [13,83] [],.a [83,90,91] [],.a [83,92] [],.a [83,84,89,93] [],.a [83,94] [],.a [83,95] [],.a [83,96] []] [0,1,2,3,4,10,11,12,13,97] [5000] (z00 3) (.a (.a (.m ?_ (.a (.a (.a (.a (.a (.a (.a (.a (.a (.a (.a (.a (.a (.a .z))))))))))))))))) ?_
          ·exact z0l (fun b=> .val (.c (.d (.bool b))) (True)) (p:=(decide (0<a1.1))) hp22 (fun r=>by kernel_rfl) (fun r=>by kernel_rfl) trivial (by kernel_rfl) (by kernel_rfl) (fun r=>rfl)
          exact⟨_,h,kr⟩
       ·refine z0f (fun(a28:Bool×Bool×Bool)=>⟨[(0,.c (oC 5000 3 a8.2.2)),(1,cD (dI a1.1)),(2,cD (dI a1.2.1)),(3,cD (dI a5.1)),(4,cD (.fn 32 [])),(10,cD (.bool a28.1)),(11,cD (.bool a28.2.1)),(12,cD (dI a5.2.1)),(13,cD (dI a8.1)),(75,cD (.bool a28.2.2))],[(5000,vL 3 z01 a8.2.2)]⟩) h (fun a28 h=>?_) (fun j29 h=>?_)
        ·refine z06 h (fun h=>?_) (fun h=>?_)
         ·refine z02 ?_;refine z05 ?_;refine At.sg 4 [0,1,2,3,4,10,11,12,13,76,77,78,79] [5000] (z00 4) ?_;obtain⟨r30,hr30,h⟩:=bind_elim h;refine At.callL (nf:=0) (caps:=[]) (xs:=[.c (oC 5000 3 a8.2.2),cD (dI a1.1),cD (dI a1.2.1),cD (.fn 32 [])]) [(5000,5000)] [0,1,2,3,4,10,11,12,13] [] (s0:=⟨[(0,.c (oC 5000 3 a8.2.2)),(1,cD (dI a1.1)),(2,cD (dI a1.2.1)),(3,cD (dI a5.1)),(4,cD (.fn 32 [])),(10,cD (.bool a28.1)),(11,cD (.bool a28.2.1)),(12,cD (dI a5.2.1)),(13,cD (dI a8.1))],[]⟩) (z4h hr30) rfl rfl (by kernel_rfl) rfl (by kernel_rfl) (by kernel_rfl) (.ren rfl rfl (.flat (.refl _) rfl rfl (.flat (.refl _) rfl rfl (.flat (.refl _) rfl rfl .nil)))) ⟨⟨by kernel_rfl,by kernel_rfl⟩,trivial⟩ (by kernel_rfl) (by kernel_rfl) (by kernel_rfl) (by kernel_rfl) (by kernel_rfl) (by kernel_rfl) (by kernel_rfl) (by kernel_rfl) (by kernel_rfl) ⟨[(80,cD (.bool r30.1)),(0,.c (oC 5000 3 a8.2.2)),(1,cD (dI a1.1)),(2,cD (dI a1.2.1)),(3,cD (dI a5.1)),(4,cD (.fn 32 [])),(10,cD (.bool a28.1)),(11,cD (.bool a28.2.1)),(12,cD (dI a5.2.1)),(13,cD (dI a8.1))],[(5000,vL 3 z01 r30.2)]⟩ (by kernel_rfl) ?_;obtain⟨hc31,h⟩:=z03 h;refine At.eqS ⟨[(80,cD (.bool r30.1)),(0,.c (oC 5000 3 r30.2)),(1,cD (dI a1.1)),(2,cD (dI a1.2.1)),(3,cD (dI a5.1)),(4,cD (.fn 32 [])),(10,cD (.bool a28.1)),(11,cD (.bool a28.2.1)),(12,cD (dI a5.2.1)),(13,cD (dI a8.1))],[(5000,vL 3 z01 r30.2)]⟩ (by simp only[oC,vL,hc31]) ?_;refine At.done rfl ?_;refine z06 h (fun h=>?_) (fun h=>?_)
          ·refine Tri.ret ?_;cases h;exact RetAt.k
          ·refine Tri.kp [0,1,2,3,4,10,11,12,13] [5000] ?_;refine Tri.skip ?_;exact⟨_,h,kr⟩
         ·refine Tri.kp [0,1,2,3,4,10,11,12,13] [5000] ?_;refine Tri.skip ?_;exact⟨_,h,kr⟩
        ·refine z05 ?_;refine At.sg 2 [0,1,2,3,4,10,11,12,13,14,69] [5000] (z00 2) ?_;refine At.cs [10,69] h (fun h=>?_) (fun h=>?_)
         ·refine At.sg 3 [0,1,2,3,4,10,11,12,13,14,72] [5000] (z00 3) ?_;refine At.cs [11,72] h (fun h=>?_) (fun h=>?_)
          ·refine At.sg 3 [0,1,2,3,4,10,11,12,13,75] [5000] (z00 3) ?_;refine At.done rfl ?_;exact⟨_,h,kr⟩
          ·refine At.sg 3 [0,1,2,3,4,10,11,12,13,75] [5000] (z00 1) ?_;refine At.done rfl ?_;exact⟨_,h,kr⟩
         ·refine At.sg 6 [0,1,2,3,4,10,11,12,13,75] [5000] (z00 3) ?_;refine At.done rfl ?_;exact⟨_,h,kr⟩
      ·refine Tri.sg [0,1,2,3,4,10,11,12,13,14,56] [5000] (z00 2) ?_;refine z06 h (fun h=>?_) (fun h=>?_)
       ·refine z02 ?_;refine z05 ?_;refine At.sg 4 [0,1,2,3,4,10,11,12,13,57,58,59,60] [5000] (z00 4) ?_;obtain⟨r32,hr32,h⟩:=bind_elim h;refine At.callL (nf:=0) (caps:=[]) (xs:=[.c (oC 5000 3 a5.2.2),cD (dI a1.1),cD (dI a1.2.1),cD (.fn 32 [])]) [(5000,5000)] [0,1,2,3,4,10,11,12,13] [] (s0:=⟨[(0,.c (oC 5000 3 a5.2.2)),(1,cD (dI a1.1)),(2,cD (dI a1.2.1)),(3,cD (dI a5.1)),(4,cD (.fn 32 [])),(10,cD (.bool a1.2.2.2.1)),(11,cD (.bool a1.2.2.2.2.1)),(12,cD (dI a5.2.1)),(13,cD (dI r7.1))],[]⟩) (z5l hr32) rfl rfl (by kernel_rfl) rfl (by kernel_rfl) (by kernel_rfl) (.ren rfl rfl (.flat (.refl _) rfl rfl (.flat (.refl _) rfl rfl (.flat (.refl _) rfl rfl .nil)))) ⟨⟨by kernel_rfl,by kernel_rfl⟩,trivial⟩ (by kernel_rfl) (by kernel_rfl) (by kernel_rfl) (by kernel_rfl) (by kernel_rfl) (by kernel_rfl) (by kernel_rfl) (by kernel_rfl) (by kernel_rfl) ⟨[(61,.tup []),(0,.c (oC 5000 3 a5.2.2)),(1,cD (dI a1.1)),(2,cD (dI a1.2.1)),(3,cD (dI a5.1)),(4,cD (.fn 32 [])),(10,cD (.bool a1.2.2.2.1)),(11,cD (.bool a1.2.2.2.2.1)),(12,cD (dI a5.2.1)),(13,cD (dI r7.1))],[(5000,vL 3 z01 r32)]⟩ (by kernel_rfl) ?_;obtain⟨hc33,h⟩:=z03 h;refine At.eqS ⟨[(61,.tup []),(0,.c (oC 5000 3 r32)),(1,cD (dI a1.1)),(2,cD (dI a1.2.1)),(3,cD (dI a5.1)),(4,cD (.fn 32 [])),(10,cD (.bool a1.2.2.2.1)),(11,cD (.bool a1.2.2.2.2.1)),(12,cD (dI a5.2.1)),(13,cD (dI r7.1))],[(5000,vL 3 z01 r32)]⟩ (by simp only[oC,vL,hc33]) ?_;refine At.done rfl ?_;refine Tri.sg [0,1,2,3,4,10,11,12,13] [5000] (z00 7) ?_;refine z05 ?_;refine At.sg 1 [0,1,2,3,4,10,11,12,13,14] [5000] (z00 1) ?_;refine At.done rfl ?_;exact⟨_,h,kr⟩
       ·refine Tri.kp [0,1,2,3,4,10,11,12,13,14] [5000] ?_;refine Tri.skip ?_;exact⟨_,h,kr⟩
     ·refine Tri.sg [0,1,2,3,4,10,11,12,39] [5000] (z00 2) ?_;refine z06 h (fun h=>?_) (fun h=>?_)
      ·refine z02 ?_;refine z05 ?_;refine At.sg 4 [0,1,2,3,4,10,11,12,40,41,42,43] [5000] (z00 4) ?_;obtain⟨r34,hr34,h⟩:=bind_elim h;refine At.callL (nf:=0) (caps:=[]) (xs:=[.c (oC 5000 3 a1.2.2.2.2.2),cD (dI a1.1),cD (dI a1.2.1),cD (.fn 32 [])]) [(5000,5000)] [0,1,2,3,4,10,11,12] [] (s0:=⟨[(0,.c (oC 5000 3 a1.2.2.2.2.2)),(1,cD (dI a1.1)),(2,cD (dI a1.2.1)),(3,cD (dI a1.2.2.1)),(4,cD (.fn 32 [])),(10,cD (.bool a1.2.2.2.1)),(11,cD (.bool a1.2.2.2.2.1)),(12,cD (dI (zzi.wrap (a1.2.1-a1.1))))],[]⟩) (z53 hr34) rfl rfl (by kernel_rfl) rfl (by kernel_rfl) (by kernel_rfl) (.ren rfl rfl (.flat (.refl _) rfl rfl (.flat (.refl _) rfl rfl (.flat (.refl _) rfl rfl .nil)))) ⟨⟨by kernel_rfl,by kernel_rfl⟩,trivial⟩ (by kernel_rfl) (by kernel_rfl) (by kernel_rfl) (by kernel_rfl) (by kernel_rfl) (by kernel_rfl) (by kernel_rfl) (by kernel_rfl) (by kernel_rfl) ⟨[(44,.tup []),(0,.c (oC 5000 3 a1.2.2.2.2.2)),(1,cD (dI a1.1)),(2,cD (dI a1.2.1)),(3,cD (dI a1.2.2.1)),(4,cD (.fn 32 [])),(10,cD (.bool a1.2.2.2.1)),(11,cD (.bool a1.2.2.2.2.1)),(12,cD (dI (zzi.wrap (a1.2.1-a1.1))))],[(5000,vL 3 z01 r34)]⟩ (by kernel_rfl) ?_;obtain⟨hc35,h⟩:=z03 h;refine At.eqS ⟨[(44,.tup []),(0,.c (oC 5000 3 r34)),(1,cD (dI a1.1)),(2,cD (dI a1.2.1)),(3,cD (dI a1.2.2.1)),(4,cD (.fn 32 [])),(10,cD (.bool a1.2.2.2.1)),(11,cD (.bool a1.2.2.2.2.1)),(12,cD (dI (zzi.wrap (a1.2.1-a1.1))))],[(5000,vL 3 z01 r34)]⟩ (by simp only[oC,vL,hc35]) ?_;refine At.done rfl ?_;refine z05 ?_;refine At.sg 3 [0,1,2,3,4,10,11,12] [5000] (z00 3) ?_;refine At.done rfl ?_;exact⟨_,h,kr⟩
      ·refine Tri.kp [0,1,2,3,4,10,11,12] [5000] ?_;refine Tri.skip ?_;exact⟨_,h,kr⟩
  ·intro a2 h;cases h
  ·exact fun x s hx hr=>by cases hx;exact hr
theorem z30 {fuel:Nat}{l0:List Time}{q:List Time}(h:z0j fuel l0=some q):
 Summ Tryz.prog 31 [.c (oC 5000 3 l0),cD (.fn 32 [])] [(5000,vL 3 z01 l0)] (.tup []) [(5000,vL 3 z01 q)]:=by
 refine Summ.i Tryz.func31 rfl [] fun w0 G0 V LL φ0=>?_;unfold z0j at h;refine Tri.sg [0,1,4] [5000] (z00 3) ?_;refine z05 ?_;refine At.sg 4 [1,7,8,10] [5000] (z00 4) ?_;obtain⟨r1,hr1,h⟩:=bind_elim h;refine At.cA [] [cD (dU (zzu.wrap (l0.length:Int)))] (z9e hr1) (.cons (.refl _) .nil) ?_;refine At.sg 1 [7,8,11,12] [5000] (z00 1) ?_;obtain⟨r2,hr2,h⟩:=bind_elim h;refine z25 0 [] [.c (oC 5000 3 l0),cD (dI 0),cD (dI (l0.length:Int)),cD (dI r1),cD (.fn 32 [])] [(5000,5000)] [] [] (z66 hr2) (.ren rfl rfl (.flat (.refl _) rfl rfl (.flat (.refl _) rfl rfl (.flat (.refl _) rfl rfl (.flat (.refl _) rfl rfl .nil))))) ?_;refine At.keep [] [5000] (s':=⟨[],[(5000,vL 3 z01 r2)]⟩) (by kernel_rfl) ?_;refine At.done rfl ?_;cases h;exact RetAt.k
theorem z8e {p0:Time}{p1:Time}{q:Bool}(h:z5i p0 p1=some q):
 Summ Tryz.prog 29 [.agg (cTime p0),cD (.cptr [dU p1.epoch,dU p1.loop.1,dU p1.loop.2])] [] (cD (.bool q)) []:=by
 refine Summ.i Tryz.func29 rfl [] fun w0 G0 V LL φ0=>?_;unfold z5i at h;refine Tri.l [] ⟨[(0,.agg (cTime p0)),(1,.c (.eptr [dU p1.epoch,dU p1.loop.1,dU p1.loop.2]))],[]⟩ ⟨⟨_,rfl,.refl _⟩,⟨_,rfl,.c (.cptrE _)⟩,trivial⟩ trivial ?_;refine Tri.sg [1,2] [2] (z00 2) ?_;refine z02 ?_;refine z05 ?_;refine At.sg 2 [4,5] [] (z00 2) ?_;obtain⟨r1,hr1,h⟩:=bind_elim h;refine At.cA [] [.agg (cTime p0),.agg (cTime p1)] (z7q hr1) (.cons (.refl _) (.cons (.refl _) .nil)) ?_;refine At.sg 1 [3] [] (z00 1) ?_;refine At.done rfl ?_;refine Tri.ret ?_;cases h;exact RetAt.k
theorem z2x {p0:List Time}{p1_0:Time}{q:Int}(h:z0e p0 p1_0=some q):
 Summ Tryz.prog 51 [.c (wC 3 z01 p0),cD (.fn 29 [.cptr [dU p1_0.epoch,dU p1_0.loop.1,dU p1_0.loop.2]])] [] (cD (dI q)) []:=by
 refine Summ.i Tryz.func51 rfl [] fun w0 G0 V LL φ0=>?_;unfold z0e at h;refine Tri.sg [0,1] [] (z00 1) ?_;refine z02 ?_;refine Tri.sg [0,1,7,8] [] (z00 3) ?_;refine Tri.ln 0 p0.length fun hlena2=>?_;refine z2h 8 () (fun(x:Int) s=>RetAt Tryz.prog Tryz.f51 (cD (dI x)) [] s) (fun(a2:Unit)=>⟨[(0,.c (wC 3 z01 p0)),(1,cD (.fn 29 [.cptr [dU p1_0.epoch,dU p1_0.loop.1,dU p1_0.loop.2]])),(7,cD (dI (p0.length:Int)))],[]⟩) [8,0,1,7] [] [9,8,0,1,7] [] [0,1,7] [] [8,0,1,7] [] h hlena2 ?_ ?_ ?_
 ·intro i1 a2 c hii1 h;refine Tri.sg [0,1,5,7,8] [] (z00 2) ?_;refine z02 ?_;refine z05 ?_;refine At.sg 5 [0,1,5,7,8,11,15] [] (tN 3 (ai (show((0:Int)≤((i1:Nat):Int)∧((i1:Nat):Int)<(p0.length:Int))from⟨by omega,by omega⟩) (z00 1))) ?_;obtain⟨r4,hr4,h⟩:=bind_elim h;refine At.cA [.cptr [dU p1_0.epoch,dU p1_0.loop.1,dU p1_0.loop.2]] [.agg (cTime (p0.getD i1 zzd)),cD (.cptr [dU p1_0.epoch,dU p1_0.loop.1,dU p1_0.loop.2])] (z8e hr4) (.cons (.refl _) (.cons (.refl _) .nil)) ?_;refine At.done rfl ?_;refine z06 h (fun h=>?_) (fun h=>?_)
  ·refine Tri.sg [4] [] (z00 2) ?_;refine Tri.ret ?_;cases h;exact RetAt.k
  ·refine Tri.kp [8,0,1,7] [] ?_;refine Tri.skip ?_;cases h;exact kr
 ·intro a3 h;refine Tri.sg [4] [] (z00 1) ?_;refine Tri.ret ?_;cases h;exact RetAt.k
 ·exact fun x s hx hr=>by cases hx;exact hr
theorem z2p {p0:List Time}{p1_0:Time}{q:Bool}(h:z0d p0 p1_0=some q):
 Summ Tryz.prog 28 [.c (wC 3 z01 p0),cD (.fn 29 [.cptr [dU p1_0.epoch,dU p1_0.loop.1,dU p1_0.loop.2]])] [] (cD (.bool q)) []:=by
 refine Summ.i Tryz.func28 rfl [] fun w0 G0 V LL φ0=>?_;unfold z0d at h;refine Tri.sg [0,1] [] (z00 1) ?_;refine z02 ?_;refine z05 ?_;refine At.sg 2 [5,6] [] (z00 2) ?_;obtain⟨r1,hr1,h⟩:=bind_elim h;refine At.cA [] [.c (wC 3 z01 p0),cD (.fn 29 [.cptr [dU p1_0.epoch,dU p1_0.loop.1,dU p1_0.loop.2]])] (z2x hr1) (.cons (.refl _) (.cons (.refl _) .nil)) ?_;refine At.sg 2 [4] [] (z00 2) ?_;refine At.done rfl ?_;refine Tri.ret ?_;cases h;exact RetAt.k
theorem zbp {p0:List Time}{p1:Time}{q:Bool}(h:z38 p0 p1=some q):
 Summ Tryz.prog 10 [.c (wC 3 z01 p0),.agg (cTime p1)] [] (cD (.bool q)) []:=by
 refine Summ.i Tryz.func10 rfl [] fun w0 G0 V LL φ0=>?_;unfold z38 at h;refine Tri.sg [0,3] [3] (z00 2) ?_;refine z02 ?_;refine z05 ?_;refine At.seg 1 [3,5] [3] (s':=⟨[(3,.c (.ptr 3 0)),(5,.c (wC 3 z01 p0))],[(3,.box (cTime p1))]⟩) (by kernel_rfl) (z00 1) ?_;refine At.l [3] ⟨[(3,cD (.cptr [dU p1.epoch,dU p1.loop.1,dU p1.loop.2])),(5,.c (wC 3 z01 p0))],[]⟩ ⟨⟨_,rfl,.c (.box (ds:=[dU p1.epoch,dU p1.loop.1,dU p1.loop.2]) rfl (by simp))⟩,⟨_,rfl,.refl _⟩,trivial⟩ trivial ?_;refine At.seg 1 [6,3,5] [] (s':=⟨[(6,cD (.fn 29 [.cptr [dU p1.epoch,dU p1.loop.1,dU p1.loop.2]])),(3,cD (.cptr [dU p1.epoch,dU p1.loop.1,dU p1.loop.2])),(5,.c (wC 3 z01 p0))],[]⟩) (by kernel_rfl) (z00 1) ?_;refine At.l [] ⟨[(6,cD (.fn 29 [.cptr [dU p1.epoch,dU p1.loop.1,dU p1.loop.2]])),(3,.c (.eptr [dU p1.epoch,dU p1.loop.1,dU p1.loop.2])),(5,.c (wC 3 z01 p0))],[]⟩ ⟨⟨_,rfl,.refl _⟩,⟨_,rfl,.c (.cptrE _)⟩,⟨_,rfl,.refl _⟩,trivial⟩ trivial ?_;obtain⟨r1,hr1,h⟩:=bind_elim h;refine At.cA [] [.c (wC 3 z01 p0),cD (.fn 29 [.cptr [dU p1.epoch,dU p1.loop.1,dU p1.loop.2]])] (z2p hr1) (.cons (.refl _) (.cons (.refl _) .nil)) ?_;refine At.sg 1 [4] [] (z00 1) ?_;refine At.done rfl ?_;refine Tri.ret ?_;cases h;exact RetAt.k
theorem zcb {fuel:Nat}{p0:List Time}{q:List Time}(h:z5z fuel p0=some q):
 Summ Tryz.prog 11 [.c (wC 3 z01 p0)] [] (cD (lD 3 z01 q)) []:=by
 refine Summ.i Tryz.func11 rfl [] fun w0 G0 V LL φ0=>?_;unfold z5z at h;refine Tri.sg [0] [] (z00 1) ?_;refine z02 ?_;refine z05 ?_;refine At.sg 1 [6] [] (z00 1) ?_;obtain⟨r1,hr1,h⟩:=bind_elim h;refine z25 0 [] [.c (wC 3 z01 p0)] [(6000,30112)] [] [] (z41 hr1) (.flat (.refl _) rfl rfl .nil) ?_;refine At.sg 1 [0] [30112] (z00 1) ?_;refine At.done rfl ?_;refine z02 ?_;refine z05 ?_;refine At.sg 1 [0,8] [30112] (z00 1) ?_;obtain⟨r2,hr2,h⟩:=bind_elim h;refine At.callL (nf:=0) (caps:=[]) (xs:=[.c (oC 30112 3 r1),cD (.fn 32 [])]) [(5000,30112)] [0] [] (s0:=⟨[(0,.c (oC 30112 3 r1))],[]⟩) (z30 hr2) rfl rfl (by kernel_rfl) rfl (by kernel_rfl) (by kernel_rfl) (.ren rfl rfl (.flat (.refl _) rfl rfl .nil)) ⟨⟨by kernel_rfl,by kernel_rfl⟩,trivial⟩ (by kernel_rfl) (by kernel_rfl) (by kernel_rfl) (by kernel_rfl) (by kernel_rfl) (by kernel_rfl) (by kernel_rfl) (by kernel_rfl) (by kernel_rfl) ⟨[(9,.tup []),(0,.c (oC 30112 3 r1))],[(30112,vL 3 z01 r2)]⟩ (by kernel_rfl) ?_;obtain⟨hc3,h⟩:=z03 h;refine At.eqS ⟨[(9,.tup []),(0,.c (oC 30112 3 r2))],[(30112,vL 3 z01 r2)]⟩ (by simp only[oC,vL,hc3]) ?_;refine At.done rfl ?_;refine Tri.sg [0,3] [30112] (z00 1) ?_;refine z02 ?_;refine z22 [3,10,11,12] [30112] ⟨[(3,.c (.zero)),(10,.c (oC 30112 3 r2)),(11,cD (dI (r2.length:Int))),(12,cD (dI 0))],[(30112,vL 3 z01 r2)]⟩ _ (by kernel_rfl) (z00 3) ?_;refine zao (t:=10) rfl rfl (zz9 _) fun hlena5=>?_;refine Tri.newOwn (t:=3) (k:=1003) (es:=3) (fun i=>z01 (([]:List Time).getD i zzd)) rfl rfl rfl ?_;refine z2h 12 ([]:List Time) (fun(x:Empty) s=>False) (fun(a5:List Time)=>⟨[(3,.c (oC 1003 3 a5)),(10,.c (oC 30112 3 r2)),(11,cD (dI (r2.length:Int)))],[(1003,vL 3 z01 a5),(30112,vL 3 z01 r2)]⟩) [12,3,10,11] [1003,30112] [13,12,3,10,11] [1003,30112] [3,10,11] [1003,30112] [12,3,10,11] [1003,30112] h hlena5 ?_ ?_ ?_
 ·intro i4 a5 c hii4 h;obtain⟨hc7,h⟩:=z03 h;refine Tri.sg [3,5,10,11,12] [5,1003,30112] (ai (show((0:Int)≤((i4:Nat):Int)∧((i4:Nat):Int)<(r2.length:Int))from⟨by omega,by omega⟩) (ai hc7 (z00 2))) ?_;refine z02 ?_;refine z05 ?_;refine At.seg 2 [3,5,10,11,12,16,17] [5,1003,30112] (s':=⟨[(3,.c (oC 1003 3 a5)),(5,.c (.ptr 5 0)),(10,.c (oC 30112 3 r2)),(11,cD (dI (r2.length:Int))),(12,cD (dI ((i4:Nat):Int))),(16,.c (oC 1003 3 a5)),(17,.agg (cTime (r2.getD (0+i4) zzd)))],[(5,.box (cTime (r2.getD (0+i4) zzd))),(1003,vL 3 z01 a5),(30112,vL 3 z01 r2)]⟩) (by kernel_rfl) (z00 2) ?_;obtain⟨r8,hr8,h⟩:=bind_elim h;refine At.cA [] [.c (oC 1003 3 a5),.agg (cTime (r2.getD (0+i4) zzd))] (zbp hr8) (.cons (AVArg.view (z01) a5 rfl) (.cons (.refl _) .nil)) ?_;refine At.sg 1 [3,5,10,11,12,19] [5,1003,30112] (z00 1) ?_;refine At.done rfl ?_;refine z06 h (fun h=>?_) (fun h=>?_)
  ·refine z05 ?_;refine At.seg 2 [10,11,12,20,21] [1003,30112] (s':=⟨[(10,.c (oC 30112 3 r2)),(11,cD (dI (r2.length:Int))),(12,cD (dI ((i4:Nat):Int))),(20,.c (oC 1003 3 a5)),(21,.agg (cTime (r2.getD (0+i4) zzd)))],[(1003,vL 3 z01 a5),(30112,vL 3 z01 r2)]⟩) (by kernel_rfl) (z00 2) ?_;refine At.one rfl (One.buildSlice (z:=[.d (dU 0),.d (dU 0),.d (dU 0)]) (cells:=[.d (dU ((r2.getD (0+i4) zzd).epoch)),.d (dU ((r2.getD (0+i4) zzd).loop.1)),.d (dU ((r2.getD (0+i4) zzd).loop.2))]) (xs:=List.map (z01) ([(r2.getD (0+i4) zzd)]:List Time)) rfl rfl rfl rfl (by kernel_rfl) rfl rfl (by kernel_rfl) rfl rfl rfl (by kernel_rfl) rfl ⟨⟨rfl,.refl _⟩,trivial⟩) ?_;refine At.l [22] ⟨[(22,cD (lD 3 z01 ([(r2.getD (0+i4) zzd)]:List Time))),(10,.c (oC 30112 3 r2)),(11,cD (dI (r2.length:Int))),(12,cD (dI ((i4:Nat):Int))),(20,.c (oC 1003 3 a5)),(21,.agg (cTime (r2.getD (0+i4) zzd)))],[(1003,vL 3 z01 a5),(30112,vL 3 z01 r2)]⟩ ⟨⟨_,rfl,.c (.own rfl (zzf.2 rfl) (zzc rfl) rfl (z4s (z01) ([(r2.getD (0+i4) zzd)]:List Time)))⟩,⟨_,rfl,.refl _⟩,⟨_,rfl,.refl _⟩,⟨_,rfl,.refl _⟩,⟨_,rfl,.refl _⟩,⟨_,rfl,.refl _⟩,trivial⟩ ⟨⟨_,rfl,.refl _,(by simp)⟩,⟨_,rfl,.refl _,(by simp)⟩,trivial⟩ ?_;obtain⟨hc9,h⟩:=z03 h;refine At.one rfl (z5m (e:=32) (es:=3) (z01) a5 ([(r2.getD (0+i4) zzd)]:List Time) rfl rfl rfl rfl rfl (.of 32 24 [.d (dU 0),.d (dU 0),.d (dU 0)] (by kernel_rfl) (by kernel_rfl) (by kernel_rfl) (by kernel_rfl) rfl (by kernel_rfl) rfl) rfl rfl rfl (.list rfl (fun _ _=>rfl)) hc9) ?_;refine At.sg 1 [12,3,10,11] [1003,30112] (z00 1) ?_;refine At.done rfl ?_;cases h;exact kr
  ·refine Tri.kp [12,3,10,11] [1003,30112] ?_;refine Tri.skip ?_;cases h;exact kr
 ·intro a6 h;refine Tri.sg [2] [1003] (z00 2) ?_;refine Tri.keep [2] [1003] (s':=⟨[(2,.c (oC 1003 3 a6))],[(1003,vL 3 z01 a6)]⟩) (by kernel_rfl) ?_;refine Tri.l [1003] ⟨[(2,cD (lD 3 z01 a6))],[]⟩ ⟨⟨_,rfl,.c (CLe.frozen (z01) a6 rfl (by simp))⟩,trivial⟩ trivial ?_;refine Tri.ret ?_;cases h;exact RetAt.k
 ·exact fun x=>x.elim
theorem z2z {p0:List Time}{p1_0:Time}{q:Int}(h:z0e p0 p1_0=some q):
 Summ Tryz.prog 51 [cD (lD 3 z01 p0),cD (.fn 29 [.cptr [dU p1_0.epoch,dU p1_0.loop.1,dU p1_0.loop.2]])] [] (cD (dI q)) []:=by
 refine Summ.i Tryz.func51 rfl [] fun w0 G0 V LL φ0=>?_;unfold z0e at h;refine Tri.sg [0,1] [] (z00 1) ?_;refine z02 ?_;refine Tri.sg [0,1,7,8] [] (z00 3) ?_;refine Tri.ln 0 p0.length fun hlena2=>?_;refine z2h 8 () (fun(x:Int) s=>RetAt Tryz.prog Tryz.f51 (cD (dI x)) [] s) (fun(a2:Unit)=>⟨[(0,cD (lD 3 z01 p0)),(1,cD (.fn 29 [.cptr [dU p1_0.epoch,dU p1_0.loop.1,dU p1_0.loop.2]])),(7,cD (dI (p0.length:Int)))],[]⟩) [8,0,1,7] [] [9,8,0,1,7] [] [0,1,7] [] [8,0,1,7] [] h hlena2 ?_ ?_ ?_
 ·intro i1 a2 c hii1 h;refine Tri.sg [0,1,5,7,8] [] (z00 2) ?_;refine z02 ?_;refine z05 ?_;refine At.sg 5 [0,1,5,7,8,11,15] [] (tN 3 (ai (show((0:Int)≤((i1:Nat):Int)∧((i1:Nat):Int)<(p0.length:Int))from⟨by omega,by omega⟩) (z00 1))) ?_;obtain⟨r4,hr4,h⟩:=bind_elim h;refine At.cA [.cptr [dU p1_0.epoch,dU p1_0.loop.1,dU p1_0.loop.2]] [.agg (cTime (p0.getD i1 zzd)),cD (.cptr [dU p1_0.epoch,dU p1_0.loop.1,dU p1_0.loop.2])] (z8e hr4) (.cons (.refl _) (.cons (.refl _) .nil)) ?_;refine At.done rfl ?_;refine z06 h (fun h=>?_) (fun h=>?_)
  ·refine Tri.sg [4] [] (z00 2) ?_;refine Tri.ret ?_;cases h;exact RetAt.k
  ·refine Tri.kp [8,0,1,7] [] ?_;refine Tri.skip ?_;cases h;exact kr
 ·intro a3 h;refine Tri.sg [4] [] (z00 1) ?_;refine Tri.ret ?_;cases h;exact RetAt.k
 ·exact fun x s hx hr=>by cases hx;exact hr
theorem z2w {p0:List Time}{p1_0:Time}{q:Bool}(h:z0d p0 p1_0=some q):
 Summ Tryz.prog 28 [cD (lD 3 z01 p0),cD (.fn 29 [.cptr [dU p1_0.epoch,dU p1_0.loop.1,dU p1_0.loop.2]])] [] (cD (.bool q)) []:=by
 refine Summ.i Tryz.func28 rfl [] fun w0 G0 V LL φ0=>?_;unfold z0d at h;refine Tri.sg [0,1] [] (z00 1) ?_;refine z02 ?_;refine z05 ?_;refine At.sg 2 [5,6] [] (z00 2) ?_;obtain⟨r1,hr1,h⟩:=bind_elim h;refine At.cA [] [cD (lD 3 z01 p0),cD (.fn 29 [.cptr [dU p1_0.epoch,dU p1_0.loop.1,dU p1_0.loop.2]])] (z2z hr1) (.cons (.refl _) (.cons (.refl _) .nil)) ?_;refine At.sg 2 [4] [] (z00 2) ?_;refine At.done rfl ?_;refine Tri.ret ?_;cases h;exact RetAt.k
theorem zdg {p0:List Time}{p1:Time}{q:Bool}(h:z38 p0 p1=some q):
 Summ Tryz.prog 10 [cD (lD 3 z01 p0),.agg (cTime p1)] [] (cD (.bool q)) []:=by
 refine Summ.i Tryz.func10 rfl [] fun w0 G0 V LL φ0=>?_;unfold z38 at h;refine Tri.sg [0,3] [3] (z00 2) ?_;refine z02 ?_;refine z05 ?_;refine At.seg 1 [3,5] [3] (s':=⟨[(3,.c (.ptr 3 0)),(5,cD (lD 3 z01 p0))],[(3,.box (cTime p1))]⟩) (by kernel_rfl) (z00 1) ?_;refine At.l [3] ⟨[(3,cD (.cptr [dU p1.epoch,dU p1.loop.1,dU p1.loop.2])),(5,cD (lD 3 z01 p0))],[]⟩ ⟨⟨_,rfl,.c (.box (ds:=[dU p1.epoch,dU p1.loop.1,dU p1.loop.2]) rfl (by simp))⟩,⟨_,rfl,.refl _⟩,trivial⟩ trivial ?_;refine At.seg 1 [6,3,5] [] (s':=⟨[(6,cD (.fn 29 [.cptr [dU p1.epoch,dU p1.loop.1,dU p1.loop.2]])),(3,cD (.cptr [dU p1.epoch,dU p1.loop.1,dU p1.loop.2])),(5,cD (lD 3 z01 p0))],[]⟩) (by kernel_rfl) (z00 1) ?_;refine At.l [] ⟨[(6,cD (.fn 29 [.cptr [dU p1.epoch,dU p1.loop.1,dU p1.loop.2]])),(3,.c (.eptr [dU p1.epoch,dU p1.loop.1,dU p1.loop.2])),(5,cD (lD 3 z01 p0))],[]⟩ ⟨⟨_,rfl,.refl _⟩,⟨_,rfl,.c (.cptrE _)⟩,⟨_,rfl,.refl _⟩,trivial⟩ trivial ?_;obtain⟨r1,hr1,h⟩:=bind_elim h;refine At.cA [] [cD (lD 3 z01 p0),cD (.fn 29 [.cptr [dU p1.epoch,dU p1.loop.1,dU p1.loop.2]])] (z2w hr1) (.cons (.refl _) (.cons (.refl _) .nil)) ?_;refine At.sg 1 [4] [] (z00 1) ?_;refine At.done rfl ?_;refine Tri.ret ?_;cases h;exact RetAt.k
theorem z9b {fuel:Nat}{p0:List (List Value)}{p1:List Time}{q:Bool}(h:z3c fuel p0 p1=some q):
 Summ Tryz.prog 3 [cD (lD 1 (fun xs=>[encL 3 encValue xs]) p0),cD (lD 3 z01 p1)] [] (cD (.bool q)) []:=by
 refine Summ.i Tryz.func3 rfl [] fun w0 G0 V LL φ0=>?_;unfold z3c at h;refine Tri.sg [0,1] [] (z00 1) ?_;refine z02 ?_;refine z02 ?_;refine z05 ?_;obtain⟨r1,hr1,h⟩:=bind_elim h;refine At.cA [] [] (zaw hr1) .nil ?_;refine At.sg 1 [0,1,19] [] (z00 1) ?_;refine At.done rfl ?_;refine z06 h (fun h=>?_) (fun h=>?_)
 ·refine Tri.sg [4] [] (z00 1) ?_;refine Tri.ret ?_;cases h;exact RetAt.k
 ·refine Tri.skip ?_;refine Tri.sg [0,1,5] [] (z00 1) ?_;refine Tri.sg [0,1,5,6] [] (z00 1) ?_;refine Tri.sg [0,1,5,6,7] [] (z00 1) ?_;refine z02 ?_;refine z22 [1,5,6,7,20,21,22] [] ⟨[(1,cD (lD 3 z01 p1)),(5,cD (.str (bs []))),(6,.c (.zero)),(7,.c (.zero)),(20,cD (lD 1 (fun xs=>[encL 3 encValue xs]) p0)),(21,cD (dI (p0.length:Int))),(22,cD (dI 0))],[]⟩ _ (by kernel_rfl) (z00 3) ?_;refine Tri.lenOf (t:=20) rfl fun hlena3=>?_;refine Tri.newOwn (t:=6) (k:=1006) (es:=1) (fun i=>(fun xs=>[encL 3 encValue xs]) (([]:List (List Value)).getD i zzd)) rfl rfl rfl ?_;refine Tri.newOwn (t:=7) (k:=1007) (es:=3) (fun i=>z01 (([]:List Time).getD i zzd)) rfl rfl rfl ?_;refine z2h 22 ((bs []),([]:List (List Value)),([]:List Time)) (fun(x:Empty) s=>False) (fun(a3:ByteArray×(List (List Value))×(List Time))=>⟨[(1,cD (lD 3 z01 p1)),(5,cD (.str a3.1)),(6,.c (oC 1006 1 a3.2.1)),(7,.c (oC 1007 3 a3.2.2)),(20,cD (lD 1 (fun xs=>[encL 3 encValue xs]) p0)),(21,cD (dI (p0.length:Int)))],[(1006,vL 1 (fun xs=>[encL 3 encValue xs]) a3.2.1),(1007,vL 3 z01 a3.2.2)]⟩) [22,1,5,6,7,20,21] [1006,1007] [23,22,1,5,6,7,20,21] [1006,1007] [1,5,6,7,20,21] [1006,1007] [22,1,5,6,7,20,21] [1006,1007] h hlena3 ?_ ?_ ?_
  ·intro i2 a3 c hii2 h;refine Tri.sg [1,5,6,7,8,9,20,21,22] [1006,1007] (tN 1 (ai (show((0:Int)≤((i2:Nat):Int)∧((i2:Nat):Int)<(p0.length:Int))from⟨by omega,by omega⟩) (z00 3))) ?_;refine z02 ?_;refine z05 ?_;refine At.sg 1 [1,5,6,7,8,9,20,21,22,28] [1006,1007] (z00 1) ?_;obtain⟨r24,hr24,h⟩:=bind_elim h;refine At.cA [] [cD (lD 3 encValue (p0.getD i2 zzd))] (zep hr24) (.cons (.refl _) .nil) ?_;refine At.sg 5 [1,5,6,7,8,9,10,11,20,21,22] [1006,1007] (z00 5) ?_;refine At.done rfl ?_;refine z02 ?_;refine z0f (fun(a25:Bool)=>⟨[(1,cD (lD 3 z01 p1)),(5,cD (.str a3.1)),(6,.c (oC 1006 1 a3.2.1)),(7,.c (oC 1007 3 a3.2.2)),(8,cD (dI ((i2:Nat):Int))),(9,cD (lD 3 encValue (p0.getD i2 zzd))),(10,cD (.str r24.1)),(20,cD (lD 1 (fun xs=>[encL 3 encValue xs]) p0)),(21,cD (dI (p0.length:Int))),(22,cD (dI ((i2:Nat):Int))),(43,cD (.bool a25))],[(1006,vL 1 (fun xs=>[encL 3 encValue xs]) a3.2.1),(1007,vL 3 z01 a3.2.2)]⟩) h (fun a25 h=>?_) (fun j26 h=>?_)
   ·refine z06 h (fun h=>?_) (fun h=>?_)
    ·refine Tri.kp [1,5,6,7,20,21] [1006,1007] ?_;refine Tri.exit ?_;cases h;exact⟨rfl,kr⟩
    ·refine Tri.skip ?_;obtain⟨hc27,h⟩:=z03 h;refine Tri.sg [1,5,6,7,8,9,20,21,22] [1006,1007] (tN 2 (ai hc27 (z00 1))) ?_;obtain⟨hc28,h⟩:=z03 h;obtain⟨hc29,h⟩:=z03 h;obtain⟨hc30,h⟩:=z03 h;refine z0u [.a [6] [],.a [9] [],.m ⟨[(48,cD (lD 3 encValue (p0.getD i2 zzd)))],[]⟩ ⟨[(49,.c (oC 49 1 ([(p0.getD i2 zzd)]:List (List Value))))],[(49,vL 1 (fun xs=>[encL 3 encValue xs]) ([(p0.getD i2 zzd)]:List (List Value)))]⟩ [49] [] [],.m ⟨[(6,.c (oC 1006 1 a3.2.1)),(47,.c (oC 1006 1 a3.2.1)),(49,.c (oC 49 1 ([(p0.getD i2 zzd)]:List (List Value))))],[(49,vL 1 (fun xs=>[encL 3 encValue xs]) ([(p0.getD i2 zzd)]:List (List Value))),(1006,vL 1 (fun xs=>[encL 3 encValue xs]) a3.2.1)]⟩ ⟨[(50,.c (oC 1006 1 (a3.2.1++([(p0.getD i2 zzd)]:List (List Value))))),(6,.c (.any)),(47,.c (.any))],[(1006,vL 1 (fun xs=>[encL 3 encValue xs]) (a3.2.1++([(p0.getD i2 zzd)]:List (List Value))))]⟩ [1006] [6,47] [],.a [7] [],.a [1] [],.a [8] [],.a [52,53] [],.a [54] [],.m ⟨[(55,.agg (cTime (p1.getD i2 zzd)))],[]⟩ ⟨[(56,.c (oC 56 3 ([(p1.getD i2 zzd)]:List Time)))],[(56,vL 3 z01 ([(p1.getD i2 zzd)]:List Time))]⟩ [56] [] [],.m ⟨[(7,.c (oC 1007 3 a3.2.2)),(51,.c (oC 1007 3 a3.2.2)),(56,.c (oC 56 3 ([(p1.getD i2 zzd)]:List Time)))],[(56,vL 3 z01 ([(p1.getD i2 zzd)]:List Time)),(1007,vL 3 z01 a3.2.2)]⟩ ⟨[(57,.c (oC 1007 3 (a3.2.2++([(p1.getD i2 zzd)]:List Time)))),(7,.c (.any)),(51,.c (.any))],[(1007,vL 3 z01 (a3.2.2++([(p1.getD i2 zzd)]:List Time)))]⟩ [1007] [7,51] [],.a [50] [],.a [57] []] [22,1,5,6,7,20,21] [1006,1007] (tN 5 (ai hc29 (z00 3))) (.a (.a (.m ?_ (.m ?_ (.a (.a (.a (.a (.a (.m ?_ (.m ?_ (.a (.a .z))))))))))))) ?_
     ·exact DOk.one fun r hr=>z3o (e:=25) (es:=1) (z:=[.zero]) (cells:=[.d (lD 3 encValue (p0.getD i2 zzd))]) ((fun xs=>[encL 3 encValue xs])) ([(p0.getD i2 zzd)]:List (List Value)) rfl (by kernel_rfl) rfl rfl (z27 (by kernel_rfl) (hr 49 (by simp))) (by kernel_rfl) rfl (by kernel_rfl) rfl rfl rfl (by kernel_rfl) rfl ⟨⟨rfl,.refl _⟩,trivial⟩
     ·exact DOk.drop (k:=1006) (d:=50) (v:=vL 1 (fun xs=>[encL 3 encValue xs]) (a3.2.1++([(p0.getD i2 zzd)]:List (List Value)))) (av:= .c (oC 1006 1 (a3.2.1++([(p0.getD i2 zzd)]:List (List Value))))) rfl (fun r hr=>z5m (e:=25) (es:=1) ((fun xs=>[encL 3 encValue xs])) a3.2.1 ([(p0.getD i2 zzd)]:List (List Value)) rfl rfl (by kernel_rfl) rfl rfl (.of 25 24 [.zero] (by kernel_rfl) (by kernel_rfl) (by kernel_rfl) (by kernel_rfl) rfl (by kernel_rfl) rfl) rfl rfl rfl (.own rfl (by simp) rfl (z9h ((fun xs=>[encL 3 encValue xs])) ([(p0.getD i2 zzd)]:List (List Value)) _)) hc28) (by kernel_rfl) (by kernel_rfl) (by kernel_rfl) (by kernel_rfl)
     ·exact DOk.one fun r hr=>z3o (e:=32) (es:=3) (z:=[.d (dU 0),.d (dU 0),.d (dU 0)]) (cells:=[.d (dU ((p1.getD i2 zzd).epoch)),.d (dU ((p1.getD i2 zzd).loop.1)),.d (dU ((p1.getD i2 zzd).loop.2))]) (z01) ([(p1.getD i2 zzd)]:List Time) rfl (by kernel_rfl) rfl rfl (z27 (by kernel_rfl) (hr 56 (by simp))) (by kernel_rfl) rfl (by kernel_rfl) rfl rfl rfl (by kernel_rfl) rfl ⟨⟨rfl,.refl _⟩,trivial⟩
     ·exact DOk.drop (k:=1007) (d:=57) (v:=vL 3 z01 (a3.2.2++([(p1.getD i2 zzd)]:List Time))) (av:= .c (oC 1007 3 (a3.2.2++([(p1.getD i2 zzd)]:List Time)))) rfl (fun r hr=>z5m (e:=32) (es:=3) (z01) a3.2.2 ([(p1.getD i2 zzd)]:List Time) rfl rfl (by kernel_rfl) rfl rfl (.of 32 24 [.d (dU 0),.d (dU 0),.d (dU 0)] (by kernel_rfl) (by kernel_rfl) (by kernel_rfl) (by kernel_rfl) rfl (by kernel_rfl) rfl) rfl rfl rfl (.own rfl (by simp) rfl (z9h (z01) ([(p1.getD i2 zzd)]:List Time) _)) hc30) (by kernel_rfl) (by kernel_rfl) (by kernel_rfl) (by kernel_rfl)
     cases h;exact kr
   ·refine z05 ?_;refine At.sg 3 [1,5,6,7,8,9,10,11,20,21,22,34] [1006,1007] (z00 3) ?_;refine At.cs [34] h (fun h=>?_) (fun h=>?_)
    ·refine At.sg 9 [1,5,6,7,8,9,10,20,21,22,43] [1006,1007] (z00 3) ?_;refine At.done rfl ?_;exact⟨_,h,kr⟩
    ·refine At.sg 6 [1,5,6,7,8,9,10,11,20,21,22,40] [1006,1007] (z00 6) ?_;refine At.cs [40] h (fun h=>?_) (fun h=>?_)
     ·refine At.sg 3 [1,5,6,7,8,9,10,20,21,22,43] [1006,1007] (z00 1) ?_;refine At.done rfl ?_;exact⟨_,h,kr⟩
     ·refine At.sg 3 [1,5,6,7,8,9,10,20,21,22,43] [1006,1007] (z00 3) ?_;refine At.done rfl ?_;exact⟨_,h,kr⟩
  ·intro a4 h;refine z02 ?_;refine z05 ?_;refine At.seg 1 [5,6,7,59] [1006,1007] (s':=⟨[(5,cD (.str a4.1)),(6,.c (oC 1006 1 a4.2.1)),(7,.c (oC 1007 3 a4.2.2)),(59,.c (oC 1007 3 a4.2.2))],[(1006,vL 1 (fun xs=>[encL 3 encValue xs]) a4.2.1),(1007,vL 3 z01 a4.2.2)]⟩) (by kernel_rfl) (z00 1) ?_;obtain⟨r5,hr5,h⟩:=bind_elim h;refine At.cA [] [.c (oC 1007 3 a4.2.2)] (z9f hr5) (.cons (AVArg.view (z01) a4.2.2 rfl) .nil) ?_;refine At.sg 2 [5,6,7,12] [12,1006,1007] (z00 2) ?_;refine At.done rfl ?_;refine z02 ?_;refine z22 [5,7,12,61,62,63] [12,1006,1007] ⟨[(5,cD (.str a4.1)),(7,.c (oC 1007 3 a4.2.2)),(12,.c (.ptr 12 0)),(61,.c (oC 1006 1 a4.2.1)),(62,cD (dI (a4.2.1.length:Int))),(63,cD (dI 0))],[(12,.box (cTime r5)),(1006,vL 1 (fun xs=>[encL 3 encValue xs]) a4.2.1),(1007,vL 3 z01 a4.2.2)]⟩ _ (by kernel_rfl) (z00 3) ?_;refine zao (t:=61) rfl rfl (zz9 _) fun hlena7=>?_;refine z2h 63 (a4.1) (fun(x:Bool) s=>RetAt Tryz.prog Tryz.f3 (cD (.bool x)) [] s) (fun(a7:ByteArray)=>⟨[(5,cD (.str a7)),(7,.c (oC 1007 3 a4.2.2)),(12,.c (.ptr 12 0)),(61,.c (oC 1006 1 a4.2.1)),(62,cD (dI (a4.2.1.length:Int)))],[(12,.box (cTime r5)),(1006,vL 1 (fun xs=>[encL 3 encValue xs]) a4.2.1),(1007,vL 3 z01 a4.2.2)]⟩) [63,5,7,12,61,62] [12,1006,1007] [64,63,5,7,12,61,62] [12,1006,1007] [5,7,12,61,62] [12,1006,1007] [63,5,7,12,61,62] [12,1006,1007] h hlena7 ?_ ?_ ?_
   ·intro i6 a7 c hii6 h;obtain⟨hc9,h⟩:=z03 h;refine Tri.sg [5,7,12,13,14,61,62,63] [12,1006,1007] (tN 1 (ai (show((0:Int)≤((i6:Nat):Int)∧((i6:Nat):Int)<(a4.2.1.length:Int))from⟨by omega,by omega⟩) (ai hc9 (z00 2)))) ?_;refine z02 ?_;refine z05 ?_;refine At.sg 1 [7,12,13,14,61,62,63,69] [12,1006,1007] (z00 1) ?_;obtain⟨r10,hr10,h⟩:=bind_elim h;refine At.cA [] [cD (.str a7)] (zg8 hr10) (.cons (.refl _) .nil) ?_;refine At.seg 7 [7,12,13,14,15,16,17,61,62,63] [12,1006,1007] (s':=⟨[(7,.c (oC 1007 3 a4.2.2)),(12,.c (.ptr 12 0)),(13,cD (dI ((i6:Nat):Int))),(14,cD (lD 3 encValue (a4.2.1.getD (0+i6) zzd))),(15,cD (lD 3 encValue r10.1)),(16,cD (.str r10.2.1)),(17,cD (dI r10.2.2)),(61,.c (oC 1006 1 a4.2.1)),(62,cD (dI (a4.2.1.length:Int))),(63,cD (dI ((i6:Nat):Int)))],[(12,.box (cTime r5)),(1006,vL 1 (fun xs=>[encL 3 encValue xs]) a4.2.1),(1007,vL 3 z01 a4.2.2)]⟩) (by kernel_rfl) (z00 7) ?_;refine At.done rfl ?_;refine z02 ?_;refine z0f (fun(a11:Bool)=>⟨[(7,.c (oC 1007 3 a4.2.2)),(12,.c (.ptr 12 0)),(16,cD (.str r10.2.1)),(61,.c (oC 1006 1 a4.2.1)),(62,cD (dI (a4.2.1.length:Int))),(63,cD (dI ((i6:Nat):Int))),(100,cD (.bool a11))],[(12,.box (cTime r5)),(1006,vL 1 (fun xs=>[encL 3 encValue xs]) a4.2.1),(1007,vL 3 z01 a4.2.2)]⟩) h (fun a11 h=>?_) (fun j12 h=>?_)
    ·refine z06 h (fun h=>?_) (fun h=>?_)
     ·refine Tri.sg [4] [] (z00 1) ?_;refine Tri.ret ?_;cases h;exact RetAt.k
     ·refine Tri.skip ?_;refine z05 ?_;refine At.sg 2 [63,5,7,12,61,62] [12,1006,1007] (z00 2) ?_;refine At.done rfl ?_;cases h;exact kr
    ·rcases z2m h with⟨hp13,h⟩|⟨hp13,h⟩
     ·refine z0u [.a [17] [],.a [74] [],.m ⟨[(75,cD (.bool (!decide (r10.2.2=0))))],[]⟩ ⟨[(76,.c (.d (.bool true)))],[]⟩ [] [] [],.a [15,76] [],.a [14,76] [],.a [76,77,78] [],.a [76,79] [],.a [76,80] [],.a [81] [],.a [7,82] [],.a [13,82] [],.a [82,83,84] [],.a [82,85] [],.a [12,82] [12],.a [82,86,87] [],.a [82,88] [],.a [82,89] [],.a [90] [],.a [7,91] [],.a [91,92] [],.a [7,91] [],.a [13,91] [],.a [91,94,95] [],.a [91,96] [],.a [91,93,97] [],.a [91,98] [],.a [91,99] []] [7,12,16,61,62,63,100] [12,1006,1007] (z00 7) (.a (.a (.m ?_ (.a (.a (.a (.a (.a (.a (.a (.a (.a (.a (.a (.a (.a (.a (.a (.a (.a (.a (.a (.a (.a (.a (.a (.a .z))))))))))))))))))))))))))) ?_
      ·exact z0l (fun b=> .val (.c (.d (.bool b))) (True)) (p:=(!decide (r10.2.2=0))) hp13 (fun r=>by kernel_rfl) (fun r=>by kernel_rfl) trivial (by kernel_rfl) (by kernel_rfl) (fun r=>rfl)
      exact⟨_,h,kr⟩
     ·obtain⟨r14,hr14,h⟩:=bind_elim h;rcases z2m h with⟨hp15,h⟩|⟨hp15,h⟩
      ·refine z0u [.a [17] [],.a [74] [],.m ⟨[(75,cD (.bool (!decide (r10.2.2=0))))],[]⟩ ⟨[(76,.c (.d (.bool false)))],[]⟩ [] [] [],.a [15,76] [],.a [14,76] [],.m ⟨[(76,cD (.bool false)),(77,cD (lD 3 encValue r10.1)),(78,cD (lD 3 encValue (a4.2.1.getD (0+i6) zzd)))],[]⟩ ⟨[(79,cD (dI r14))],[]⟩ [] [] [],.a [76,79] [],.a [76,80] [],.m ⟨[(81,cD (.bool (!decide (r14=0))))],[]⟩ ⟨[(82,.c (.d (.bool true)))],[]⟩ [] [] [],.a [7,82] [],.a [13,82] [],.a [82,83,84] [],.a [82,85] [],.a [12,82] [12],.a [82,86,87] [],.a [82,88] [],.a [82,89] [],.a [90] [],.a [7,91] [],.a [91,92] [],.a [7,91] [],.a [13,91] [],.a [91,94,95] [],.a [91,96] [],.a [91,93,97] [],.a [91,98] [],.a [91,99] []] [7,12,16,61,62,63,100] [12,1006,1007] (z00 9) (.a (.a (.m ?_ (.a (.a (.m ?_ (.a (.a (.m ?_ (.a (.a (.a (.a (.a (.a (.a (.a (.a (.a (.a (.a (.a (.a (.a (.a (.a (.a .z))))))))))))))))))))))))))) ?_
       ·exact z0l (fun b=> .val (.c (.d (.bool b))) (True)) (p:=(!decide (r10.2.2=0))) hp13 (fun r=>by kernel_rfl) (fun r=>by kernel_rfl) trivial (by kernel_rfl) (by kernel_rfl) (fun r=>rfl)
       ·exact DOk.cA [] [cD (lD 3 encValue r10.1),cD (lD 3 encValue (a4.2.1.getD (0+i6) zzd))] (z8m hr14) fun r=>(.cons (.refl _) (.cons (.refl _) .nil))
       ·exact z0l (fun b=> .val (.c (.d (.bool b))) (True)) (p:=(!decide (r14=0))) hp15 (fun r=>by kernel_rfl) (fun r=>by kernel_rfl) trivial (by kernel_rfl) (by kernel_rfl) (fun r=>rfl)
       exact⟨_,h,kr⟩
      ·obtain⟨hc16,h⟩:=z03 h;obtain⟨hc17,h⟩:=z03 h;obtain⟨r18,hr18,h⟩:=bind_elim h;rcases z2m h with⟨hp19,h⟩|⟨hp19,h⟩
       ·refine z0u [.a [17] [],.a [74] [],.m ⟨[(75,cD (.bool (!decide (r10.2.2=0))))],[]⟩ ⟨[(76,.c (.d (.bool false)))],[]⟩ [] [] [],.a [15,76] [],.a [14,76] [],.m ⟨[(76,cD (.bool false)),(77,cD (lD 3 encValue r10.1)),(78,cD (lD 3 encValue (a4.2.1.getD (0+i6) zzd)))],[]⟩ ⟨[(79,cD (dI r14))],[]⟩ [] [] [],.a [76,79] [],.a [76,80] [],.m ⟨[(81,cD (.bool (!decide (r14=0))))],[]⟩ ⟨[(82,.c (.d (.bool false)))],[]⟩ [] [] [],.a [7,82] [],.a [13,82] [],.a [82,83,84] [1007],.a [82,85] [1007],.a [12,82] [12],.m ⟨[(82,cD (.bool false)),(86,.agg (cTime (a4.2.2.getD (0+i6) zzd))),(87,.agg (cTime r5))],[]⟩ ⟨[(88,cD (.bool r18))],[]⟩ [] [] [],.a [82,88] [],.a [82,89] [],.m ⟨[(90,cD (.bool (!r18)))],[]⟩ ⟨[(91,.c (.d (.bool true)))],[]⟩ [] [] [],.a [7,91] [],.a [91,92] [],.a [7,91] [],.a [13,91] [],.a [91,94,95] [],.a [91,96] [],.a [91,93,97] [],.a [91,98] [],.a [91,99] []] [7,12,16,61,62,63,100] [12,1006,1007] (tN 8 (ai hc16 (ai hc17 (z00 4)))) (.a (.a (.m ?_ (.a (.a (.m ?_ (.a (.a (.m ?_ (.a (.a (.a (.a (.a (.m ?_ (.a (.a (.m ?_ (.a (.a (.a (.a (.a (.a (.a (.a (.a .z))))))))))))))))))))))))))) ?_
        ·exact z0l (fun b=> .val (.c (.d (.bool b))) (True)) (p:=(!decide (r10.2.2=0))) hp13 (fun r=>by kernel_rfl) (fun r=>by kernel_rfl) trivial (by kernel_rfl) (by kernel_rfl) (fun r=>rfl)
        ·exact DOk.cA [] [cD (lD 3 encValue r10.1),cD (lD 3 encValue (a4.2.1.getD (0+i6) zzd))] (z8m hr14) fun r=>(.cons (.refl _) (.cons (.refl _) .nil))
        ·exact z0l (fun b=> .val (.c (.d (.bool b))) (True)) (p:=(!decide (r14=0))) hp15 (fun r=>by kernel_rfl) (fun r=>by kernel_rfl) trivial (by kernel_rfl) (by kernel_rfl) (fun r=>rfl)
        ·exact DOk.cA [] [.agg (cTime (a4.2.2.getD (0+i6) zzd)),.agg (cTime r5)] (z7q hr18) fun r=>(.cons (.refl _) (.cons (.refl _) .nil))
        ·exact z0l (fun b=> .val (.c (.d (.bool b))) (True)) (p:=(!r18)) hp19 (fun r=>by kernel_rfl) (fun r=>by kernel_rfl) trivial (by kernel_rfl) (by kernel_rfl) (fun r=>rfl)
        exact⟨_,h,kr⟩
       ·obtain⟨r20,hr20,h⟩:=bind_elim h;obtain⟨hc21,h⟩:=z03 h;obtain⟨hc22,h⟩:=z03 h;obtain⟨r23,hr23,h⟩:=bind_elim h;refine z0u [.a [17] [],.a [74] [],.m ⟨[(75,cD (.bool (!decide (r10.2.2=0))))],[]⟩ ⟨[(76,.c (.d (.bool false)))],[]⟩ [] [] [],.a [15,76] [],.a [14,76] [],.m ⟨[(76,cD (.bool false)),(77,cD (lD 3 encValue r10.1)),(78,cD (lD 3 encValue (a4.2.1.getD (0+i6) zzd)))],[]⟩ ⟨[(79,cD (dI r14))],[]⟩ [] [] [],.a [76,79] [],.a [76,80] [],.m ⟨[(81,cD (.bool (!decide (r14=0))))],[]⟩ ⟨[(82,.c (.d (.bool false)))],[]⟩ [] [] [],.a [7,82] [],.a [13,82] [],.a [82,83,84] [1007],.a [82,85] [1007],.a [12,82] [12],.m ⟨[(82,cD (.bool false)),(86,.agg (cTime (a4.2.2.getD (0+i6) zzd))),(87,.agg (cTime r5))],[]⟩ ⟨[(88,cD (.bool r18))],[]⟩ [] [] [],.a [82,88] [],.a [82,89] [],.m ⟨[(90,cD (.bool (!r18)))],[]⟩ ⟨[(91,.c (.d (.bool false)))],[]⟩ [] [] [],.a [7,91] [],.m ⟨[(91,cD (.bool false)),(92,.c (oC 1007 3 a4.2.2))],[(1007,vL 3 z01 a4.2.2)]⟩ ⟨[(93,cD (lD 3 z01 r20))],[]⟩ [] [] [],.a [7,91] [],.a [13,91] [],.a [91,94,95] [1007],.a [91,96] [1007],.m ⟨[(91,cD (.bool false)),(93,cD (lD 3 z01 r20)),(97,.agg (cTime (a4.2.2.getD (0+i6) zzd)))],[]⟩ ⟨[(98,cD (.bool r23))],[]⟩ [] [] [],.a [91,98] [],.a [91,99] []] [7,12,16,61,62,63,100] [12,1006,1007] (tN 8 (ai hc16 (ai hc17 (tN 6 (ai hc21 (ai hc22 (z00 2))))))) (.a (.a (.m ?_ (.a (.a (.m ?_ (.a (.a (.m ?_ (.a (.a (.a (.a (.a (.m ?_ (.a (.a (.m ?_ (.a (.m ?_ (.a (.a (.a (.a (.m ?_ (.a (.a .z))))))))))))))))))))))))))) ?_
        ·exact z0l (fun b=> .val (.c (.d (.bool b))) (True)) (p:=(!decide (r10.2.2=0))) hp13 (fun r=>by kernel_rfl) (fun r=>by kernel_rfl) trivial (by kernel_rfl) (by kernel_rfl) (fun r=>rfl)
        ·exact DOk.cA [] [cD (lD 3 encValue r10.1),cD (lD 3 encValue (a4.2.1.getD (0+i6) zzd))] (z8m hr14) fun r=>(.cons (.refl _) (.cons (.refl _) .nil))
        ·exact z0l (fun b=> .val (.c (.d (.bool b))) (True)) (p:=(!decide (r14=0))) hp15 (fun r=>by kernel_rfl) (fun r=>by kernel_rfl) trivial (by kernel_rfl) (by kernel_rfl) (fun r=>rfl)
        ·exact DOk.cA [] [.agg (cTime (a4.2.2.getD (0+i6) zzd)),.agg (cTime r5)] (z7q hr18) fun r=>(.cons (.refl _) (.cons (.refl _) .nil))
        ·exact z0l (fun b=> .val (.c (.d (.bool b))) (True)) (p:=(!r18)) hp19 (fun r=>by kernel_rfl) (fun r=>by kernel_rfl) trivial (by kernel_rfl) (by kernel_rfl) (fun r=>rfl)
        ·exact DOk.cA [] [.c (oC 1007 3 a4.2.2)] (zcb hr20) fun r=>(.cons (AVArg.view (z01) a4.2.2 rfl) .nil)
        ·exact DOk.cA [] [cD (lD 3 z01 r20),.agg (cTime (a4.2.2.getD (0+i6) zzd))] (zdg hr23) fun r=>(.cons (.refl _) (.cons (.refl _) .nil))
        exact⟨_,h,kr⟩
   ·intro a8 h;refine Tri.sg [4] [] (z00 3) ?_;refine Tri.ret ?_;cases h;exact RetAt.k
   ·exact fun x s hx hr=>by cases hx;exact hr
  ·exact fun x=>x.elim
end Go.Av
namespace Go.Av
open Go Go.Proofs
def zah (x:Value):Prop:=(fun _=>True) x.isText∧(okInt .i64) x.n∧(fun s=>s.size≤maxN) x.s∧True
def zbx (x:Value):Nat:=((fun _=>1) x.isText+((fun _=>1) x.n+((fun s=>s.size+1) x.s+0)))+1
def zgz (x:Time):Prop:=(okInt .u64) x.epoch∧(fun p=>(okInt .u64) p.1∧(okInt .u64) p.2) x.loop∧True
def zgg (x:Time):Nat:=((fun _=>1) x.epoch+((fun p=>(fun _=>1) p.1+(fun _=>1) p.2+1) x.loop+0))+1
theorem ziy {H:Type}{enc:TypeId×Go.Value→H}{W:World}{Z:TypeId→DataW H→Prop}{B:DataW H→Nat}(hZ:Fine Tryz.prog Z)(hB:BulkOk B):Reads enc Tryz.prog W Z B 64 encValue zah zbx:=fun n=>by
 have h:=z1j.struct (n:=n) (enc:=enc) (W:=W) (tot:=3) hZ hB Tryz.underlying64 (by kernel_rfl) (fun m _=>(z5t.cons (k:=1) (z1j.bool hB Tryz.underlying4) rfl (by kernel_rfl) (z5t.cons (k:=1) (z1j.int hB Tryz.underlying2) rfl (by kernel_rfl) (z5t.cons (k:=1) (z1j.string hZ hB Tryz.underlying9) rfl (by kernel_rfl) (z5t.nil (off:=3))))));exact h.map (fun(p:Bool×Int×ByteArray×Unit)=>(⟨p.1,p.2.1,p.2.2.1⟩:Value)) (fun _ _=>rfl) (fun _ h=>h) (fun _ _=>zz9 _)
theorem zjw {H:Type}{enc:TypeId×Go.Value→H}{W:World}{Z:TypeId→DataW H→Prop}{B:DataW H→Nat}(hZ:Fine Tryz.prog Z)(hB:BulkOk B):Reads enc Tryz.prog W Z B 32 z01 zgz zgg:=fun n=>by
 have h:=z1j.struct (n:=n) (enc:=enc) (W:=W) (tot:=3) hZ hB Tryz.underlying32 (by kernel_rfl) (fun m _=>(z5t.cons (k:=1) (z1j.int hB Tryz.underlying29) rfl (by kernel_rfl) (z5t.cons (k:=2) (zgb hZ hB Tryz.underlying30 (k:=1) (by kernel_rfl) (by kernel_rfl) (fun m _=>(z1j.int hB Tryz.underlying29))) rfl (by kernel_rfl) (z5t.nil (off:=3)))));exact h.map (fun(p:Int×(Int×Int)×Unit)=>(⟨p.1,p.2.1⟩:Time)) (fun _ _=>rfl) (fun _ h=>h) (fun _ _=>zz9 _)
end Go.Av
/-
 Orders,as comparisons with three answers:without any program.
-/
namespace Go.Av
open Go
structure IsCmp {α:Type} (c:α→α→Int):Prop where
 vals: ∀a b,c a b= -1∨c a b=0∨c a b=1
 anti: ∀a b,c b a= - c a b
 tr: ∀a b d,c a b≤0→c b d≤0→c a d≤0
namespace IsCmp
variable {α β:Type} {c:α→α→Int}
theorem refl (h:IsCmp c)(a:α):c a a=0:=by have:=h.anti a a;omega
theorem lt_tr (h:IsCmp c){a b d:α}(h1:c a b<0)(h2:c b d≤0):c a d<0:=by
 have:=h.tr a b d (by omega) h2;rcases h.vals a d with g|g|g
 ·omega
 ·have g1:=h.anti a d;have g2:=h.tr b d a h2 (by omega)
  have g3:=h.anti a b;omega
 ·omega
theorem eqL (h:IsCmp c){a b:α}(d:α)(h1:c a b=0):c a d=c b d:=by
 have h2:=h.anti a b;have t1:=h.tr a b d (by omega)
 have t2:=h.tr b a d (by omega);have t3:=h.tr d a b
 have t4:=h.tr d b a;have a1:=h.anti a d
 have a2:=h.anti b d;rcases h.vals a d with g|g|g<;>rcases h.vals b d with k|k|k<;>omega
theorem eqR (h:IsCmp c){a b:α}(d:α)(h1:c a b=0):c d a=c d b:=by
 have:=h.eqL d h1;have a1:=h.anti a d
 have a2:=h.anti b d;omega
theorem on (h:IsCmp c)(f:β→α):IsCmp fun x y=>c (f x) (f y):=⟨fun a b=>h.vals _ _,fun a b=>h.anti _ _,fun a b d=>h.tr _ _ _⟩
end IsCmp
def cmpZ (a b:Int):Int:=if a<b then -1 else if b<a then 1 else 0
theorem zcl:IsCmp cmpZ where
 vals a b:=by unfold cmpZ;split<;>(try split)<;>simp
 anti a b:=by unfold cmpZ;split<;>(try split)<;>(try split)<;>(try split)<;>omega
 tr a b d:=by unfold cmpZ;split<;>(try split)<;>(try split)<;>(try split)<;>(try split)<;>(try split)<;>omega
theorem zjc {a b:Int}:cmpZ a b=0↔a=b:=by unfold cmpZ;split<;>(try split)<;>omega
def thenC (u v:Int):Int:=if u=0 then v else u
def cmpL {α:Type}(c:α→α→Int):List α→List α→Int
 |[],[]=>0
 |[],_::_=> -1
 |_::_,[]=>1
 |a::x,b::y=>thenC (c a b) (cmpL c x y)
theorem IsCmp.list {α:Type}{c:α→α→Int}(h:IsCmp c):IsCmp (cmpL c) where
 vals:=by
  intro a;induction a with
  |nil=>intro b;cases b<;>simp[cmpL]
  |cons x a ih=>
   intro b;cases b with
   |nil=>simp[cmpL]
   |cons y b=>
    simp only[cmpL,thenC];split
    ·exact ih b
    ·exact h.vals x y
 anti:=by
  intro a;induction a with
  |nil=>intro b;cases b<;>simp[cmpL]
  |cons x a ih=>
   intro b;cases b with
   |nil=>simp[cmpL]
   |cons y b=>
    have h1:=h.anti x y;have h2:=ih b
    simp only[cmpL,thenC];split<;>split<;>omega
 tr:=by
  intro a;induction a with
  |nil=>intro b d _ _;cases d<;>simp[cmpL]
  |cons x a ih=>
   intro b d h1 h2;cases b with
   |nil=>simp[cmpL]at h1
   |cons y b=>
    cases d with
    |nil=>simp[cmpL]at h2
    |cons z d=>
     simp only[cmpL]at*;unfold thenC at*;by_cases g1:c x y=0<;>by_cases g2:c y z=0
     ·have:=h.eqL z g1;rw[if_pos g1]at h1;rw[if_pos g2]at h2;rw[if_pos (by omega)];exact ih b d h1 h2
     ·have:=h.eqL z g1;rw[if_neg g2]at h2;rw[if_neg (by omega)];omega
     ·have:=h.eqR x g2;rw[if_neg g1]at h1;rw[if_neg (by omega)];omega
     ·rw[if_neg g1]at h1;rw[if_neg g2]at h2;have:=h.lt_tr (a:=x) (b:=y) (d:=z) (by omega) h2
      rw[if_neg (by omega)];omega
def cmpU8 (a b:UInt8):Int:=cmpZ (a.toNat:Int) (b.toNat:Int)
theorem zkf:IsCmp cmpU8:=zcl.on fun a:UInt8=>(a.toNat:Int)
theorem zbc: ∀x y:List UInt8,Op.bytesLess x y=decide (cmpL cmpU8 x y<0)
 |[],[]=>by simp[Op.bytesLess,cmpL]
 |[],_::_=>by simp[Op.bytesLess,cmpL]
 |_::_,[]=>by simp[Op.bytesLess,cmpL]
 |a::x,b::y=>by
  rw[Op.bytesLess,zbc x y,cmpL];have e1:(a<b)↔(a.toNat:Int)<(b.toNat:Int):=by rw[UInt8.lt_iff_toNat_lt];omega
  have e2:(a=b)↔(a.toNat:Int)=(b.toNat:Int):=by rw[←UInt8.toNat_inj];omega
  unfold cmpU8 thenC cmpZ;rw[Bool.eq_iff_iff];simp only[Bool.or_eq_true,Bool.and_eq_true,decide_eq_true_eq,beq_iff_eq,e1,e2];by_cases h1:(a.toNat:Int)<(b.toNat:Int)
  ·simp[h1]
  ·by_cases h2:(b.toNat:Int)<(a.toNat:Int)
   ·simp[h1,h2];omega
   ·have:(a.toNat:Int)=(b.toNat:Int):=by omega
    simp[this]
theorem zcx: ∀x y:List UInt8,(x==y)=decide (cmpL cmpU8 x y=0)
 |[],[]=>by simp[cmpL]
 |[],_::_=>by simp[cmpL]
 |_::_,[]=>by simp[cmpL]
 |a::x,b::y=>by
  rw[List.cons_beq_cons,zcx x y,cmpL];have e2:(a=b)↔(a.toNat:Int)=(b.toNat:Int):=by rw[←UInt8.toNat_inj];omega
  have e3:cmpU8 a b=0↔(a.toNat:Int)=(b.toNat:Int):=zjc;unfold thenC;rw[Bool.eq_iff_iff];simp only[Bool.and_eq_true,decide_eq_true_eq,beq_iff_eq,e2];by_cases h:cmpU8 a b=0
  ·rw[if_pos h];simp[e3.1 h]
  ·rw[if_neg h];constructor
   ·rintro⟨g,_⟩;exact absurd (e3.2 g) h
   ·intro g;exact absurd g h
def cmpS (a b:ByteArray):Int:=cmpL cmpU8 a.toList b.toList
theorem zck:IsCmp cmpS:=zkf.list.on fun a:ByteArray=>a.toList
theorem zfr (a b:ByteArray):strLt a b=decide (cmpS a b<0):=zbc _ _
theorem zk4 (a b:ByteArray):strEq a b=decide (cmpS a b=0):=zcx _ _
theorem zb8 (a:ByteArray):strEq a a=true:=by unfold strEq;simp
theorem zfz {a b:ByteArray}(h:a.toList=b.toList):a=b:=by
 rw[ByteArray.toList_eq,ByteArray.toList_eq]at h;cases a;cases b;simp at h;simp[h]
theorem zfq {a b:ByteArray}:strEq a b=true↔a=b:=by
 unfold strEq;rw[beq_iff_eq];exact⟨zfz,fun h=>by rw[h]⟩
theorem z6k {α:Type}[Inhabited α]{l:List α}{i:Nat}(h:i<l.length):l.drop i=l.getD i zzd::l.drop (i+1):=by
 rw[List.drop_eq_getElem_cons h,List.getD_eq_getElem?_getD,List.getElem?_eq_getElem h];rfl
theorem zl1 {α:Type}[Inhabited α]{c:α→α→Int}{p0 p1:List α}{B:Nat→Unit→Option (Ctl Unit Int)}{kn:Unit→Option Int}
 (hB: ∀i,i<p0.length→B i ()=if p1.length≤i then some (.ret 1)else if c (p0.getD i zzd) (p1.getD i zzd)=0 then some (.next ())else some (.ret (c (p0.getD i zzd) (p1.getD i zzd))))
 (hk:kn ()=some (if p0.length<p1.length then -1 else 0)):outK (z0n B p0.length 0 ()) kn (fun x=>some x)=some (cmpL c p0 p1):=by
 have key: ∀k i,i+k=p0.length→i≤p1.length→outK (z0n B k i ()) kn (fun x=>some x)=some (cmpL c (p0.drop i) (p1.drop i)):=by
  intro k;induction k with
  |zero=>
   intro i hi hle;simp only[z0n,z3x,hk];rw[List.drop_eq_nil_of_le (by omega:p0.length≤i)];by_cases h:p0.length<p1.length
   ·rw[if_pos h,z6k (by omega:i<p1.length)];rfl
   ·rw[if_neg h,List.drop_eq_nil_of_le (by omega:p1.length≤i)];rfl
  |succ k ih=>
   intro i hi hle;simp only[z0n,hB i (by omega)];rw[z6k (by omega:i<p0.length)];by_cases h:p1.length≤i
   ·rw[if_pos h,List.drop_eq_nil_of_le (by omega:p1.length≤i)];rfl
   ·rw[if_neg h,z6k (by omega:i<p1.length)];simp only[cmpL,thenC];by_cases h0:c (p0.getD i zzd) (p1.getD i zzd)=0
    ·rw[if_pos h0,if_pos h0];exact ih (i+1) (by omega) (by omega)
    ·rw[if_neg h0,if_neg h0];rfl
 exact key p0.length 0 (by omega) (by omega)
end Go.Av
namespace Go.Av
open Go
def cmpV (a b:Value):Int:=if a.isText=b.isText then(if a.isText then cmpS a.s b.s else cmpZ a.n b.n)else(if a.isText then 1 else -1)
theorem zl2:IsCmp cmpV where
 vals a b:=by
  unfold cmpV;split
  ·split
   ·exact zck.vals _ _
   ·exact zcl.vals _ _
  ·split<;>simp
 anti a b:=by
  unfold cmpV;cases a.isText<;>cases b.isText<;>simp
  ·exact zcl.anti _ _
  ·exact zck.anti _ _
 tr a b d:=by
  unfold cmpV;cases a.isText<;>cases b.isText<;>cases d.isText<;>simp
  ·exact zcl.tr _ _ _
  ·exact zck.tr _ _ _
theorem zk5 (a b:ByteArray):(strLt a b||strEq a b)=decide (cmpS a b≤0):=by
 rw[zfr,zk4,Bool.eq_iff_iff];simp;omega
theorem zdy (x y:Int):z5f x y=some (cmpZ x y):=by
 unfold z5f z67 cmpZ;simp only[decide_true,Bool.not_true,zz0,z0s,z0m];split<;>(try split)<;>rfl
theorem zhn (x y:Int):z4n x y=some (cmpZ x y):=by
 unfold z4n z5g cmpZ;simp only[decide_true,Bool.not_true,zz0,z0s,z0m];split<;>(try split)<;>rfl
theorem zgi (x y:ByteArray):z3b x y=some (cmpS x y):=by
 unfold z3b z4w;simp only[zb8,Bool.not_true,zz0,z0s];rw[zk5,zfr];simp only[zbv,z0m];rcases zck.vals x y with h|h|h<;>simp[h]
theorem zeo (a b:Value):z69 a b=some (cmpV a b):=by
 unfold z69 value_mark cmpV;simp only[zdy,zgi,zhn,zbv];cases a.isText<;>cases b.isText<;>simp[zdy,cmpZ]
theorem zhi (a b:List Value):z6p a b=some (cmpL cmpV a b):=by
 unfold z6p z0a;rw[zl1 (c:=cmpV)]
 ·rfl
 ·intro i hi;simp only[zeo,zz0,z0m,zbv,Int.ofNat_le];split
  ·rfl
  ·rw[z07 (by omega)]
 ·simp only[z0m,Int.ofNat_lt];split<;>rfl
def z45 (v:Value):Bool:=if v.isText then decide (v.n=0) && decide (v.s.size≤64)else strEq v.s (bs [])
def okRow (p:List Value):Bool:=decide (p.length≤8) && p.all z45
theorem zhb (v:Value):z6b v=some (z45 v):=by
 unfold z6b z45;have e:((v.s.size:Int)≤64)↔v.s.size≤64:=by omega
 cases v.isText<;>by_cases h:v.n=0<;>simp[h,e]
theorem ziw {S R X:Type}[Inhabited X]{B:Nat→S→Option (Ctl S R)}{l:List X}(P:X→Bool)(f:Nat→R){s:S}
 (hB: ∀i,i<l.length→B i s=if P (l.getD i zzd)then some (.ret (f i))else some (.next s)):
 (l.any P=false∧z0n B l.length 0 s=some (.done s))∨(l.any P=true∧ ∃i,i<l.length∧P (l.getD i zzd)=true∧z0n B l.length 0 s=some (.ret (f i))):=by
 have key: ∀k i,i+k=l.length→((l.drop i).any P=false∧z0n B k i s=some (.done s))∨((l.drop i).any P=true∧ ∃j,j<l.length∧P (l.getD j zzd)=true∧z0n B k i s=some (.ret (f j))):=by
  intro k;induction k with
  |zero=>intro i hi;left;rw[List.drop_eq_nil_of_le (by omega:l.length≤i)];exact⟨rfl,rfl⟩
  |succ k ih=>
   intro i hi;rw[z6k (by omega:i<l.length)];simp only[z0n,hB i (by omega),List.any_cons];by_cases h:P (l.getD i zzd)=true
   ·rw[if_pos h];right;exact⟨by rw[h];rfl,i,by omega,h,rfl⟩
   ·rw[if_neg h];have hf:P (l.getD i zzd)=false:=by simpa using h
    rw[hf,Bool.false_or];exact ih (i+1) (by omega)
 have:=key l.length 0 (by omega);rwa[List.drop_zero]at this
theorem zbb (p:List Value):(p.any fun v=> !z45 v)= !(p.all z45):=by
 rw[List.any_eq_not_all_not];simp
theorem zg7 (p:List Value):value_Check p=some (if okRow p then 0 else 4):=by
 unfold value_Check z0k z0o z73 okRow;simp only[jn_eq,z0m,zhb,zz0];by_cases h:8<(p.length:Int)
 ·rw[if_pos h,decide_eq_false (by omega: ¬p.length≤8)];rfl
 ·rw[if_neg h,decide_eq_true (by omega:p.length≤8)];rcases ziw (S:=Unit) (R:=Int) (l:=p) (fun v=> !z45 v) (fun i=>(i:Int)) (s:=()) (B:=fun i1 a2=>bf (!z45 (p.getD i1 zzd)) (some (.ret ((i1:Nat):Int))) (some (.next ()))) (fun i hi=>by
   cases z45 (p.getD i zzd)<;>rfl)with⟨h1,h2⟩|⟨h1,i,_,_,h2⟩
  ·rw[h2];rw[zbb]at h1;have:p.all z45=true:=by simpa using h1
   simp[this]
  ·rw[h2];rw[zbb]at h1;have:p.all z45=false:=by simpa using h1
   simp[this,Int.natCast_nonneg]
theorem zj9 {s:ByteArray}:strEq s (bs [])=true↔s=bs []:=zfq
theorem zcc {p:List Value}(h:okRow p=true):p.all z45=true∧p.length≤8:=by
 unfold okRow at h;simp only[Bool.and_eq_true,decide_eq_true_eq]at h;exact⟨h.2,h.1⟩
end Go.Av
/-
 Numbers and bits:without any program.
-/
namespace Go.Av
open Go
theorem z51 (n:Int):zzu.wrap n=n % 18446744073709551616:=by simp[IntKind.wrap,IntKind.bits,IntKind.signed]
theorem zlr (n:Int):IntKind.u8.wrap n=n % 256:=by simp[IntKind.wrap,IntKind.bits,IntKind.signed]
theorem zhk (n:Int):zzi.wrap n=if n % 18446744073709551616≥9223372036854775808 then n % 18446744073709551616-18446744073709551616 else n % 18446744073709551616:=by
 simp[IntKind.wrap,IntKind.bits,IntKind.signed]
def in64 (x:Int):Prop:= -9223372036854775808≤x∧x<9223372036854775808
theorem z4c {x:Int}(h:in64 x):zzi.wrap x=x:=by
 unfold in64 at h;rw[zhk];split<;>omega
theorem shr63 {x:Int}(h:in64 x):shrOp .i64 x 63=if x<0 then -1 else 0:=by
 unfold in64 at h;unfold shrOp;have e:(2:Int)^(min (63:Int).toNat zzi.bits)=9223372036854775808:=by decide
 rw[e,Int.fdiv_eq_ediv_of_nonneg _ (by decide)];split<;>omega
theorem z90 (k:IntKind)(n m:Nat)(hm:m≤k.bits):shrOp k (n:Int) (m:Int)=((n / 2^m:Nat):Int):=by
 unfold shrOp;rw[zz7,Nat.min_eq_left hm,Int.fdiv_eq_ediv_of_nonneg _ (by exact Int.le_of_lt (Int.pow_pos (by decide)))]
 push_cast
 rfl
theorem z4t {w:Nat}(n:Nat)(h:n<2^w):(BitVec.ofInt w (n:Int)).toNat=n:=by
 rw[BitVec.toNat_ofInt];have e:((n:Int) % ((2^w:Nat):Int))=(n:Int):=Int.emod_eq_of_lt (by omega) (by exact_mod_cast h);rw[e,zz7]
theorem uwrap {k:IntKind}(hs:k.signed=false){n:Nat}(h:n<2^k.bits):k.wrap (n:Int)=(n:Int):=by
 unfold IntKind.wrap;simp only[hs,Bool.false_and,Bool.false_eq_true,if_false];have:((2:Int)^k.bits)=((2^k.bits:Nat):Int):=by push_cast;rfl
 rw[this];exact Int.emod_eq_of_lt (by omega) (by exact_mod_cast h)
theorem zan {k:IntKind}(hs:k.signed=false){x y:Nat}(hx:x<2^k.bits)(hy:y<2^k.bits):z09 .xor k (x:Int) (y:Int)=((x^^^y:Nat):Int):=by
 unfold z09;simp only;rw[BitVec.toNat_xor,z4t x hx,z4t y hy,uwrap hs (Nat.xor_lt_two_pow hx hy)]
theorem zm6 {k:IntKind}(hs:k.signed=false){x y:Nat}(hx:x<2^k.bits)(hy:y<2^k.bits):z09 .or k (x:Int) (y:Int)=((x|||y:Nat):Int):=by
 unfold z09;simp only;rw[BitVec.toNat_or,z4t x hx,z4t y hy,uwrap hs (Nat.or_lt_two_pow hx hy)]
theorem zi9 {k:IntKind}(hs:k.signed=false){x y:Nat}(hx:x<2^k.bits)(hy:y<2^k.bits):z09 .and k (x:Int) (y:Int)=((x &&& y:Nat):Int):=by
 unfold z09;simp only;rw[BitVec.toNat_and,z4t x hx,z4t y hy,uwrap hs (Nat.and_lt_two_pow x hy)]
theorem zkd {k:IntKind}(hs:k.signed=false){x:Nat}(hx:x<2^k.bits)(hk:1<2^k.bits):z09 .and k (x:Int) 1=((x % 2:Nat):Int):=by
 have:=zi9 hs hx hk;rw[show((1:Nat):Int)=1 from rfl]at this;rw[this,show(1:Nat)=2^1-1 from rfl,Nat.and_two_pow_sub_one_eq_mod]
theorem or128 {x:Nat}(h:x<256):z09 .or .u8 (x:Int) 128=((x % 128+128:Nat):Int):=by
 have key: ∀x:Fin 256,z09 .or .u8 (x.val:Int) 128=((x.val % 128+128:Nat):Int):=by decide+kernel
 exact key ⟨x,h⟩
theorem zj8 {x:Nat}(h:x<256):z09 .and .u8 (x:Int) 127=((x % 128:Nat):Int):=by
 have key: ∀x:Fin 256,z09 .and .u8 (x.val:Int) 127=((x.val % 128:Nat):Int):=by decide+kernel
 exact key ⟨x,h⟩
theorem zm5 {a b i:Nat}(h:b<2^i):b|||(2^i*a)=2^i*a+b:=by
 rw[Nat.or_comm];exact(Nat.two_pow_add_eq_or_of_lt h a).symm
theorem zak {k:IntKind}(n m:Nat)(hm:m≤k.bits):shlOp k (n:Int) (m:Int)=k.wrap ((n*2^m:Nat):Int):=by
 unfold shlOp;rw[zz7,Nat.min_eq_left hm]
 push_cast
 rfl
end Go.Av
namespace Go.Av
open Go
def crcT (c:Nat):Nat:=if c % 2=1 then(c / 2)^^^2197175160 else c / 2
def iter {X:Type}(f:X→X):Nat→X→X
 |0,x=>x
 |n+1,x=>iter f n (f x)
def crcB (c b:Nat):Nat:=iter crcT 8 (c^^^b)
def crcL (l:List UInt8):Nat:=l.foldl (fun c b=>crcB c b.toNat) 4294967295
def crcS (s:ByteArray):Nat:=4294967295-crcL s.data.toList
def z0w (s:ByteArray)(i:Nat):Nat:=(s.data.toList.getD i 0).toNat
theorem zff (s:ByteArray)(i:Nat):z0w s i<256:=UInt8.toNat_lt _
theorem zfe {s:ByteArray}{i:Nat}:bt s (i:Int)=(z0w s i:Int):=by
 unfold bt z0w;rw[zz7];have:s.data.getD i 0=s.data.toList.getD i 0:=by
  rw[Array.getD_eq_getD_getElem?,List.getD_eq_getElem?_getD,Array.getElem?_toList]
 rw[this]
theorem z86 (s:ByteArray):s.data.toList.length=s.size:=zz2
end Go.Av
namespace Go.Av
open Go
theorem zl9: ∀x:Fin 256,∃l:Fin 9,bt z2j (x.val:Int)=(l.val:Int)∧x.val<2^l.val∧(x.val=0→l.val=0)∧(x.val≠0→2^(l.val-1)≤x.val∧0<l.val):=by decide+kernel
def IsLen (n L:Nat):Prop:=n<2^L∧(n=0→L=0)∧(n≠0→2^(L-1)≤n∧0<L)
theorem IsLen.shift {n L s:Nat}(h:IsLen (n / 2^s) L)(hn:2^s≤n):IsLen n (L+s):=by
 obtain⟨h1,h2,h3⟩:=h;have hp:0<2^s:=Nat.pow_pos (by decide)
 have hq:n / 2^s≠0:=Nat.ne_of_gt (Nat.div_pos hn hp);obtain⟨h4,h5⟩:=h3 hq;refine⟨?_,fun h=>by omega,fun _=>⟨?_,by omega⟩⟩
 ·rw[Nat.pow_add];exact(Nat.div_lt_iff_lt_mul hp).1 h1
 ·rw[show L+s-1=(L-1)+s by omega,Nat.pow_add];exact(Nat.le_div_iff_mul_le hp).1 h4
theorem zgw {n:Nat}(h:n<2^64): ∃L:Nat,z4i (n:Int)=some (L:Int)∧IsLen n L∧L≤64:=by
 have last: ∀(x b:Nat),x<256→b≤56→ ∃L:Nat,(need ((0:Int)≤(IntKind.u8.wrap (x:Int))∧(IntKind.u8.wrap (x:Int))<(z2j.size:Int))<|some (zzi.wrap ((b:Int)+(zzi.wrap (bt z2j (IntKind.u8.wrap (x:Int)))))))=some ((L+b:Nat):Int)∧IsLen x L∧L≤8:=fun x b hx hb=>by
  obtain⟨l,h1,h2,h3,h4⟩:=zl9 ⟨x,hx⟩;have e:IntKind.u8.wrap (x:Int)=(x:Int):=uwrap (k:= .u8) rfl hx
  have hsz:z2j.size=256:=by decide+kernel
  rw[e,hsz,z07 (by omega),h1];have hl:=l.isLt;refine⟨l.val,?_,⟨h2,h3,h4⟩,by omega⟩;rw[z1n (n:=(l.val:Int)) (by omega) (by omega),z1n (by omega) (by omega)];exact congrArg some (by omega)
 have s8: ∀x:Nat,shrOp .u64 (x:Int) 8=((x / 2^8:Nat):Int):=fun x=>z90 .u64 x 8 (by decide);have s16: ∀x:Nat,shrOp .u64 (x:Int) 16=((x / 2^16:Nat):Int):=fun x=>z90 .u64 x 16 (by decide)
 have s32: ∀x:Nat,shrOp .u64 (x:Int) 32=((x / 2^32:Nat):Int):=fun x=>z90 .u64 x 32 (by decide);have p8: ∀(x b:Nat),x<65536→b≤48→ ∃L:Nat,bf (decide (256≤(x:Int))) (need ((0:Int)≤(IntKind.u8.wrap (shrOp .u64 (x:Int) 8))∧(IntKind.u8.wrap (shrOp .u64 (x:Int) 8))<(z2j.size:Int))<|some (zzi.wrap ((zzi.wrap ((b:Int)+8))+(zzi.wrap (bt z2j (IntKind.u8.wrap (shrOp .u64 (x:Int) 8))))))) (need ((0:Int)≤(IntKind.u8.wrap (x:Int))∧(IntKind.u8.wrap (x:Int))<(z2j.size:Int))<|some (zzi.wrap ((b:Int)+(zzi.wrap (bt z2j (IntKind.u8.wrap (x:Int)))))))=some ((L+b:Nat):Int)∧IsLen x L∧L≤16:=fun x b hx hb=>by
  rw[z0m];by_cases h1:256≤(x:Int)
  ·rw[if_pos h1,s8,z1n (n:=(b:Int)+8) (by omega) (by omega)];obtain⟨L,g1,g2,g3⟩:=last (x / 2^8) (b+8) (by omega) (by omega);rw[show((b+8:Nat):Int)=(b:Int)+8 by omega]at g1;refine⟨L+8,?_,g2.shift (by omega),by omega⟩;exact g1.trans (congrArg some (by omega))
  ·rw[if_neg h1];obtain⟨L,g1,g2,g3⟩:=last x b (by omega) (by omega);exact⟨L,g1,g2,by omega⟩
 unfold z4i;simp only[jn_eq];by_cases h1:4294967296≤(n:Int)
 ·rw[z0m,if_pos h1,s32,z0m];by_cases h2:65536≤((n / 2^32:Nat):Int)
  ·rw[if_pos h2,s16,show zzi.wrap (32+16)=((48:Nat):Int)from by decide];obtain⟨L,g1,g2,g3⟩:=p8 (n / 2^32 / 2^16) 48 (by omega) (by omega);refine⟨L+48,g1,?_,by omega⟩;have:=(g2.shift (by omega)).shift (n:=n) (s:=32) (by omega)
   rw[Nat.add_assoc]at this;exact this
  ·rw[if_neg h2];obtain⟨L,g1,g2,g3⟩:=p8 (n / 2^32) 32 (by omega) (by omega);exact⟨L+32,g1,g2.shift (by omega),by omega⟩
 ·rw[z0m,if_neg h1,z0m];by_cases h2:65536≤(n:Int)
  ·rw[if_pos h2,s16,show zzi.wrap (0+16)=((16:Nat):Int)from by decide];obtain⟨L,g1,g2,g3⟩:=p8 (n / 2^16) 16 (by omega) (by omega);exact⟨L+16,g1,g2.shift (by omega),by omega⟩
  ·rw[if_neg h2];obtain⟨L,g1,g2,g3⟩:=p8 n 0 (by omega) (by omega);exact⟨L,by rw[show((0:Nat):Int)=0 from rfl]at g1;exact g1,g2,by omega⟩
theorem zkn {n L K:Nat}(h:IsLen n L)(g:IsLen n K):L=K:=by
 obtain⟨h1,h2,h3⟩:=h;obtain⟨g1,g2,g3⟩:=g;by_cases h0:n=0
 ·rw[h2 h0,g2 h0]
 ·obtain⟨h4,h5⟩:=h3 h0;obtain⟨g4,g5⟩:=g3 h0;rcases Nat.lt_trichotomy L K with e|e|e
  ·have:=Nat.pow_le_pow_right (n:=2) (by decide) (show L≤K-1 by omega);omega
  ·exact e
  ·have:=Nat.pow_le_pow_right (n:=2) (by decide) (show K≤L-1 by omega);omega
theorem zik (n:Nat):IsLen n (Sort.bitsLen n):=by
 refine⟨Sort.lt_two_pow_bitsLen n,fun h=>by rw[h];rfl,fun h=>?_⟩;have hp:0<Sort.bitsLen n:=by unfold Sort.bitsLen;rw[if_neg h];omega
 refine⟨?_,hp⟩;have:=mt (Sort.bitsLen_le_iff n (Sort.bitsLen n-1)).2 (by omega)
 omega
theorem zdv {n k:Nat}(h:n<2^k):Sort.bitsLen n≤k:=(Sort.bitsLen_le_iff n k).2 h
theorem zjk {n:Nat}(h:n<2^64):z57 (n:Int)=some ((Sort.bitsLen n:Nat):Int):=by
 unfold z57;have e:zzu.wrap (n:Int)=(n:Int):=uwrap (k:= .u64) rfl h
 obtain⟨L,e1,e2,_⟩:=zgw h;rw[show Sort.bitsLen n=L from zkn (zik n) e2]
 first
  |rw[e,e1];rfl
  |(rw[e1];rfl)
end Go.Av
namespace Go.Av
open Go
section
variable {α:Type} [Inhabited α]
theorem z1w (d:Array α)(j:Nat):d.toList.getD j zzd=d[j]! :=by
 rw[List.getD_eq_getElem?_getD,Array.getElem?_toList,getElem!_def];cases d[j]?<;>rfl
theorem z31 (d:Array α)(i j:Nat):(d.toList.set i d[j]!).set j d[i]! =(Sort.swp d i j).toList:=by
 unfold Sort.swp;rw[Array.toList_setIfInBounds,Array.toList_setIfInBounds]
theorem z19 (d:Array α)(i j:Nat):(Sort.swp d i j).size=d.size:=by unfold Sort.swp;simp
theorem wsub1 {j:Nat}(h1:1≤j)(h:j<4611686018427387904):zzi.wrap ((j:Int)-1)=((j-1:Nat):Int):=by
 rw[z1n (by omega) (by omega)];omega
theorem wadd1 {j:Nat}(h:j<4611686018427387904):zzi.wrap ((j:Int)+1)=((j+1:Nat):Int):=by
 rw[z1n (by omega) (by omega)];omega
theorem wsub {i j:Nat}(h1:j≤i)(h:i<4611686018427387904):zzi.wrap ((i:Int)-(j:Int))=((i-j:Nat):Int):=by
 rw[z1n (by omega) (by omega)];omega
theorem wadd {i j:Nat}(h:i+j<4611686018427387904):zzi.wrap ((i:Int)+(j:Int))=((i+j:Nat):Int):=by
 rw[z1n (by omega) (by omega)];omega
theorem wtwo {i:Nat}(h:2*i<4611686018427387904):zzi.wrap ((2:Int)*(i:Int))=((2*i:Nat):Int):=by
 rw[z1n (by omega) (by omega)];omega
theorem intle {i j:Nat}:((i:Int)≤(j:Int))=(i≤j):=propext (by omega)
theorem intlt {i j:Nat}:((i:Int)<(j:Int))=(i<j):=propext (by omega)
theorem z20 {S R:Type}{B:S→Option (Ctl S R)}{fuel:Nat}{s s':S}(h:B s=some (.next s')):loopN B (fuel+1) s=loopN B fuel s':=by rw[loopN,h]
theorem z1e {S R:Type}{B:S→Option (Ctl S R)}{fuel:Nat}{s s':S}(h:B s=some (.brk s')):loopN B (fuel+1) s=some (.done s'):=by rw[loopN,h]
theorem z7a {S R:Type}{B:S→Option (Ctl S R)}{fuel:Nat}{s:S}{r:R}(h:B s=some (.ret r)):loopN B (fuel+1) s=some (.ret r):=by rw[loopN,h]
theorem z8y {X Y R Q:Type}{o:Option (Out (X×Y) R)}{kn:X×Y→Option Q}{kr:R→Option Q}{r:Y}{q:Option Q}(h: ∃x:X,o=some (.done (x,r)))(hk: ∀x,kn (x,r)=q):outK o kn kr=q:=by
 obtain⟨x,h⟩:=h;rw[h];exact hk x
end
end Go.Av
namespace Go.Av
def z3g (t:Time):Prop:=0≤t.epoch∧0≤t.loop.1∧0≤t.loop.2
def lub2 (a x:Time):Time:=⟨if a.epoch<x.epoch then x.epoch else a.epoch,(if a.loop.1<x.loop.1 then x.loop.1 else a.loop.1,if a.loop.2<x.loop.2 then x.loop.2 else a.loop.2)⟩
def zeroT:Time:=⟨0,(0,0)⟩
def lubL (l:List Time):Time:=l.foldl lub2 zeroT
theorem Time.ext' {a b:Time}(h1:a.epoch=b.epoch)(h2:a.loop.1=b.loop.1)(h3:a.loop.2=b.loop.2):a=b:=by
 rcases a with⟨e,l1,l2⟩;rcases b with⟨e',l1',l2'⟩;simp at h1 h2 h3;simp[h1,h2,h3]
theorem zhq (a:Time):z6x a a=true:=by simp[z6x]
theorem max0 {a:Int}(h:0≤a):a=if 0<a then a else 0:=by
 by_cases h1:0<a
 ·rw[if_pos h1]
 ·rw[if_neg h1];omega
theorem z9s {l:List Time}(hl: ∀x∈l,z3g x):z3f l=some (lubL l):=by
 unfold z3f;rw[z9u (lubL l) (fun i a=>a=lubL (l.take i)) (fun s h=>by rw[h,List.take_length])]
 ·rfl
 ·intro i a hi ha;refine⟨_,?_,rfl⟩;rw[zf4 hi];have hx:=hl _ (z8c hi)
  generalize l.getD i zzd=x at*;simp only[lubL,List.foldl_append,List.foldl_cons,List.foldl_nil];rw[←lubL,←ha];simp only[jn_eq,z0n,z4j,zz0,z0m];rcases Nat.eq_zero_or_pos i with h0|h0
  ·subst h0;simp[lubL]at ha;subst ha;obtain⟨x1,x2,x3⟩:=hx;simp[outK,lub2,zeroT];exact⟨max0 x1,max0 x2,max0 x3⟩
  ·rw[if_neg (by omega)];simp[outK,lub2]
 ·rfl
theorem mx_eq (a b:Int):(if a<b then b else a)=max a b:=by split<;>omega
theorem zkb {x:Time}(h:z3g x):lub2 zeroT x=x:=by
 obtain⟨h1,h2,h3⟩:=h;simp only[lub2,mx_eq,zeroT];refine Time.ext' ?_ ?_ ?_<;>simp only<;>omega
theorem zlb {a b:Time}(ha:z3g a)(hb:z3g b):z3g (lub2 a b):=by
 obtain⟨h1,h2,h3⟩:=ha;obtain⟨g1,g2,g3⟩:=hb;simp only[z3g,lub2,mx_eq];omega
theorem zls:z3g zeroT:=by simp[z3g,zeroT]
theorem zld {l:List Time}(hl: ∀x∈l,z3g x):z3g (lubL l):=by
 have key: ∀(l:List Time) (a:Time),z3g a→(∀x∈l,z3g x)→z3g (l.foldl lub2 a):=by
  intro l;induction l with
  |nil=>intro a ha _;exact ha
  |cons x l ih=>intro a ha hl;exact ih _ (zlb ha (hl x (zz5 ..))) fun y hy=>hl y (zz8 _ hy)
 exact key l _ zls hl
theorem zkp {x y:Time}(hx:z3g x):lubL [x,y]=lub2 x y:=by
 simp[lubL,zkb hx]
def leT (a b:Time):Bool:=decide (a.epoch≤b.epoch) && (decide (a.loop.1≤b.loop.1) && decide (a.loop.2≤b.loop.2))
theorem zge {a b:Time}(ha:z3g a)(hb:z3g b):z50 a b=some (leT a b):=by
 unfold z50 z6l;have hl: ∀x∈[a,b],z3g x:=fun x hx=>by
  rcases List.mem_cons.1 hx with rfl|hx
  ·exact ha
  ·rw[zzf.1 hx];exact hb
 rw[z9s hl,zkp ha];simp only[zz0,lub2,mx_eq,z6x,leT,Bool.and_true];congr 1;rw[Bool.eq_iff_iff];simp only[Bool.and_eq_true,decide_eq_true_eq];omega
def cmpT (a b:Time):Int:=
 if a.epoch<b.epoch then -1 else if b.epoch<a.epoch then 1 else if a.loop.1<b.loop.1 then -1 else if b.loop.1<a.loop.1 then 1 else if a.loop.2<b.loop.2 then -1 else if b.loop.2<a.loop.2 then 1 else 0
theorem zfg (x y:Int):z2r x y=some (if x<y then -1 else if y<x then 1 else 0):=by
 unfold z2r z4x;simp only[decide_true,Bool.not_true,zz0,z0s,z0m];split
 ·rfl
 ·split<;>rfl
theorem zl0 (x1 x2 y1 y2:Int):z1v [x1,x2] [y1,y2]=some (if x1<y1 then -1 else if y1<x1 then 1 else if x2<y2 then -1 else if y2<x2 then 1 else 0):=by
 unfold z1v;simp only[zzg,List.length_nil,zz6,Nat.reduceAdd,z0n,zfg,z0m,zbv,zz0];by_cases h3:x1<y1<;>by_cases h4:y1<x1<;>by_cases h5:x2<y2<;>by_cases h6:y2<x2<;>simp[outK,need,h3,h4,h5,h6]
theorem zm4 (u v:Int):z7k [u,v]=some (if u=0 then v else u):=by
 unfold z7k;simp only[zzg,List.length_nil,zz6,Nat.reduceAdd,z0n,z0m,zbv];by_cases h1:u=0<;>by_cases h2:v=0<;>simp[outK,h1,h2]
theorem zlv {p q:Bool}{A:Type}{x y:Option A}:bf (p && (q && true)) x y=bf p (bf q x y) y:=by cases p<;>cases q<;>rfl
theorem        z26 (a b : Time) :            z0z a b = some (cmpT a b) := by
  unfold            z0z cmpT
  simp only [      zfg,     zl0,    zm4,              zz0,    zlv,       z0m]
  by_cases h1 : a.epoch < b.epoch <;> by_cases h2 : b.epoch < a.epoch <;> by_cases h3 : a.loop.1 < b.loop.1 <;> by_cases h4 : b.loop.1 < a.loop.1 <;> by_cases h5 : a.loop.2 < b.loop.2 <;> by_cases h6 : b.loop.2 < a.loop.2 <;>
    by_cases h7 : a.loop.1 = b.loop.1 <;> by_cases h8 : a.loop.2 = b.loop.2 <;> simp [h1, h2, h3, h4, h5, h6, h7, h8] <;> omega
theorem zde (a:Time):leT a a=true:=by simp[leT]
theorem zfn {a b c:Time}(h:leT a b=true)(g:leT b c=true):leT a c=true:=by
 simp only[leT,Bool.and_eq_true,decide_eq_true_eq]at*;omega
theorem zkl {a b:Time}(h:leT a b=true)(g:leT b a=true):z6x a b=true:=by
 simp only[leT,z6x,Bool.and_eq_true,decide_eq_true_eq,Bool.and_true]at*;omega
theorem zez {a b:Time}:leT a b=true↔a.epoch≤b.epoch∧a.loop.1≤b.loop.1∧a.loop.2≤b.loop.2:=by simp[leT]
theorem zla {a b t:Time}:leT (lub2 a b) t=true↔leT a t=true∧leT b t=true:=by
 simp only[zez,lub2,mx_eq];omega
theorem zbi {t:Time}: ∀(l:List Time) (a:Time),leT (l.foldl lub2 a) t=true↔leT a t=true∧ ∀x∈l,leT x t=true
 |[],a=>by simp
 |x::l,a=>by
  simp only[List.foldl_cons,zbi l,zla,List.forall_mem_cons];constructor<;>intro h<;>simp_all
theorem zlc {l:List Time}{t:Time}(ht:z3g t):leT (lubL l) t=true↔ ∀x∈l,leT x t=true:=by
 unfold lubL;rw[zbi];have:leT zeroT t=true:=by rw[zez];exact ht
 simp[this]
end Go.Av
namespace Go.Av
open Go
def ltT (x y:Time):Bool:=decide (cmpT x y<0)
theorem zg3 {a fuel:Nat}{B:Int×List Time→Option (Ctl (Int×List Time) Empty)}{j:Nat}{d:Array Time}(hj:j<d.size)(hf:j<fuel)
 (hB: ∀(j:Nat) (d':Array Time),j<d'.size→d'.size=d.size→B ((j:Int),d'.toList)=if a<j∧ltT d'[j]! d'[j-1]! =true then some (.next (((j-1:Nat):Int),(Sort.swp d' j (j-1)).toList))else some (.brk ((j:Int),d'.toList))):
 ∃x:Int,loopN B fuel ((j:Int),d.toList)=some (.done (x,(Sort.insInner ltT a j d).toList)):=by
 induction j generalizing d fuel with
 |zero=>
  cases fuel with
  |zero=>omega
  |succ fuel=>
   refine⟨0,z1e (s':=(((0:Nat):Int),d.toList)) ?_⟩;rw[hB 0 d hj rfl,if_neg (by omega)]
 |succ j ih=>
  cases fuel with
  |zero=>omega
  |succ fuel=>
   have h:=hB (j+1) d hj rfl;rw[Nat.add_sub_cancel]at h;unfold Sort.insInner;by_cases hc:a<j+1∧ltT d[j+1]! d[j]! =true
   ·rw[if_pos hc]at h;rw[z20 h,if_pos (by simp[hc.1,hc.2])];exact ih (by rw[z19];omega) (by omega) (fun k d' h1 h2=>hB k d' h1 (by rw[h2,z19]))
   ·rw[if_neg hc]at h;rw[z1e h,if_neg (by simpa using hc)];exact⟨_,rfl⟩
theorem zg4 {a b fuel:Nat}{B:Int×List Time→Option (Ctl (Int×List Time) Empty)}{n i:Nat}{d:Array Time}(hn:b-i=n)(hb:b≤d.size)(hf:b-i<fuel)
 (hB: ∀(i:Nat) (d':Array Time),d'.size=d.size→B ((i:Int),d'.toList)=if i<b then some (.next (((i+1:Nat):Int),(Sort.insInner ltT a i d').toList))else some (.brk ((i:Int),d'.toList)))
 (hs: ∀(i:Nat) (d':Array Time),(Sort.insInner ltT a i d').size=d'.size):
 ∃x:Int,loopN B fuel ((i:Int),d.toList)=some (.done (x,(Sort.insOuter ltT a b i d).toList)):=by
 induction n generalizing i d fuel with
 |zero=>
  cases fuel with
  |zero=>omega
  |succ fuel=>
   have h:=hB i d rfl;rw[if_neg (by omega)]at h;rw[z1e h,Sort.insOuter,if_neg (by omega)];exact⟨_,rfl⟩
 |succ n ih=>
  cases fuel with
  |zero=>omega
  |succ fuel=>
   have h:=hB i d rfl;rw[if_pos (by omega)]at h;rw[z20 h,Sort.insOuter,if_pos (by omega)];exact ih (by omega) (by rw[hs];omega) (by omega) (fun k d' h1=>hB k d' (by rw[h1,hs]))
theorem za3 (a:Nat): ∀(j:Nat) (d:Array Time),(Sort.insInner ltT a j d).size=d.size
 |0,d=>rfl
 |j+1,d=>by
  unfold Sort.insInner;split
  ·rw[za3 a j,z19]
  ·rfl
theorem zgs {fuel a b:Nat}{d:Array Time}(hb:b≤d.size)(hd:d.size<4611686018427387904)(ha:a<4611686018427387903)(hf:d.size<fuel):
 z12 fuel (a:Int) (b:Int) d.toList=some (Sort.insertionSort ltT d a b).toList:=by
 unfold z12 Sort.insertionSort;rw[wadd1 (by omega)];refine z8y (zg4 (a:=a) (b:=b) (i:=a+1) (d:=d) rfl hb (by omega) ?_ (za3 a)) (fun x=>rfl);intro i d' hd';simp only[z0m,intlt];by_cases hi:i<b
 ·rw[if_pos hi,if_pos hi];refine z8y (zg3 (a:=a) (j:=i) (d:=d') (by omega) (by omega) ?_) (fun x=>?_)
  ·intro j e hj he;simp only[jn_eq,z0m,intlt];by_cases h1:a<j
   ·simp(disch:=omega) only[h1,if_true,wsub1,z07,zz7,zz6,zz2,zza,z26,zz0,z1w,z31,true_and];unfold ltT;by_cases h2:cmpT e[j]! e[j-1]! <0
    ·simp[h2]
    ·simp[h2]
   ·rw[if_neg h1,if_neg (fun h=>h1 h.1)];rfl
  ·rw[wadd1 (by omega)]
 ·rw[if_neg hi,if_neg hi]
end Go.Av
namespace Go.Av
open Go
theorem zi2 (hi first:Nat): ∀(n root:Nat) (d:Array Time),hi-root≤n→(Sort.siftDown ltT hi first root d).size=d.size:=by
 intro n;induction n with
 |zero=>
  intro root d hn;rw[Sort.siftDown,dif_pos (by omega)]
 |succ n ih=>
  intro root d hn;rw[Sort.siftDown];split
  ·rfl
  ·split
   ·split
    ·rfl
    ·split
     ·rw[ih _ _ (by omega),z19]
     ·rfl
   ·split
    ·rfl
    ·rw[ih _ _ (by omega),z19]
def z5q (hi first root:Nat)(d:Array Time):Option Nat:=
 if 2*root+1≥hi then none else
  let c:=if 2*root+1+1<hi∧ltT d[first+(2*root+1)]! d[first+(2*root+1)+1]! =true then 2*root+2 else 2*root+1
  if ltT d[first+root]! d[first+c]! =true then some c else none
theorem zbm (hi first root:Nat)(d:Array Time):Sort.siftDown ltT hi first root d=match z5q hi first root d with
 |some c=>Sort.siftDown ltT hi first c (Sort.swp d (first+root) (first+c))
 |none=>d:=by
 rw[Sort.siftDown];unfold z5q;by_cases h1:2*root+1≥hi
 ·rw[dif_pos h1,if_pos h1]
 ·rw[dif_neg h1,if_neg h1];by_cases h2:2*root+1+1<hi∧ltT d[first+(2*root+1)]! d[first+(2*root+1)+1]! =true
  ·rw[if_pos (by simpa using h2)];simp only[if_pos h2];by_cases h3:ltT d[first+root]! d[first+(2*root+2)]! =true
   ·rw[if_neg (by simp[h3]),dif_pos (by omega)];simp only[h3,if_true]
   ·rw[if_pos (by simpa using h3)];simp only[if_neg h3]
  ·rw[if_neg (by simpa using h2)];simp only[if_neg h2];by_cases h3:ltT d[first+root]! d[first+(2*root+1)]! =true
   ·rw[if_neg (by simp[h3])];simp only[h3,if_true]
   ·rw[if_pos (by simpa using h3)];simp only[if_neg h3]
theorem zi3 {hi first root c:Nat}{d:Array Time}(h:z5q hi first root d=some c):root<c∧c<hi:=by
 unfold z5q at h;split at h
 ·cases h
 ·dsimp only at h;generalize hc:(if 2*root+1+1<hi∧ltT d[first+(2*root+1)]! d[first+(2*root+1)+1]! =true then 2*root+2 else 2*root+1)=k at h;have hk:root<k∧k<hi:=by
   split at hc<;>omega
  split at h
  ·cases h;exact hk
  ·cases h
theorem zk0 {hi first fuel:Nat}{B:Int×List Time→Option (Ctl (Int×List Time) (List Time))}{Q:Type}{kn:Int×List Time→Option Q}{kr:List Time→Option Q}{q:Option Q}{n root:Nat}{d:Array Time}
 (hn:hi-root≤n) (hf:n<fuel) (hsz:first+hi≤d.size)
 (hB: ∀(root:Nat) (d':Array Time),d'.size=d.size→root≤1152921504606846976→B ((root:Int),d'.toList)=if 2*root+1≥hi then some (.brk ((root:Int),d'.toList))else match z5q hi first root d' with
  |some c=>some (.next ((c:Int),(Sort.swp d' (first+root) (first+c)).toList))
  |none=>some (.ret d'.toList))
 (hr:root≤1152921504606846976) (hd:d.size≤1152921504606846976) (hkn: ∀x,kn (x,(Sort.siftDown ltT hi first root d).toList)=q) (hkr:kr (Sort.siftDown ltT hi first root d).toList=q):
 outK (loopN B fuel ((root:Int),d.toList)) kn kr=q:=by
 induction n generalizing root d fuel with
 |zero=>
  cases fuel with
  |zero=>omega
  |succ fuel=>
   have h:=hB root d rfl hr;have hs:=zbm hi first root d
   have e:z5q hi first root d=none:=by unfold z5q;rw[if_pos (by omega)]
   rw[e]at hs;simp only at hs;rw[hs]at hkn hkr;rw[if_pos (by omega)]at h;rw[z1e h];exact hkn _
 |succ n ih=>
  cases fuel with
  |zero=>omega
  |succ fuel=>
   have h:=hB root d rfl hr;have hs:=zbm hi first root d
   cases e:z5q hi first root d with
   |none=>
    rw[e]at h hs;simp only at h hs;rw[hs]at hkn hkr;split at h
    ·rw[z1e h];exact hkn _
    ·rw[z7a h];exact hkr
   |some c=>
    have hc:=zi3 e;have hlt: ¬2*root+1≥hi:=fun hh=>by unfold z5q at e;rw[if_pos hh]at e;cases e
    rw[e]at h hs;rw[if_neg hlt]at h;simp only at h hs;rw[hs]at hkn hkr;rw[z20 h];exact ih (by omega) (by omega) (by rw[z19];omega) (fun r d' h1 h2=>hB r d' (by rw[h1,z19]) h2) (by omega) (by rw[z19];omega) hkn hkr
theorem zd3 {fuel lo hi first:Nat}{d:Array Time}(hsz:first+hi≤d.size)(hd:d.size<1152921504606846976)(hlo:lo<1152921504606846976)(hf:d.size<fuel):
 z1g fuel (lo:Int) (hi:Int) (first:Int) d.toList=some (Sort.siftDown ltT hi first lo d).toList:=by
 unfold z1g;refine zk0 (hi:=hi) (first:=first) (n:=hi) (by omega) (by omega) hsz ?_ (by omega) (by omega) (fun x=>rfl) rfl;intro root e he hroot;have hw1:zzi.wrap (zzi.wrap ((2:Int)*(root:Int))+1)=((2*root+1:Nat):Int):=by rw[wtwo (by omega),wadd1 (by omega)]
 simp only[hw1,z0m,jn_eq];by_cases h1:2*root+1≥hi
 ·rw[if_pos h1,if_pos (by omega)]
 ·rw[if_neg h1,if_neg (by omega)];unfold z5q;rw[if_neg h1];have hw2:zzi.wrap (((2*root+1:Nat):Int)+1)=((2*root+1+1:Nat):Int):=wadd1 (by omega)
  have hw3:zzi.wrap ((first:Int)+((2*root+1:Nat):Int))=((first+(2*root+1):Nat):Int):=wadd (by omega);have hw4:zzi.wrap (((first+(2*root+1):Nat):Int)+1)=((first+(2*root+1)+1:Nat):Int):=wadd1 (by omega)
  have hw5:zzi.wrap ((first:Int)+(root:Int))=((first+root:Nat):Int):=wadd (by omega);have hw6:zzi.wrap ((first:Int)+((2*root+1+1:Nat):Int))=((first+(2*root+2):Nat):Int):=by rw[wadd (by omega)]
  simp only[hw2,hw3,hw4,hw5,hw6,intlt,zz7,zz6];by_cases h2:2*root+1+1<hi
  ·rw[if_pos h2];simp(disch:=omega) only[z07,zz2,z26,zz0,z1w];by_cases h3:cmpT e[first+(2*root+1)]! e[first+(2*root+1)+1]! <0
   ·have h4:2*root+1+1<hi∧ltT e[first+(2*root+1)]! e[first+(2*root+1)+1]! =true:=⟨h2,by unfold ltT;simp[h3]⟩;simp(disch:=omega) only[h3,if_true,if_pos h4,hw6,zz7,zz6,z07,zz2,zza,z26,zz0,z1w,z31];unfold ltT;by_cases h:cmpT e[first+root]! e[first+(2*root+2)]! <0
    ·simp[h];omega
    ·simp[h]
   ·have h4: ¬(2*root+1+1<hi∧ltT e[first+(2*root+1)]! e[first+(2*root+1)+1]! =true):=fun h=>h3 (by have:=h.2;unfold ltT at this;simpa using this);simp(disch:=omega) only[h3,if_false,if_neg h4,hw3,zz7,zz6,z07,zz2,zza,z26,zz0,z1w,z31];unfold ltT;by_cases h:cmpT e[first+root]! e[first+(2*root+1)]! <0
    ·simp[h]
    ·simp[h]
  ·rw[if_neg h2];have h4: ¬(2*root+1+1<hi∧ltT e[first+(2*root+1)]! e[first+(2*root+1)+1]! =true):=fun h=>h2 h.1;simp(disch:=omega) only[z0s,if_neg h4,hw3,zz7,zz6,z07,zz2,zza,z26,zz0,z1w,z31];unfold ltT;by_cases h:cmpT e[first+root]! e[first+(2*root+1)]! <0
   ·simp[h]
   ·simp[h]
end Go.Av
namespace Go.Av
open Go
theorem z91 (hi first root:Nat)(d:Array Time):(Sort.siftDown ltT hi first root d).size=d.size:=zi2 hi first hi root d (by omega)
theorem zfi {B:Int×List Time→Option (Ctl (Int×List Time) Empty)}(g h:Nat→Array Time→Array Time){k k0 fuel:Nat}{d:Array Time}(hk:k≤k0)(hg: ∀k d,(g k d).size=d.size)(hf:k<fuel)
 (hB: ∀(k:Nat) (d':Array Time),k≤k0→d'.size=d.size→B ((k:Int)-1,d'.toList)=match k with|0=>some (.brk (-1,d'.toList))|k+1=>some (.next ((k:Int)-1,(g k d').toList)))
 (h0: ∀d,h 0 d=d) (h1: ∀k d,h (k+1) d=h k (g k d)):
 ∃x:Int,loopN B fuel ((k:Int)-1,d.toList)=some (.done (x,(h k d).toList)):=by
 induction k generalizing d fuel with
 |zero=>
  cases fuel with
  |zero=>omega
  |succ fuel=>exact⟨-1,by rw[z1e (hB 0 d hk rfl),h0]⟩
 |succ k ih=>
  cases fuel with
  |zero=>omega
  |succ fuel=>
   rw[z20 (hB (k+1) d hk rfl),h1];exact ih (by omega) (by omega) (fun k' d' h2 h=>hB k' d' h2 (by rw[h,hg]))
theorem z9c (hi first:Nat): ∀(k:Nat) (d:Array Time),(Sort.heapBuild ltT hi first k d).size=d.size
 |0,d=>rfl
 |k+1,d=>by unfold Sort.heapBuild;rw[z9c hi first k,z91]
theorem zhu {fuel a b:Nat}{d:Array Time}(hab:a<b)(hb:b≤d.size)(hd:d.size<1152921504606846976)(hf:d.size+2<fuel):
 z1f fuel (a:Int) (b:Int) d.toList=some (Sort.heapSort ltT d a b).toList:=by
 unfold z1f Sort.heapSort;have e0:zzi.wrap ((b:Int)-(a:Int))=((b-a:Nat):Int):=wsub (by omega) (by omega)
 have e1:zzi.wrap (((b-a:Nat):Int)-1)=(((b-a:Nat):Int)-1):=z1n (by omega) (by omega);have e2:zzi.wrap ((((b-a:Nat):Int)-1).tdiv 2)=(((b-a-1) / 2+1:Nat):Int)-1:=by
  rw[Int.tdiv_eq_ediv_of_nonneg (by omega),z1n (by omega) (by omega)];omega
 rw[e0,e1,e2];refine z8y (zfi (k0:=(b-a-1) / 2+1) (fun k d=>Sort.siftDown ltT (b-a) a k d) (fun k d=>Sort.heapBuild ltT (b-a) a k d) (zz9 _) (fun k d=>z91 _ _ _ _) (by omega) ?_ (fun d=>rfl) (fun k d=>rfl)) (fun x=>?_)
 ·intro k e hk he;simp only[z0m];cases k with
  |zero=>rw[if_neg (by omega)];rfl
  |succ k=>
   rw[if_pos (by omega),show((k+1:Nat):Int)-1=(k:Int)by omega,zd3 (by omega) (by omega) (by omega) (by omega),zz0];rw[z07 (by rw[zz2,zz2,z91]),z4c (by unfold in64;omega)]
 ·have hsz:=z9c (b-a) a ((b-a-1) / 2+1) d;simp only;generalize Sort.heapBuild ltT (b-a) a ((b-a-1) / 2+1) d=d1 at*;refine z8y (zfi (k0:=b-a) (fun k d=>Sort.siftDown ltT k a 0 (Sort.swp d a (a+k))) (fun k d=>Sort.heapPop ltT a k d) (zz9 _) (fun k d=>by rw[z91,z19]) (by omega) ?_ (fun d=>rfl) (fun k d=>rfl)) (fun x=>rfl);intro k e hk he;simp only[z0m];cases k with
  |zero=>rw[if_neg (by omega)];rfl
  |succ k=>
   rw[if_pos (by omega),show((k+1:Nat):Int)-1=(k:Int)by omega];have w1:zzi.wrap ((a:Int)+(k:Int))=((a+k:Nat):Int):=wadd (by omega);have w2:zzi.wrap ((k:Int)-1)=(k:Int)-1:=z4c (by unfold in64;omega)
   have hs:=zd3 (fuel:=fuel) (lo:=0) (hi:=k) (first:=a) (d:=Sort.swp e a (a+k)) (by rw[z19];omega) (by rw[z19];omega) (by omega) (by rw[z19];omega);rw[show((0:Nat):Int)=0 from rfl]at hs;simp(disch:=omega) only[w1,w2,zz7,zz6,z07,zz2,zza,z1w,z31,hs,zz0,z91,z19];rw[z07 trivial]
theorem zcd {a b s:Nat}{d:Array Time}(ha:a<d.size)(hb:b<d.size)(hs:s<1000):z18 d.toList (a:Int) (b:Int) (s:Int)=some (((Sort.order2 ltT d a b s).1:Int),((Sort.order2 ltT d a b s).2.1:Int),((Sort.order2 ltT d a b s).2.2:Int)):=by
 unfold z18 Sort.order2;simp(disch:=omega) only[zz7,z07,zz2,z26,zz0,z1w,wadd1,z0m];unfold ltT;by_cases h:cmpT d[b]! d[a]! <0
 ·simp[h]
 ·simp[h]
theorem z71 {a b s:Nat}{d:Array Time}:((Sort.order2 ltT d a b s).1=a∧(Sort.order2 ltT d a b s).2.1=b∨(Sort.order2 ltT d a b s).1=b∧(Sort.order2 ltT d a b s).2.1=a)∧(Sort.order2 ltT d a b s).2.2≤s+1:=by
 unfold Sort.order2;split
 ·exact⟨.inr ⟨rfl,rfl⟩,zz9 _⟩
 ·exact⟨.inl ⟨rfl,rfl⟩,Nat.le_succ _⟩
theorem zca {a b c s:Nat}{d:Array Time}(ha:a<d.size)(hb:b<d.size)(hc:c<d.size)(hs:s<900):z17 d.toList (a:Int) (b:Int) (c:Int) (s:Int)=some (((Sort.median ltT d a b c s).1:Int),((Sort.median ltT d a b c s).2:Int)):=by
 unfold z17;have m1:=z71 (a:=a) (b:=b) (s:=s) (d:=d)
 rw[zcd ha hb (by omega),zz0];have e:Sort.median ltT d a b c s=(let r2:=Sort.order2 ltT d (Sort.order2 ltT d a b s).2.1 c (Sort.order2 ltT d a b s).2.2;let r3:=Sort.order2 ltT d (Sort.order2 ltT d a b s).1 r2.1 r2.2.2;(r3.2.1,r3.2.2)):=rfl;rw[e];generalize Sort.order2 ltT d a b s=r1 at*;have m2:=z71 (a:=r1.2.1) (b:=c) (s:=r1.2.2) (d:=d)
 simp only;rw[zcd (by omega) hc (by omega),zz0];generalize Sort.order2 ltT d r1.2.1 c r1.2.2=r2 at*;simp only;rw[zcd (by omega) (by omega) (by omega),zz0]
theorem ze9 {a b c s:Nat}{d:Array Time}:(Sort.median ltT d a b c s).2≤s+3:=by
 have e:Sort.median ltT d a b c s=(let r2:=Sort.order2 ltT d (Sort.order2 ltT d a b s).2.1 c (Sort.order2 ltT d a b s).2.2;let r3:=Sort.order2 ltT d (Sort.order2 ltT d a b s).1 r2.1 r2.2.2;(r3.2.1,r3.2.2)):=rfl;rw[e];have m1:=z71 (a:=a) (b:=b) (s:=s) (d:=d)
 generalize Sort.order2 ltT d a b s=r1 at*;have m2:=z71 (a:=r1.2.1) (b:=c) (s:=r1.2.2) (d:=d)
 simp only;generalize Sort.order2 ltT d r1.2.1 c r1.2.2=r2 at*;have m3:=z71 (a:=r1.1) (b:=r2.1) (s:=r2.2.2) (d:=d)
 omega
theorem z6r {a s:Nat}{d:Array Time}(h1:1≤a)(ha:a+1<d.size)(hd:d.size<1152921504606846976)(hs:s<900):z0c d.toList (a:Int) (s:Int)=some (((Sort.medianAdjacent ltT d a s).1:Int),((Sort.medianAdjacent ltT d a s).2:Int)):=by
 unfold z0c Sort.medianAdjacent;rw[wsub1 h1 (by omega),wadd1 (by omega),zca (by omega) (by omega) ha hs,zz0]
def hintN:Sort.Hint→Int
 | .unknown=>0
 | .increasing=>1
 | .decreasing=>2
theorem z6e {a s:Nat}{d:Array Time}:(Sort.medianAdjacent ltT d a s).2≤s+3:=ze9
theorem     zlh {Q : Type} {i j k : Nat} {d : Array Time} (hd : d.size < 1152921504606846976) (hi : 1 ≤ i ∧ i + 1 < d.size) (hj : 1 ≤ j ∧ j + 1 < d.size) (hk : 1 ≤ k ∧ k + 1 < d.size) {K : Int × Int → Option Q} {r1 r2 r3 : Nat × Nat}
    (h1 : Sort.medianAdjacent ltT d i 0 = r1) (h2 : Sort.medianAdjacent ltT d j r1.2 = r2) (h3 : Sort.medianAdjacent ltT d k r2.2 = r3) :
    ((                                         z0c d.toList (i : Int) 0).bind fun r6 => (                                         z0c d.toList (j : Int) r6.2).bind fun r7 => (                                         z0c d.toList (k : Int) r7.2).bind fun r8 => (                                 z17 d.toList r6.1 r7.1 r8.1 r8.2).bind K)
      = K (((Sort.median ltT d r1.1 r2.1 r3.1 r3.2).1 : Int), ((Sort.median ltT d r1.1 r2.1 r3.1 r3.2).2 : Int)) ∧ (Sort.median ltT d r1.1 r2.1 r3.1 r3.2).2 < 1000 := by
  have z : ((0 : Nat) : Int) = 0 := rfl
  have q1 :=               z6r (a := i) (s := 0) (d := d) hi.1 hi.2 hd (by omega)
  have c1 :=                z6e (a := i) (s := 0) (d := d)
  have p1 := Sort.medianAdjacent_mem ltT d i 0
  rw [z, h1] at q1
  rw [h1] at c1 p1
  have q2 :=               z6r (a := j) (s := r1.2) (d := d) hj.1 hj.2 hd (by omega)
  have c2 :=                z6e (a := j) (s := r1.2) (d := d)
  have p2 := Sort.medianAdjacent_mem ltT d j r1.2
  rw [h2] at q2 c2 p2
  have q3 :=               z6r (a := k) (s := r2.2) (d := d) hk.1 hk.2 hd (by omega)
  have c3 :=                z6e (a := k) (s := r2.2) (d := d)
  have p3 := Sort.medianAdjacent_mem ltT d k r2.2
  rw [h3] at q3 c3 p3
  have q4 :=       zca (a := r1.1) (b := r2.1) (c := r3.1) (s := r3.2) (d := d) (by omega) (by omega) (by omega) (by omega)
  have c4 :=        ze9 (a := r1.1) (b := r2.1) (c := r3.1) (s := r3.2) (d := d)
  rw [q1,              zz0]
  simp only
  rw [q2,              zz0]
  simp only
  rw [q3,              zz0]
  simp only
  rw [q4,              zz0]
  exact ⟨rfl, by omega⟩
theorem zdj {r:Nat×Nat}:(if((r.2:Nat):Int)=0 then some (((r.1:Nat):Int),(1:Int))else if((r.2:Nat):Int)=12 then some (((r.1:Nat):Int),2)else some (((r.1:Nat):Int),0))=some (((r.1:Nat):Int),hintN (Sort.hintOf r.2)):=by
 unfold Sort.hintOf;by_cases h1:r.2=0
 ·rw[if_pos (by omega),if_pos h1];rfl
 ·rw[if_neg (by omega),if_neg h1];by_cases h2:r.2=12
  ·rw[if_pos (by omega),if_pos h2];rfl
  ·rw[if_neg (by omega),if_neg h2];rfl
theorem choosePivot_eq {a b:Nat}{d:Array Time}(hab:a<b)(hb:b≤d.size)(hd:d.size<1152921504606846976):
 z1c d.toList (a:Int) (b:Int)=some (((Sort.choosePivot ltT d a b).1:Int),hintN (Sort.choosePivot ltT d a b).2):=by
 unfold z1c;have e0:zzi.wrap ((b:Int)-(a:Int))=((b-a:Nat):Int):=wsub (by omega) (by omega)
 have e1:zzi.wrap (((b-a:Nat):Int).tdiv 4)=(((b-a) / 4:Nat):Int):=by rw[Int.tdiv_eq_ediv_of_nonneg (by omega),z1n (by omega) (by omega)];omega
 have m: ∀k:Nat,k≤3→zzi.wrap ((a:Int)+zzi.wrap ((((b-a) / 4:Nat):Int)*(k:Int)))=((a+(b-a) / 4*k:Nat):Int):=fun k hk=>by
  have h1:(b-a) / 4*k≤b-a:=Nat.le_trans (Nat.mul_le_mul_left _ hk) (by omega);have h2:(((b-a) / 4:Nat):Int)*(k:Int)=(((b-a) / 4*k:Nat):Int):=by rw[Int.natCast_mul]
  have h3:zzi.wrap (((b-a) / 4*k:Nat):Int)=(((b-a) / 4*k:Nat):Int):=z4c (by unfold in64;omega);rw[h2,h3,wadd (by omega)]
 have m1:=m 1 (by omega);have m2:=m 2 (by omega)
 have m3:=m 3 (by omega);rw[show((1:Nat):Int)=1 from rfl]at m1;rw[show((2:Nat):Int)=2 from rfl]at m2;rw[show((3:Nat):Int)=3 from rfl]at m3;simp only[e0,e1,m1,m2,m3,jn_eq,z0m];rw[Sort.choosePivot_eq];clear e0 e1 m m1 m2 m3;have hraw:Sort.rawPivot ltT d a b=if b-a≥8 then(if b-a≥50 then(Sort.median ltT d (Sort.medianAdjacent ltT d (a+(b-a) / 4*1) 0).1 (Sort.medianAdjacent ltT d (a+(b-a) / 4*2) (Sort.medianAdjacent ltT d (a+(b-a) / 4*1) 0).2).1 (Sort.medianAdjacent ltT d (a+(b-a) / 4*3) (Sort.medianAdjacent ltT d (a+(b-a) / 4*2) (Sort.medianAdjacent ltT d (a+(b-a) / 4*1) 0).2).2).1 (Sort.medianAdjacent ltT d (a+(b-a) / 4*3) (Sort.medianAdjacent ltT d (a+(b-a) / 4*2) (Sort.medianAdjacent ltT d (a+(b-a) / 4*1) 0).2).2).2)
  else(Sort.median ltT d (a+(b-a) / 4*1) (a+(b-a) / 4*2) (a+(b-a) / 4*3) 0))else(a+(b-a) / 4*2,0):=rfl
 rw[hraw];by_cases h8:b-a≥8
 ·rw[if_pos (by omega),if_pos h8];by_cases h50:b-a≥50
  ·rw[if_pos (by omega),if_pos h50];obtain⟨q,_⟩:=zlh (d:=d) (i:=a+(b-a) / 4*1) (j:=a+(b-a) / 4*2) (k:=a+(b-a) / 4*3) (K:=fun(a1:Int×Int)=>if a1.2=0 then some (a1.1,(1:Int))else if a1.2=12 then some (a1.1,2)else some (a1.1,0)) hd (by omega) (by omega) (by omega) rfl rfl rfl;exact q.trans zdj
  ·rw[if_neg (by omega),if_neg h50];have z:((0:Nat):Int)=0:=rfl;have q1:=zca (a:=a+(b-a) / 4*1) (b:=a+(b-a) / 4*2) (c:=a+(b-a) / 4*3) (s:=0) (d:=d) (by omega) (by omega) (by omega) (by omega)
   rw[z]at q1;simp only;rw[q1,zz0];exact zdj
 ·rw[if_neg (by omega),if_neg h8];exact zdj (r:=(a+(b-a) / 4*2,0))
theorem zha {B:Int×Int×List Time→Option (Ctl (Int×Int×List Time) Empty)}{n i j fuel:Nat}{d:Array Time}(hn:j-i≤n)(hf:n<fuel)(hj:j<d.size)
 (hB: ∀(i j:Nat) (d':Array Time),d'.size=d.size→j<d.size→B ((i:Int),(j:Int),d'.toList)=if i<j then some (.next (((i+1:Nat):Int),((j-1:Nat):Int),(Sort.swp d' i j).toList))else some (.brk ((i:Int),(j:Int),d'.toList))):
 ∃x y:Int,loopN B fuel ((i:Int),(j:Int),d.toList)=some (.done (x,y,(Sort.reverseLoop i j d).toList)):=by
 induction n generalizing i j d fuel with
 |zero=>
  cases fuel with
  |zero=>omega
  |succ fuel=>
   have h:=hB i j d rfl hj;rw[if_neg (by omega)]at h;rw[z1e h,Sort.reverseLoop,if_neg (by omega)];exact⟨_,_,rfl⟩
 |succ n ih=>
  cases fuel with
  |zero=>omega
  |succ fuel=>
   have h:=hB i j d rfl hj;by_cases hij:i<j
   ·rw[if_pos hij]at h;rw[z20 h,Sort.reverseLoop,if_pos hij];exact ih (by omega) (by omega) (by rw[z19];omega) (fun i' j' d' h1 h2=>hB i' j' d' (by rw[h1,z19]) (by rw[z19]at h2;exact h2))
   ·rw[if_neg hij]at h;rw[z1e h,Sort.reverseLoop,if_neg hij];exact⟨_,_,rfl⟩
theorem zks {X Y Z R Q:Type}{o:Option (Out (X×Y×Z) R)}{kn:X×Y×Z→Option Q}{kr:R→Option Q}{r:Z}{q:Option Q}(h: ∃(x:X) (y:Y),o=some (.done (x,y,r)))(hk: ∀x y,kn (x,y,r)=q):outK o kn kr=q:=by
 obtain⟨x,y,h⟩:=h;rw[h];exact hk x y
theorem zed {fuel a b:Nat}{d:Array Time}(hab:a<b)(hb:b≤d.size)(hd:d.size<1152921504606846976)(hf:d.size+2<fuel):
 z16 fuel (a:Int) (b:Int) d.toList=some (Sort.reverseRange d a b).toList:=by
 unfold z16 Sort.reverseRange;rw[wsub1 (by omega) (by omega)];refine zks (zha (n:=d.size) (by omega) (by omega) (by omega) ?_) (fun x y=>rfl);intro i j e he hj;simp only[z0m,intlt];by_cases hij:i<j
 ·rw[if_pos hij,if_pos hij];simp(disch:=omega) only[wsub1,wadd1,zz7,zz6,z07,zz2,zza,z1w,z31]
 ·rw[if_neg hij,if_neg hij]
end Go.Av
namespace Go.Av
open Go
section
variable {α:Type} [Inhabited α]
theorem z3y (p:α→Bool)(d:Array α)(j:Nat): ∀(n i:Nat),j+1-i≤n→Sort.scanUp p d j i≤max i (j+1)∧i≤Sort.scanUp p d j i:=by
 intro n;induction n with
 |zero=>
  intro i hn;rw[Sort.scanUp,if_neg (by simp;omega)];omega
 |succ n ih=>
  intro i hn;rw[Sort.scanUp];split
  ·rename_i h
   have:i≤j:=by simp at h;exact h.1
   have:=ih (i+1) (by omega);omega
  ·omega
theorem z2a (p:α→Bool)(d:Array α)(i:Nat): ∀(j:Nat),Sort.scanDown p d i j≤j
 |0=>zz9 _
 |j+1=>by
  unfold Sort.scanDown;split
  ·have:=z2a p d i j;omega
  ·omega
theorem za7 {S R:Type}{B:S→Option (Ctl S R)}(e:Nat→S)(p:α→Bool)(d:Array α){j:Nat}: ∀(n i fuel:Nat),j+1-i≤n→n<fuel→(∀i',i≤i'→i'≤max i (j+1)→B (e i')=if i'≤j∧p d[i']! =true then some (.next (e (i'+1)))else some (.brk (e i')))→
 loopN B fuel (e i)=some (.done (e (Sort.scanUp p d j i))):=by
 intro n;induction n with
 |zero=>
  intro i fuel hn hf hB;cases fuel with
  |zero=>omega
  |succ fuel=>
   have h:=hB i (zz9 _) (by omega);rw[if_neg (by omega)]at h;rw[z1e h,Sort.scanUp,if_neg (by simp;omega)]
 |succ n ih=>
  intro i fuel hn hf hB;cases fuel with
  |zero=>omega
  |succ fuel=>
   have h:=hB i (zz9 _) (by omega);by_cases hc:i≤j∧p d[i]! =true
   ·rw[if_pos hc]at h;rw[z20 h,Sort.scanUp,if_pos (by simpa using hc)];exact ih (i+1) fuel (by omega) (by omega) (fun i' h1 h2=>hB i' (by omega) (by omega))
   ·rw[if_neg hc]at h;rw[z1e h,Sort.scanUp,if_neg (by simpa using hc)]
theorem z8l {S R:Type}{B:S→Option (Ctl S R)}(e:Nat→S)(p:α→Bool)(d:Array α){i:Nat}(hi:1≤i): ∀(j fuel:Nat),j<fuel→(∀j',j'≤j→B (e j')=if i≤j'∧p d[j']! =true then some (.next (e (j'-1)))else some (.brk (e j')))→
 loopN B fuel (e j)=some (.done (e (Sort.scanDown p d i j))):=by
 intro j;induction j with
 |zero=>
  intro fuel hf hB;cases fuel with
  |zero=>omega
  |succ fuel=>
   have h:=hB 0 (zz9 _);rw[if_neg (by omega)]at h;rw[z1e h];rfl
 |succ j ih=>
  intro fuel hf hB;cases fuel with
  |zero=>omega
  |succ fuel=>
   have h:=hB (j+1) (zz9 _);unfold Sort.scanDown;by_cases hc:i≤j+1∧p d[j+1]! =true
   ·rw[if_pos hc]at h;rw[z20 h,if_pos (by simpa using hc)];exact ih fuel (by omega) (fun j' h1=>hB j' (by omega))
   ·rw[if_neg hc]at h;rw[z1e h,if_neg (by simpa using hc)]
end
theorem z7r (a i j:Nat)(d:Array Time):Sort.partLoop ltT a i j d=
 if Sort.scanUp (fun x=>ltT x d[a]!) d j i>Sort.scanDown (fun x=> !ltT x d[a]!) d (Sort.scanUp (fun x=>ltT x d[a]!) d j i) j then(Sort.scanDown (fun x=> !ltT x d[a]!) d (Sort.scanUp (fun x=>ltT x d[a]!) d j i) j,d)
 else Sort.partLoop ltT a (Sort.scanUp (fun x=>ltT x d[a]!) d j i+1) (Sort.scanDown (fun x=> !ltT x d[a]!) d (Sort.scanUp (fun x=>ltT x d[a]!) d j i) j-1) (Sort.swp d (Sort.scanUp (fun x=>ltT x d[a]!) d j i) (Sort.scanDown (fun x=> !ltT x d[a]!) d (Sort.scanUp (fun x=>ltT x d[a]!) d j i) j)):=Sort.partLoop_eq ltT a i j d
theorem z6o (a i j:Nat)(d:Array Time):Sort.partEqLoop ltT a i j d=
 if Sort.scanUp (fun x=> !ltT d[a]! x) d j i>Sort.scanDown (fun x=>ltT d[a]! x) d (Sort.scanUp (fun x=> !ltT d[a]! x) d j i) j then(Sort.scanUp (fun x=> !ltT d[a]! x) d j i,d)
 else Sort.partEqLoop ltT a (Sort.scanUp (fun x=> !ltT d[a]! x) d j i+1) (Sort.scanDown (fun x=>ltT d[a]! x) d (Sort.scanUp (fun x=> !ltT d[a]! x) d j i) j-1) (Sort.swp d (Sort.scanUp (fun x=> !ltT d[a]! x) d j i) (Sort.scanDown (fun x=>ltT d[a]! x) d (Sort.scanUp (fun x=> !ltT d[a]! x) d j i) j)):=Sort.partEqLoop_eq ltT a i j d
theorem zju {B:Int×Int×List Time→Option (Ctl (Int×Int×List Time) Empty)}{a:Nat}: ∀(n i j fuel:Nat) (d:Array Time),j+1-i≤n→n<fuel→1≤i→i≤d.size→j<d.size→
 (∀(i j:Nat) (d':Array Time),d'.size=d.size→1≤i→i≤d.size→j<d.size→B ((i:Int),(j:Int),d'.toList)=
  if Sort.scanUp (fun x=>ltT x d'[a]!) d' j i>Sort.scanDown (fun x=> !ltT x d'[a]!) d' (Sort.scanUp (fun x=>ltT x d'[a]!) d' j i) j
  then some (.brk (((Sort.scanUp (fun x=>ltT x d'[a]!) d' j i:Nat):Int),((Sort.scanDown (fun x=> !ltT x d'[a]!) d' (Sort.scanUp (fun x=>ltT x d'[a]!) d' j i) j:Nat):Int),d'.toList))
  else some (.next (((Sort.scanUp (fun x=>ltT x d'[a]!) d' j i+1:Nat):Int),((Sort.scanDown (fun x=> !ltT x d'[a]!) d' (Sort.scanUp (fun x=>ltT x d'[a]!) d' j i) j-1:Nat):Int),(Sort.swp d' (Sort.scanUp (fun x=>ltT x d'[a]!) d' j i) (Sort.scanDown (fun x=> !ltT x d'[a]!) d' (Sort.scanUp (fun x=>ltT x d'[a]!) d' j i) j)).toList)))→
 ∃x:Int,loopN B fuel ((i:Int),(j:Int),d.toList)=some (.done (x,((Sort.partLoop ltT a i j d).1:Int),(Sort.partLoop ltT a i j d).2.toList)):=by
 intro n;induction n with
 |zero=>
  intro i j fuel d hn hf hi hi2 hj hB;cases fuel with
  |zero=>omega
  |succ fuel=>
   have h:=hB i j d rfl hi hi2 hj;have u:=(z3y (fun x=>ltT x d[a]!) d j _ i (zz9 _))
   have v:=z2a (fun x=> !ltT x d[a]!) d (Sort.scanUp (fun x=>ltT x d[a]!) d j i) j;rw[if_pos (by omega)]at h;rw[z1e h,z7r,if_pos (by omega)];exact⟨_,rfl⟩
 |succ n ih=>
  intro i j fuel d hn hf hi hi2 hj hB;cases fuel with
  |zero=>omega
  |succ fuel=>
   have h:=hB i j d rfl hi hi2 hj;have u:=(z3y (fun x=>ltT x d[a]!) d j _ i (zz9 _))
   have v:=z2a (fun x=> !ltT x d[a]!) d (Sort.scanUp (fun x=>ltT x d[a]!) d j i) j;rw[z7r];generalize Sort.scanUp (fun x=>ltT x d[a]!) d j i=i2 at*;generalize Sort.scanDown (fun x=> !ltT x d[a]!) d i2 j=j2 at*;by_cases hc:i2>j2
   ·rw[if_pos hc]at h;rw[z1e h,if_pos hc];exact⟨_,rfl⟩
   ·rw[if_neg hc]at h;rw[z20 h,if_neg hc];exact ih _ _ _ _ (by omega) (by omega) (by omega) (by rw[z19];omega) (by rw[z19];omega) (fun i' j' d' h1 h2 h3 h4=>hB i' j' d' (by rw[h1,z19]) h2 (by rw[z19]at h3;exact h3) (by rw[z19]at h4;exact h4))
theorem zhz {B:Int×Int×List Time→Option (Ctl (Int×Int×List Time) Empty)}{a:Nat}: ∀(n i j fuel:Nat) (d:Array Time),j+1-i≤n→n<fuel→1≤i→i≤d.size→j<d.size→
 (∀(i j:Nat) (d':Array Time),d'.size=d.size→1≤i→i≤d.size→j<d.size→B ((i:Int),(j:Int),d'.toList)=
  if Sort.scanUp (fun x=> !ltT d'[a]! x) d' j i>Sort.scanDown (fun x=>ltT d'[a]! x) d' (Sort.scanUp (fun x=> !ltT d'[a]! x) d' j i) j
  then some (.brk (((Sort.scanUp (fun x=> !ltT d'[a]! x) d' j i:Nat):Int),((Sort.scanDown (fun x=>ltT d'[a]! x) d' (Sort.scanUp (fun x=> !ltT d'[a]! x) d' j i) j:Nat):Int),d'.toList))
  else some (.next (((Sort.scanUp (fun x=> !ltT d'[a]! x) d' j i+1:Nat):Int),((Sort.scanDown (fun x=>ltT d'[a]! x) d' (Sort.scanUp (fun x=> !ltT d'[a]! x) d' j i) j-1:Nat):Int),(Sort.swp d' (Sort.scanUp (fun x=> !ltT d'[a]! x) d' j i) (Sort.scanDown (fun x=>ltT d'[a]! x) d' (Sort.scanUp (fun x=> !ltT d'[a]! x) d' j i) j)).toList)))→
 ∃x:Int,loopN B fuel ((i:Int),(j:Int),d.toList)=some (.done (((Sort.partEqLoop ltT a i j d).1:Int),x,(Sort.partEqLoop ltT a i j d).2.toList)):=by
 intro n;induction n with
 |zero=>
  intro i j fuel d hn hf hi hi2 hj hB;cases fuel with
  |zero=>omega
  |succ fuel=>
   have h:=hB i j d rfl hi hi2 hj;have u:=(z3y (fun x=> !ltT d[a]! x) d j _ i (zz9 _))
   have v:=z2a (fun x=>ltT d[a]! x) d (Sort.scanUp (fun x=> !ltT d[a]! x) d j i) j;rw[if_pos (by omega)]at h;rw[z1e h,z6o,if_pos (by omega)];exact⟨_,rfl⟩
 |succ n ih=>
  intro i j fuel d hn hf hi hi2 hj hB;cases fuel with
  |zero=>omega
  |succ fuel=>
   have h:=hB i j d rfl hi hi2 hj;have u:=(z3y (fun x=> !ltT d[a]! x) d j _ i (zz9 _))
   have v:=z2a (fun x=>ltT d[a]! x) d (Sort.scanUp (fun x=> !ltT d[a]! x) d j i) j;rw[z6o];generalize Sort.scanUp (fun x=> !ltT d[a]! x) d j i=i2 at*;generalize Sort.scanDown (fun x=>ltT d[a]! x) d i2 j=j2 at*;by_cases hc:i2>j2
   ·rw[if_pos hc]at h;rw[z1e h,if_pos hc];exact⟨_,rfl⟩
   ·rw[if_neg hc]at h;rw[z20 h,if_neg hc];exact ih _ _ _ _ (by omega) (by omega) (by omega) (by rw[z19];omega) (by rw[z19];omega) (fun i' j' d' h1 h2 h3 h4=>hB i' j' d' (by rw[h1,z19]) h2 (by rw[z19]at h3;exact h3) (by rw[z19]at h4;exact h4))
theorem zkt {X Y Z R Q:Type}{o:Option (Out (X×Y×Z) R)}{kn:X×Y×Z→Option Q}{kr:R→Option Q}{y:Y}{z:Z}{q:Option Q}(h: ∃x:X,o=some (.done (x,y,z)))(hk: ∀x,kn (x,y,z)=q):outK o kn kr=q:=by
 obtain⟨x,h⟩:=h;rw[h];exact hk x
theorem zku {X Y Z R Q:Type}{o:Option (Out (X×Y×Z) R)}{kn:X×Y×Z→Option Q}{kr:R→Option Q}{x:X}{z:Z}{q:Option Q}(h: ∃y:Y,o=some (.done (x,y,z)))(hk: ∀y,kn (x,y,z)=q):outK o kn kr=q:=by
 obtain⟨y,h⟩:=h;rw[h];exact hk y
theorem zcs {fuel a b pivot:Nat}{d:Array Time}(hp:a≤pivot∧pivot<b)(hab:a+1<b)(hb:b≤d.size)(hd:d.size<1152921504606846976)(hf:d.size+2<fuel):
 z10 fuel (a:Int) (b:Int) (pivot:Int) d.toList=some (((Sort.partitionEqual ltT d a b pivot).1:Int),(Sort.partitionEqual ltT d a b pivot).2.toList):=by
 unfold z10 Sort.partitionEqual;have w1:zzi.wrap ((a:Int)+1)=((a+1:Nat):Int):=wadd1 (by omega)
 have w2:zzi.wrap ((b:Int)-1)=((b-1:Nat):Int):=wsub1 (by omega) (by omega);rw[w1,w2];simp only[zz7,zz6,zz2,zza,z1w,z31];rw[z07 (by omega),z07 (by omega),z07 (by omega),z07 (by omega),z07 (by omega),z07 (by omega),z07 (by omega),z07 (by omega)];have hsz:=z19 d a pivot
 generalize Sort.swp d a pivot=d1 at*;refine zku (zhz (a:=a) d1.size (a+1) (b-1) fuel d1 (by omega) (by omega) (by omega) (by omega) (by omega) ?_) (fun x=>rfl);intro i j e he hi hi2 hj;simp only;have u:=(z3y (fun x=> !ltT e[a]! x) e j _ i (zz9 _))
 have v:=z2a (fun x=>ltT e[a]! x) e (Sort.scanUp (fun x=> !ltT e[a]! x) e j i) j;rw[za7 (R:=Empty) (fun i:Nat=>(i:Int)) (fun x=> !ltT e[a]! x) e (j:=j) d1.size i fuel (by omega) (by omega) (fun k h1 h2=>?_)]
 ·simp only[z3x];generalize Sort.scanUp (fun x=> !ltT e[a]! x) e j i=i2 at*;rw[z8l (R:=Empty) (fun i:Nat=>(i:Int)) (fun x=>ltT e[a]! x) e (i:=i2) (by omega) j fuel (by omega) (fun k h1=>?_)]
  ·simp only[z3x,z0m,intlt,gt_iff_lt];generalize Sort.scanDown (fun x=>ltT e[a]! x) e i2 j=j2 at*;by_cases hc:j2<i2
   ·rw[if_pos hc,if_pos hc]
   ·rw[if_neg hc,if_neg hc];simp(disch:=omega) only[wsub1,wadd1,zz7,zz6,z07,zz2,zza,z1w,z31]
  ·simp only[jn_eq,z0m,intle];by_cases hc:i2≤k
   ·rw[if_pos hc];simp(disch:=omega) only[wsub1,zz7,zz6,z07,zz2,z26,zz0,z1w,z0m,hc,true_and];unfold ltT;by_cases h:cmpT e[a]! e[k]! <0
    ·simp[h]
    ·simp[h]
   ·rw[if_neg hc,if_neg (fun h=>hc h.1),z0s]
 ·simp only[jn_eq,z0m,intle];by_cases hc:k≤j
  ·rw[if_pos hc];simp(disch:=omega) only[wadd1,zz7,zz6,z07,zz2,z26,zz0,z1w,hc,true_and];unfold ltT;by_cases h:cmpT e[a]! e[k]! <0
   ·simp[h]
   ·simp[h]
  ·rw[if_neg hc,if_neg (fun h=>hc h.1),z0s]
theorem zg6 {a:Nat}: ∀(n i j:Nat) (d:Array Time),j+1-i≤n→1≤i→i≤d.size→j<d.size→(Sort.partLoop ltT a i j d).1≤j∧(Sort.partLoop ltT a i j d).2.size=d.size:=by
 intro n;induction n with
 |zero=>
  intro i j d hn hi hi2 hj;have u:=(z3y (fun x=>ltT x d[a]!) d j _ i (zz9 _))
  have v:=z2a (fun x=> !ltT x d[a]!) d (Sort.scanUp (fun x=>ltT x d[a]!) d j i) j;rw[z7r,if_pos (by omega)];exact⟨v,rfl⟩
 |succ n ih=>
  intro i j d hn hi hi2 hj;have u:=(z3y (fun x=>ltT x d[a]!) d j _ i (zz9 _))
  have v:=z2a (fun x=> !ltT x d[a]!) d (Sort.scanUp (fun x=>ltT x d[a]!) d j i) j;rw[z7r];generalize Sort.scanUp (fun x=>ltT x d[a]!) d j i=i2 at*;generalize Sort.scanDown (fun x=> !ltT x d[a]!) d i2 j=j2 at*;by_cases hc:i2>j2
  ·rw[if_pos hc];exact⟨v,rfl⟩
  ·rw[if_neg hc];have:=ih (i2+1) (j2-1) (Sort.swp d i2 j2) (by omega) (by omega) (by rw[z19];omega) (by rw[z19];omega);rw[z19]at this;omega
theorem zh2 {fuel a b pivot:Nat}{d:Array Time}(hp:a≤pivot∧pivot<b)(hab:a+1<b)(hb:b≤d.size)(hd:d.size<1152921504606846976)(hf:d.size+2<fuel):
 z1d fuel (a:Int) (b:Int) (pivot:Int) d.toList=some (((Sort.partition ltT d a b pivot).1:Int),(Sort.partition ltT d a b pivot).2.1,(Sort.partition ltT d a b pivot).2.2.toList):=by
 unfold z1d Sort.partition;have w1:zzi.wrap ((a:Int)+1)=((a+1:Nat):Int):=wadd1 (by omega)
 have w2:zzi.wrap ((b:Int)-1)=((b-1:Nat):Int):=wsub1 (by omega) (by omega);rw[w1,w2];simp only[zz7,zz6,zz2,zza,z1w,z31];rw[z07 (by omega),z07 (by omega),z07 (by omega),z07 (by omega),z07 (by omega),z07 (by omega),z07 (by omega),z07 (by omega)];have hsz:=z19 d a pivot
 generalize Sort.swp d a pivot=e at*;have u:=(z3y (fun x=>ltT x e[a]!) e (b-1) _ (a+1) (zz9 _))
 have v:=z2a (fun x=> !ltT x e[a]!) e (Sort.scanUp (fun x=>ltT x e[a]!) e (b-1) (a+1)) (b-1);rw[za7 (R:=Empty) (fun i:Nat=>((i:Int),((b-1:Nat):Int))) (fun x=>ltT x e[a]!) e (j:=b-1) e.size (a+1) fuel (by omega) (by omega) (fun k h1 h2=>?_)]
 ·simp only[z3x];generalize Sort.scanUp (fun x=>ltT x e[a]!) e (b-1) (a+1)=i2 at*;rw[z8l (R:=Empty) (fun i:Nat=>(i:Int)) (fun x=> !ltT x e[a]!) e (i:=i2) (by omega) (b-1) fuel (by omega) (fun k h1=>?_)]
  ·simp only[z3x,z0m,intlt,gt_iff_lt];generalize Sort.scanDown (fun x=> !ltT x e[a]!) e i2 (b-1)=j2 at*;by_cases hc:j2<i2
   ·rw[if_pos hc,if_pos hc];simp(disch:=omega) only[zz7,zz6,z07,zz2,zza,z1w,z31]
   ·rw[if_neg hc,if_neg hc];have w3:zzi.wrap ((i2:Int)+1)=((i2+1:Nat):Int):=wadd1 (by omega);have w4:zzi.wrap ((j2:Int)-1)=((j2-1:Nat):Int):=wsub1 (by omega) (by omega)
    rw[w3,w4];simp only[zz7,zz6,zz2,zza,z1w,z31];rw[z07 (by omega),z07 (by omega),z07 (by omega),z07 (by omega),z07 (by omega),z07 (by omega),z07 (by omega),z07 (by omega)];have hsz2:=z19 e i2 j2
    generalize Sort.swp e i2 j2=f at*;refine zkt (zju (a:=a) f.size (i2+1) (j2-1) fuel f (by omega) (by omega) (by omega) (by omega) (by omega) ?_) (fun x=>?_)
    ·intro i j g he hi hi2 hj;simp only;have u:=(z3y (fun x=>ltT x g[a]!) g j _ i (zz9 _))
     have v:=z2a (fun x=> !ltT x g[a]!) g (Sort.scanUp (fun x=>ltT x g[a]!) g j i) j;rw[za7 (R:=Empty) (fun i:Nat=>(i:Int)) (fun x=>ltT x g[a]!) g (j:=j) f.size i fuel (by omega) (by omega) (fun k h1 h2=>?_)]
     ·simp only[z3x];generalize Sort.scanUp (fun x=>ltT x g[a]!) g j i=i3 at*;rw[z8l (R:=Empty) (fun i:Nat=>(i:Int)) (fun x=> !ltT x g[a]!) g (i:=i3) (by omega) j fuel (by omega) (fun k h1=>?_)]
      ·simp only[z3x,z0m,intlt,gt_iff_lt];generalize Sort.scanDown (fun x=> !ltT x g[a]!) g i3 j=j3 at*;by_cases hc:j3<i3
       ·rw[if_pos hc,if_pos hc]
       ·rw[if_neg hc,if_neg hc];simp(disch:=omega) only[wsub1,wadd1,zz7,zz6,z07,zz2,zza,z1w,z31]
      ·simp only[jn_eq,z0m,intle];by_cases hc:i3≤k
       ·rw[if_pos hc];simp(disch:=omega) only[wsub1,zz7,zz6,z07,zz2,z26,zz0,z1w,z0m,hc,true_and];unfold ltT;by_cases h:cmpT g[k]! g[a]! <0
        ·simp[h]
        ·simp[h]
       ·rw[if_neg hc,if_neg (fun h=>hc h.1),z0s]
     ·simp only[jn_eq,z0m,intle];by_cases hc:k≤j
      ·rw[if_pos hc];simp(disch:=omega) only[wadd1,zz7,zz6,z07,zz2,z26,zz0,z1w,hc,true_and];unfold ltT;by_cases h:cmpT g[k]! g[a]! <0
       ·simp[h]
       ·simp[h]
      ·rw[if_neg hc,if_neg (fun h=>hc h.1),z0s]
    ·have hl:=zg6 (a:=a) f.size (i2+1) (j2-1) f (by omega) (by omega) (by omega) (by omega);generalize Sort.partLoop ltT a (i2+1) (j2-1) f=r at*;simp(disch:=omega) only[zz7,zz6,z07,zz2,zza,z1w,z31]
  ·simp only[jn_eq,z0m,intle];by_cases hc:i2≤k
   ·rw[if_pos hc];simp(disch:=omega) only[wsub1,zz7,zz6,z07,zz2,z26,zz0,z1w,z0m,hc,true_and];unfold ltT;by_cases h:cmpT e[k]! e[a]! <0
    ·simp[h]
    ·simp[h]
   ·rw[if_neg hc,if_neg (fun h=>hc h.1),z0s]
 ·simp only[jn_eq,z0m,intle];by_cases hc:k≤b-1
  ·rw[if_pos hc];simp(disch:=omega) only[wadd1,zz7,zz6,z07,zz2,z26,zz0,z1w,hc,true_and];unfold ltT;by_cases h:cmpT e[k]! e[a]! <0
   ·simp[h]
   ·simp[h]
  ·rw[if_neg hc,if_neg (fun h=>hc h.1),z0s]
end Go.Av
namespace Go.Av
open Go
theorem z9i: ∀(j:Nat) (d:Array Time),(Sort.shiftDown ltT j d).size=d.size
 |0,d=>rfl
 |j+1,d=>by
  unfold Sort.shiftDown;split
  ·rfl
  ·rw[z9i j,z19]
theorem zf2 {B:Int×List Time→Option (Ctl (Int×List Time) Empty)}: ∀(j fuel:Nat) (d:Array Time),j<fuel→j<d.size→
 (∀(j:Nat) (d':Array Time),d'.size=d.size→j<d.size→B ((j:Int),d'.toList)=if 1≤j∧ltT d'[j]! d'[j-1]! =true then some (.next (((j-1:Nat):Int),(Sort.swp d' j (j-1)).toList))else some (.brk ((j:Int),d'.toList)))→
 ∃x:Int,loopN B fuel ((j:Int),d.toList)=some (.done (x,(Sort.shiftDown ltT j d).toList)):=by
 intro j;induction j with
 |zero=>
  intro fuel d hf hj hB;cases fuel with
  |zero=>omega
  |succ fuel=>
   have h:=hB 0 d rfl hj;rw[if_neg (by omega)]at h;rw[z1e h];exact⟨_,rfl⟩
 |succ j ih=>
  intro fuel d hf hj hB;cases fuel with
  |zero=>omega
  |succ fuel=>
   have h:=hB (j+1) d rfl hj;rw[Nat.add_sub_cancel]at h;unfold Sort.shiftDown;by_cases hc:ltT d[j+1]! d[j]! =true
   ·rw[if_pos ⟨by omega,hc⟩]at h;rw[z20 h,if_neg (by simp[hc])];exact ih fuel _ (by omega) (by rw[z19];omega) (fun j' d' h1 h2=>hB j' d' (by rw[h1,z19]) (by rw[z19]at h2;exact h2))
   ·rw[if_neg (fun h=>hc h.2)]at h;rw[z1e h,if_pos (by simpa using hc)];exact⟨_,rfl⟩
theorem ziz (b:Nat): ∀(n j:Nat) (d:Array Time),b-j≤n→(Sort.shiftUp ltT b j d).size=d.size:=by
 intro n;induction n with
 |zero=>intro j d hn;rw[Sort.shiftUp,if_neg (by omega)]
 |succ n ih=>
  intro j d hn;rw[Sort.shiftUp];split
  ·split
   ·rfl
   ·rw[ih _ _ (by omega),z19]
  ·rfl
theorem zhc {B:Int×List Time→Option (Ctl (Int×List Time) Empty)}{b:Nat}: ∀(n j fuel:Nat) (d:Array Time),b-j≤n→n<fuel→1≤j→b≤d.size→
 (∀(j:Nat) (d':Array Time),d'.size=d.size→1≤j→B ((j:Int),d'.toList)=if j<b∧ltT d'[j]! d'[j-1]! =true then some (.next (((j+1:Nat):Int),(Sort.swp d' j (j-1)).toList))else some (.brk ((j:Int),d'.toList)))→
 ∃x:Int,loopN B fuel ((j:Int),d.toList)=some (.done (x,(Sort.shiftUp ltT b j d).toList)):=by
 intro n;induction n with
 |zero=>
  intro j fuel d hn hf hj hb hB;cases fuel with
  |zero=>omega
  |succ fuel=>
   have h:=hB j d rfl hj;rw[if_neg (by omega)]at h;rw[z1e h,Sort.shiftUp,if_neg (by omega)];exact⟨_,rfl⟩
 |succ n ih=>
  intro j fuel d hn hf hj hb hB;cases fuel with
  |zero=>omega
  |succ fuel=>
   have h:=hB j d rfl hj;rw[Sort.shiftUp];by_cases hjb:j<b
   ·rw[if_pos hjb];by_cases hc:ltT d[j]! d[j-1]! =true
    ·rw[if_pos ⟨hjb,hc⟩]at h;rw[z20 h,if_neg (by simp[hc])];exact ih _ fuel _ (by omega) (by omega) (by omega) (by rw[z19];omega) (fun j' d' h1 h2=>hB j' d' (by rw[h1,z19]) h2)
    ·rw[if_neg (fun h=>hc h.2)]at h;rw[z1e h,if_pos (by simpa using hc)];exact⟨_,rfl⟩
   ·rw[if_neg (fun h=>hjb h.1)]at h;rw[z1e h,if_neg hjb];exact⟨_,rfl⟩
theorem z9v {B:Int→Option (Ctl Int Empty)}{b:Nat}{d:Array Time}: ∀(n i fuel:Nat),b-i≤n→n<fuel→1≤i→
 (∀(i':Nat),i≤i'→B (i':Int)=if i'<b∧ltT d[i']! d[i'-1]! =false then some (.next ((i'+1:Nat):Int))else some (.brk (i':Int)))→
 loopN B fuel (i:Int)=some (.done ((Sort.scanSorted ltT d b i:Nat):Int))∧i≤Sort.scanSorted ltT d b i∧(i≤b→Sort.scanSorted ltT d b i≤b):=by
 intro n;induction n with
 |zero=>
  intro i fuel hn hf hi hB;cases fuel with
  |zero=>omega
  |succ fuel=>
   have h:=hB i (zz9 _);rw[if_neg (by omega)]at h;rw[z1e h,Sort.scanSorted,if_neg (by simp;omega)];exact⟨rfl,zz9 _,fun h=>h⟩
 |succ n ih=>
  intro i fuel hn hf hi hB;cases fuel with
  |zero=>omega
  |succ fuel=>
   have h:=hB i (zz9 _);rw[Sort.scanSorted];by_cases hc:i<b∧ltT d[i]! d[i-1]! =false
   ·rw[if_pos hc]at h;rw[z20 h,if_pos (by simpa using hc)];obtain⟨h1,h2,h3⟩:=ih (i+1) fuel (by omega) (by omega) (by omega) (fun i' h=>hB i' (by omega));exact⟨h1,by omega,fun h=>h3 (by omega)⟩
   ·rw[if_neg hc]at h;rw[z1e h,if_neg (by simpa using hc)];exact⟨rfl,zz9 _,fun h=>h⟩
def zaj (a b i:Nat)(d:Array Time):Array Time:=
 let d:=Sort.swp d i (i-1)
 let d:=if i-a≥2 then Sort.shiftDown ltT (i-1) d else d
 if b-i≥2 then Sort.shiftUp ltT b (i+1) d else d
theorem zb2 (a b i:Nat)(d:Array Time):(zaj a b i d).size=d.size:=by
 unfold zaj;dsimp only;split<;>split<;>simp[ziz b b _ _ (Nat.sub_le _ _),z9i,z19]
theorem zai (a b s i:Nat)(d:Array Time):Sort.partialIns ltT a b (s+1) i d=
 if Sort.scanSorted ltT d b i=b then(d,true)else if b-a<50 then(d,false)else Sort.partialIns ltT a b s (Sort.scanSorted ltT d b i) (zaj a b (Sort.scanSorted ltT d b i) d):=rfl
theorem zkv {B:Int×Int×List Time→Option (Ctl (Int×Int×List Time) (Bool×List Time))}{a b:Nat}{Q:Type}{kn:Int×Int×List Time→Option Q}{kr:Bool×List Time→Option Q}{q:Option Q}: ∀(s i fuel:Nat) (d:Array Time),s≤5→s<fuel→a<i→i≤b→
 (∀(i:Nat) (d':Array Time),d'.size=d.size→a<i→i≤b→i≤Sort.scanSorted ltT d' b i∧Sort.scanSorted ltT d' b i≤b)→
 (∀(s i:Nat) (d':Array Time),d'.size=d.size→s≤5→a<i→i≤b→B ((i:Int),((5-s:Nat):Int),d'.toList)=match s with
  |0=>some (.brk ((i:Int),5,d'.toList))
  |s+1=>if Sort.scanSorted ltT d' b i=b then some (.ret (true,d'.toList))else if b-a<50 then some (.ret (false,d'.toList))else some (.next (((Sort.scanSorted ltT d' b i:Nat):Int),((5-s:Nat):Int),(zaj a b (Sort.scanSorted ltT d' b i) d').toList)))→
 (∀x,(Sort.partialIns ltT a b s i d).2=false→kn (x,5,(Sort.partialIns ltT a b s i d).1.toList)=q)→(kr ((Sort.partialIns ltT a b s i d).2,(Sort.partialIns ltT a b s i d).1.toList)=q)→
 outK (loopN B fuel ((i:Int),((5-s:Nat):Int),d.toList)) kn kr=q:=by
 intro s;induction s with
 |zero=>
  intro i fuel d hs hf hi hib hsc hB hkn hkr;cases fuel with
  |zero=>omega
  |succ fuel=>
   rw[z1e (hB 0 i d rfl hs hi hib)];exact hkn _ rfl
 |succ s ih=>
  intro i fuel d hs hf hi hib hsc hB hkn hkr;cases fuel with
  |zero=>omega
  |succ fuel=>
   have h:=hB (s+1) i d rfl hs hi hib;simp only at h;rw[zai]at hkn hkr;have hb:=hsc i d rfl hi hib
   by_cases h1:Sort.scanSorted ltT d b i=b
   ·rw[if_pos h1]at h;rw[z7a h];rw[if_pos h1]at hkr;exact hkr
   ·rw[if_neg h1]at h hkn hkr;by_cases h2:b-a<50
    ·rw[if_pos h2]at h;rw[z7a h];rw[if_pos h2]at hkr;exact hkr
    ·rw[if_neg h2]at h hkn hkr;rw[z20 h];exact ih _ fuel _ (by omega) (by omega) (by omega) (by omega) (fun i' d' h1 h2 h3=>hsc i' d' (by rw[h1,zb2]) h2 h3) (fun s' i' d' h1 h2 h3 h4=>hB s' i' d' (by rw[h1,zb2]) h2 h3 h4) hkn hkr
theorem z9l {fuel a b:Nat}{d:Array Time}(hab:a<b)(hb:b≤d.size)(hd:d.size<1152921504606846976)(hf:d.size+10<fuel):
 z0h fuel (a:Int) (b:Int) d.toList=some ((Sort.partialInsertionSort ltT d a b).2,(Sort.partialInsertionSort ltT d a b).1.toList):=by
 unfold z0h Sort.partialInsertionSort;rw[wadd1 (by omega)];refine zkv (a:=a) (b:=b) 5 (a+1) fuel d (by omega) (by omega) (by omega) (by omega) ?_ ?_ (fun x h=>by rw[h]) rfl
 ·intro i e he h1 h2;have:=(z9v (B:=fun x=>if x.toNat<b∧ltT e[x.toNat]! e[x.toNat-1]! =false then some (.next ((x.toNat+1:Nat):Int))else some (.brk (x.toNat:Int))) (b:=b) (d:=e) b i (b+1) (by omega) (by omega) (by omega) (fun i' h=>by simp only[zz7]))
  exact⟨this.2.1,this.2.2 h2⟩
 ·intro s i e he hs hi hib;cases s with
  |zero=>rfl
  |succ s=>
   simp only[z0m,jn_eq];rw[if_pos (show((5-(s+1):Nat):Int)<5 by omega)];obtain⟨g1,g2,g3⟩:=z9v (B:=fun(a5:Int)=>if(a5<(b:Int))then(need ((0:Int)≤a5∧a5<(e.toList.length:Int))<|need ((0+a5.toNat)<e.toList.length)<|need ((0:Int)≤(zzi.wrap (a5-1))∧(zzi.wrap (a5-1))<(e.toList.length:Int))<|need ((0+(zzi.wrap (a5-1)).toNat)<e.toList.length)<|(z0z (e.toList.getD (0+a5.toNat) zzd) (e.toList.getD (0+(zzi.wrap (a5-1)).toNat) zzd)).bind fun r54=>bf (!(decide (r54<0))) (some (.next (zzi.wrap (a5+1)))) (some (.brk a5)))else(bf false (some (.next (zzi.wrap (a5+1)))) (some (.brk a5)))) (b:=b) (d:=e) b i fuel (by omega) (by omega) (by omega) (fun k hk=>by
    simp only[jn_eq,intlt];by_cases hc:k<b
    ·rw[if_pos hc];simp(disch:=omega) only[wsub1,wadd1,zz7,zz6,z07,zz2,z26,zz0,z1w,hc,true_and];unfold ltT;by_cases h:cmpT e[k]! e[k-1]! <0
     ·simp[h]
     ·simp[h]
    ·rw[if_neg hc,if_neg (fun h=>hc h.1),z0s])
   rw[g1];simp only[z3x];have g3:=g3 hib
   generalize Sort.scanSorted ltT e b i=i2 at*;by_cases h1:i2=b
   ·rw[if_pos h1,if_pos (by omega)]
   ·rw[if_neg h1,if_neg (by omega),wsub (by omega) (by omega)];by_cases h2:b-a<50
    ·rw[if_pos h2,if_pos (by omega)]
    ·rw[if_neg h2,if_neg (by omega)];have w1:zzi.wrap ((i2:Int)+1)=((i2+1:Nat):Int):=wadd1 (by omega);have w2:zzi.wrap ((i2:Int)-1)=((i2-1:Nat):Int):=wsub1 (by omega) (by omega)
     have w3:zzi.wrap ((i2:Int)-(a:Int))=((i2-a:Nat):Int):=wsub (by omega) (by omega);have w4:zzi.wrap ((b:Int)-(i2:Int))=((b-i2:Nat):Int):=wsub (by omega) (by omega)
     have w5:zzi.wrap (((5-(s+1):Nat):Int)+1)=((5-s:Nat):Int):=by rw[wadd1 (by omega)];omega
     simp only[w1,w2,w3,w4,w5,zz7,zz6,zz2,zza,z1w,z31,jn_eq];rw[z07 (by omega),z07 (by omega),z07 (by omega),z07 (by omega),z07 (by omega),z07 (by omega),z07 (by omega),z07 (by omega)];unfold zaj;dsimp only;have hsz:=z19 e i2 (i2-1)
     generalize Sort.swp e i2 (i2-1)=f at*;have up: ∀g:Array Time,g.size=e.size→(if(2:Int)≤((b-i2:Nat):Int)then(outK (loopN (S:=Int×(List Time)) (R:=Empty) (fun(a17:Int×(List Time))=>if(a17.1<(b:Int))then(need ((0:Int)≤a17.1∧a17.1<(a17.2.length:Int))<|need (a17.1.toNat<a17.2.length)<|need ((0:Int)≤(zzi.wrap (a17.1-1))∧(zzi.wrap (a17.1-1))<(a17.2.length:Int))<|need ((zzi.wrap (a17.1-1)).toNat<a17.2.length)<|(z0z (a17.2.getD a17.1.toNat zzd) (a17.2.getD (zzi.wrap (a17.1-1)).toNat zzd)).bind fun r23=>bf (!(decide (r23<0))) (some (.brk (a17.1,a17.2))) (need ((0:Int)≤(zzi.wrap (a17.1-1))∧(zzi.wrap (a17.1-1))<(a17.2.length:Int))<|need ((zzi.wrap (a17.1-1)).toNat<a17.2.length)<|need ((0:Int)≤a17.1∧a17.1<(a17.2.length:Int))<|need (a17.1.toNat<a17.2.length)<|need ((0:Int)≤a17.1∧a17.1<(a17.2.length:Int))<|need (a17.1.toNat<a17.2.length)<|need ((0:Int)≤(zzi.wrap (a17.1-1))∧(zzi.wrap (a17.1-1))<(a17.2.length:Int))<|need ((zzi.wrap (a17.1-1)).toNat<a17.2.length)<|some (.next ((zzi.wrap (a17.1+1)),((a17.2.set a17.1.toNat (a17.2.getD (zzi.wrap (a17.1-1)).toNat zzd)).set (zzi.wrap (a17.1-1)).toNat (a17.2.getD a17.1.toNat zzd))))))else(some (.brk (a17.1,a17.2)))) fuel (((i2+1:Nat):Int),g.toList)) (fun(a18:Int×(List Time))=>some (Ctl.next ((i2:Int),((5-s:Nat):Int),a18.2))) (fun(x:Empty)=>x.elim))else some (Ctl.next ((i2:Int),((5-s:Nat):Int),g.toList)))=(some (Ctl.next ((i2:Int),((5-s:Nat):Int),(if b-i2≥2 then Sort.shiftUp ltT b (i2+1) g else g).toList)):Option (Ctl (Int×Int×List Time) (Bool×List Time))):=fun g hg=>by
      by_cases h3:b-i2≥2
      ·rw[if_pos h3,if_pos (by omega)];refine z8y (zhc (b:=b) b (i2+1) fuel g (by omega) (by omega) (by omega) (by omega) ?_) (fun x=>rfl);intro j g' hg' hj;simp only[intlt];by_cases hc:j<b
       ·rw[if_pos hc];simp(disch:=omega) only[wsub1,wadd1,zz7,zz6,z07,zz2,zza,z26,zz0,z1w,z31,hc,true_and];unfold ltT;by_cases h:cmpT g'[j]! g'[j-1]! <0
        ·simp[h]
        ·simp[h]
       ·rw[if_neg hc,if_neg (fun h=>hc h.1)]
      ·rw[if_neg h3,if_neg (by omega)]
     by_cases h4:i2-a≥2
     ·rw[if_pos h4,if_pos (by omega)];refine z8y (zf2 (i2-1) fuel f (by omega) (by omega) ?_) (fun x=>?_)
      ·intro j g' hg' hj;by_cases hc:1≤j
       ·simp only[show((1:Int)≤(j:Int))=True from eq_true (by omega),if_true];simp(disch:=omega) only[wsub1,wadd1,zz7,zz6,z07,zz2,zza,z26,zz0,z1w,z31,hc,true_and];unfold ltT;by_cases h:cmpT g'[j]! g'[j-1]! <0
        ·simp[h]
        ·simp[h]
       ·rw[if_neg (by simp only;omega),if_neg (fun h=>hc h.1)]
      ·exact up (Sort.shiftDown ltT (i2-1) f) (by rw[z9i];omega)
     ·rw[if_neg h4,if_neg (by omega)];exact up f (by omega)
end Go.Av
namespace Go.Av
open Go
theorem zle {x:Nat}(h:x<2^64):z33 (x:Int)=some (((Sort.xorNextN x:Nat):Int),((Sort.xorNextN x:Nat):Int)):=by
 unfold z33;have s13: ∀y:Nat,shlOp .u64 (y:Int) 13=((y*8192 % 18446744073709551616:Nat):Int):=fun y=>by
  have:=zak (k:= .u64) y 13 (by decide);rw[show((13:Nat):Int)=13 from rfl]at this;rw[this,z51];omega
 have s17: ∀y:Nat,shlOp .u64 (y:Int) 17=((y*131072 % 18446744073709551616:Nat):Int):=fun y=>by
  have:=zak (k:= .u64) y 17 (by decide);rw[show((17:Nat):Int)=17 from rfl]at this;rw[this,z51];omega
 have s7: ∀y:Nat,shrOp .u64 (y:Int) 7=((y / 128:Nat):Int):=fun y=>z90 .u64 y 7 (by decide);have ha:x^^^(x*8192 % 18446744073709551616)<2^64:=Nat.xor_lt_two_pow h (by omega)
 have hb:(x^^^(x*8192 % 18446744073709551616))^^^((x^^^(x*8192 % 18446744073709551616)) / 128)<2^64:=Nat.xor_lt_two_pow ha (by omega);rw[s13,zan (k:= .u64) rfl h (show x*8192 % 18446744073709551616<2^64 by omega),s7,zan (k:= .u64) rfl ha (show(x^^^(x*8192 % 18446744073709551616)) / 128<2^64 by omega),s17,zan (k:= .u64) rfl hb (show((x^^^(x*8192 % 18446744073709551616))^^^((x^^^(x*8192 % 18446744073709551616)) / 128))*131072 % 18446744073709551616<2^64 by omega)];rfl
theorem zbw (a l m:Nat)(st:UInt64×Array Time)(i:Nat):(Sort.breakStep a l m st i).2.size=st.2.size:=by
 unfold Sort.breakStep;exact z19 _ _ _
theorem zj6 {l:Nat}(h:l<1152921504606846976):Sort.bitsLen l≤60:=zdv h
theorem zil {B:Int×Int×Int×List Time→Option (Ctl (Int×Int×Int×List Time) Empty)}{a b l M fuel K:Nat}{d:Array Time}{r0:UInt64}{n0:Nat}(h0:r0.toNat=n0){Q:Type}{kn:Int×Int×Int×List Time→Option Q}{kr:Empty→Option Q}{q:Option Q}(hf:4<fuel)(hK0:1≤K)(hK:a≤K-1)(hK2:K+1<b)(hb:b≤d.size)
 (hB: ∀(k:Nat) (r:UInt64) (e:Array Time),e.size=d.size→a≤k→k≤K+1→k<b→B ((n0:Int),(k:Int),(r.toNat:Int),e.toList)=some (.next ((n0:Int),((k+1:Nat):Int),((Sort.breakStep a l M (r,e) k).1.toNat:Int),(Sort.breakStep a l M (r,e) k).2.toList)))
 (hE: ∀(r:UInt64) (e:Array Time),B ((n0:Int),((K+2:Nat):Int),(r.toNat:Int),e.toList)=some (.brk ((n0:Int),((K+2:Nat):Int),(r.toNat:Int),e.toList)))
 (hk: ∀x y z,kn (x,y,z,(Sort.breakStep a l M (Sort.breakStep a l M (Sort.breakStep a l M (r0,d) (K-1)) (K-1+1)) (K-1+2)).2.toList)=q):
 outK (loopN B fuel ((n0:Int),((K-1:Nat):Int),(n0:Int),d.toList)) kn kr=q:=by
 subst h0;obtain⟨f,rfl⟩: ∃f,fuel=f+1+1+1+1:=⟨fuel-4,by omega⟩;have s1:=zbw a l M (r0,d) (K-1)
 have s2:=zbw a l M (Sort.breakStep a l M (r0,d) (K-1)) (K-1+1);have h1:=hB (K-1) r0 d rfl (by omega) (by omega) (by omega)
 have h2:=hB (K-1+1) (Sort.breakStep a l M (r0,d) (K-1)).1 (Sort.breakStep a l M (r0,d) (K-1)).2 s1 (by omega) (by omega) (by omega);have h3:=hB (K-1+1+1) (Sort.breakStep a l M (Sort.breakStep a l M (r0,d) (K-1)) (K-1+1)).1 (Sort.breakStep a l M (Sort.breakStep a l M (r0,d) (K-1)) (K-1+1)).2 (s2.trans s1) (by omega) (by omega) (by omega)
 rw[z20 h1,z20 h2,z20 h3,show K-1+1+1+1=K+2 by omega,z1e (hE _ _)];exact hk _ _ _
theorem zd8 {fuel a b:Nat}{d:Array Time}(hab:a<b)(hb:b≤d.size)(hd:d.size<1152921504606846976)(hf:4<fuel):
 z11 fuel (a:Int) (b:Int) d.toList=some (Sort.breakPatterns d a b).toList:=by
 unfold z11 Sort.breakPatterns;have e0:zzi.wrap ((b:Int)-(a:Int))=((b-a:Nat):Int):=wsub (by omega) (by omega)
 simp only[e0,z0m];by_cases h8:b-a≥8
 ·rw[if_pos h8,if_pos (by omega)];have hL:=zj6 (l:=b-a) (by omega);have hLl:=Sort.lt_two_pow_bitsLen (b-a)
  have hLu:=Sort.two_pow_bitsLen_le (n:=b-a) (by omega);have hp:2^Sort.bitsLen (b-a)≤2^60:=Nat.pow_le_pow_right (by decide) hL
  have hm:z3i ((b-a:Nat):Int)=some ((2^Sort.bitsLen (b-a):Nat):Int):=by
   unfold z3i;have e:zzu.wrap ((b-a:Nat):Int)=((b-a:Nat):Int):=uwrap (k:= .u64) rfl (show b-a<2^64 by omega)
   rw[e,zjk (by omega),zz0,z07 (by omega)];have:=zak (k:= .u64) 1 (Sort.bitsLen (b-a)) (by show Sort.bitsLen (b-a)≤64;omega);rw[show((1:Nat):Int)=1 from rfl,Nat.one_mul]at this;rw[this,uwrap (k:= .u64) rfl (show 2^Sort.bitsLen (b-a)<2^64 by omega)]
  rw[hm,zz0,Nat.one_shiftLeft];generalize 2^Sort.bitsLen (b-a)=M at*;have e1:zzi.wrap (((b-a:Nat):Int).tdiv 4)=(((b-a) / 4:Nat):Int):=by rw[Int.tdiv_eq_ediv_of_nonneg (by omega),z1n (by omega) (by omega)];omega
  have e2:zzi.wrap ((((b-a) / 4:Nat):Int)*2)=(((b-a) / 4*2:Nat):Int):=by rw[z1n (by omega) (by omega)];omega
  have e3:zzi.wrap ((a:Int)+(((b-a) / 4*2:Nat):Int))=((a+(b-a) / 4*2:Nat):Int):=wadd (by omega);have e4:zzi.wrap (((a+(b-a) / 4*2:Nat):Int)-1)=((a+(b-a) / 4*2-1:Nat):Int):=wsub1 (by omega) (by omega)
  have e5:zzi.wrap (((a+(b-a) / 4*2:Nat):Int)+1)=((a+(b-a) / 4*2+1:Nat):Int):=wadd1 (by omega);have e6:zzi.wrap ((b-a:Nat):Int)=((b-a:Nat):Int):=z4c (by unfold in64;omega)
  have e7:zzu.wrap ((b-a:Nat):Int)=((b-a:Nat):Int):=uwrap (k:= .u64) rfl (show b-a<2^64 by omega);have e8:zzu.wrap ((M:Int)-1)=((M-1:Nat):Int):=by rw[z51];omega
  simp only[e1,e2,e3,e4,e7,e8,jn_eq];have hr0:(UInt64.ofNat (b-a)).toNat=b-a:=by rw[UInt64.toNat_ofNat'];omega
  refine zil (r0:=UInt64.ofNat (b-a)) (n0:=b-a) hr0 (a:=a) (l:=(b-a)) (M:=M) (b:=b) (K:=a+(b-a) / 4*2) hf (by omega) (by omega) (by omega) hb ?_ ?_ (fun x y z=>by dsimp only)
  ·intro k r e he hk1 hk2 hk3;simp only;rw[if_pos (show(k:Int)≤_ by rw[e1,e2,e3,e5];omega)];have hr:=UInt64.toNat_lt r
   rw[zle (by omega),zz0];unfold Sort.breakStep;dsimp only;rw[Sort.xorNext_toNat];have hx:=Sort.xorNextN_lt r.toNat (by omega)
   have ea:z09 .and .u64 ((Sort.xorNextN r.toNat:Nat):Int) ((M-1:Nat):Int)=((Sort.xorNextN r.toNat &&& (M-1):Nat):Int):=zi9 (k:= .u64) rfl (show _<2^64 by omega) (show M-1<2^64 by omega);have hal:Sort.xorNextN r.toNat &&& (M-1)≤M-1:=Nat.and_le_right
   rw[ea];generalize Sort.xorNextN r.toNat &&& (M-1)=o at*;have eo:zzi.wrap (o:Int)=(o:Int):=z4c (by unfold in64;omega)
   rw[eo];have w1:zzi.wrap ((k:Int)+1)=((k+1:Nat):Int):=wadd1 (by omega);by_cases ho:o≥b-a
   ·have w2:zzi.wrap ((o:Int)-((b-a:Nat):Int))=((o-(b-a):Nat):Int):=wsub (by omega) (by omega);have w3:zzi.wrap ((a:Int)+((o-(b-a):Nat):Int))=((a+(o-(b-a)):Nat):Int):=wadd (by omega)
    rw[if_pos ho,if_pos (by omega),w1,w2,w3];simp(disch:=omega) only[zz7,zz6,z07,zz2,zza,z1w,z31]
   ·have w3:zzi.wrap ((a:Int)+(o:Int))=((a+o:Nat):Int):=wadd (by omega);rw[if_neg ho,if_neg (by omega),w1,w3];simp(disch:=omega) only[zz7,zz6,z07,zz2,zza,z1w,z31]
  ·intro r e;simp only;rw[if_neg (show ¬((a+(b-a) / 4*2+2:Nat):Int)≤_ by rw[e1,e2,e3,e5];omega)]
 ·rw[if_neg h8,if_neg (by omega)]
end Go.Av
namespace Go.Av
open Go
abbrev PdqS:=Int×Int×Int×Bool×Bool×(List Time)
def pK12 (fuel : Nat) (a b : Int) (lim len : Int) (pivot : Int) (wb wp : Bool) (l : List Time) (x : Bool) : Option (Ctl PdqS (List Time)) :=
  bf x ((                                         z10 fuel a b pivot l).bind fun r14 => need (r14.2.length = l.length) <| some (.next (r14.1, b, lim, wb, wp, r14.2)))
    ((                                    z1d fuel a b pivot l).bind fun r16 => need (r16.2.2.length = l.length) <| bf (decide ((        zzi.wrap (r16.1 - a)) < (        zzi.wrap (b - r16.1))))
      ((                                  z0g fuel a r16.1 lim r16.2.2).bind fun r18 => need (r18.length = r16.2.2.length) <| some (.next ((        zzi.wrap (r16.1 + 1)), b, lim, (decide ((        zzi.wrap (len.tdiv 8)) ≤ (        zzi.wrap (r16.1 - a)))), r16.2.1, r18)))
      ((                                  z0g fuel (        zzi.wrap (r16.1 + 1)) b lim r16.2.2).bind fun r20 => need (r20.length = r16.2.2.length) <| some (.next (a, r16.1, lim, (decide ((        zzi.wrap (len.tdiv 8)) ≤ (        zzi.wrap (b - r16.1)))), r16.2.1, r20))))
def pK10 (fuel:Nat)(a b:Int)(lim len:Int)(pivot:Int)(wb wp:Bool)(l:List Time):Option (Ctl PdqS (List Time)):=
 jn (fun(a12:Bool)=>pK12 fuel a b lim len pivot wb wp l a12) fun j13=>bf (decide (0<a)) (need ((0:Int)≤(zzi.wrap (a-1))∧(zzi.wrap (a-1))<(l.length:Int))<|need ((0+(zzi.wrap (a-1)).toNat)<l.length)<|need ((0:Int)≤pivot∧pivot<(l.length:Int))<|need ((0+pivot.toNat)<l.length)<|(z0z (l.getD (0+(zzi.wrap (a-1)).toNat) zzd) (l.getD (0+pivot.toNat) zzd)).bind fun r27=>j13 (!(decide (r27<0)))) (j13 false)
def pK8 (fuel:Nat)(a b:Int)(lim len:Int)(wb wp:Bool)(pivot hint:Int)(l:List Time):Option (Ctl PdqS (List Time)):=
 jn (fun(a10:Bool×Bool×(List Time))=>pK10 fuel a b lim len pivot a10.1 a10.2.1 a10.2.2) fun j11=>jn (fun(a28:Bool×Bool×Bool)=>bf a28.2.2 ((z0h fuel a b l).bind fun r30=>need (r30.2.length=l.length)<|bf r30.1 (some (.ret r30.2)) (j11 (a28.1,a28.2.1,r30.2))) (j11 (a28.1,a28.2.1,l))) fun j29=>bf wb (bf wp (j29 (true,true,(decide (hint=1)))) (j29 (true,false,false))) (j29 (false,wp,false))
def pK5 (fuel:Nat)(a b:Int)(wb wp:Bool)(lim len:Int)(l:List Time):Option (Ctl PdqS (List Time)):=
 (z1c l a b).bind fun r7=>jn (fun(a8:Int×Int×(List Time))=>pK8 fuel a b lim len wb wp a8.1 a8.2.1 a8.2.2) fun j9=>bf (decide (r7.2=2)) ((z16 fuel a b l).bind fun r32=>need (r32.length=l.length)<|j9 ((zzi.wrap ((zzi.wrap (b-1))-(zzi.wrap (r7.1-a)))),1,r32)) (j9 (r7.1,r7.2,l))
def pBody (fuel:Nat)(a1:PdqS):Option (Ctl PdqS (List Time)):=
 bf (decide ((zzi.wrap (a1.2.1-a1.1))≤12)) ((z12 fuel a1.1 a1.2.1 a1.2.2.2.2.2).bind fun r3=>some (.ret r3)) (bf (decide (a1.2.2.1=0)) ((z1f fuel a1.1 a1.2.1 a1.2.2.2.2.2).bind fun r4=>some (.ret r4))
  (jn (fun(a5:Int×Int×(List Time))=>pK5 fuel a1.1 a1.2.1 a1.2.2.2.1 a1.2.2.2.2.1 a5.1 a5.2.1 a5.2.2) fun j6=>bf (!a1.2.2.2.1) ((z11 fuel a1.1 a1.2.1 a1.2.2.2.2.2).bind fun r34=>need (r34.length=a1.2.2.2.2.2.length)<|j6 ((zzi.wrap (a1.2.2.1-1)),(zzi.wrap (a1.2.1-a1.1)),r34)) (j6 (a1.2.2.1,(zzi.wrap (a1.2.1-a1.1)),a1.2.2.2.2.2))))
theorem zlf (fuel:Nat)(a b lim:Int)(l:List Time):z0g (fuel+1) a b lim l=outK (loopN (pBody fuel) fuel (a,b,lim,true,true,l)) (fun _=>none) (fun x=>some x):=rfl
def qD (a b lim:Nat)(wb wp:Bool)(pivot:Nat)(d:Array Time):Array Time:=
 if a>0 && !ltT d[a-1]! d[pivot]! then
  match Sort.partitionEqual ltT d a b pivot with
  |(mid,d4)=>if _h:a<mid∧mid≤b then Sort.pdq ltT d4 mid b lim wb wp else d4
 else
  match Sort.partition ltT d a b pivot with
  |(mid,alreadyPartitioned,d4)=>
   if _h:a≤mid∧mid<b then
    if mid-a<b-mid then
     Sort.pdq ltT (Sort.pdq ltT d4 a mid lim true true) (mid+1) b lim (decide (mid-a≥(b-a) / 8)) alreadyPartitioned
    else
     Sort.pdq ltT (Sort.pdq ltT d4 (mid+1) b lim true true) a mid lim (decide (b-mid≥(b-a) / 8)) alreadyPartitioned
   else d4
def qC (a b lim:Nat)(wb wp:Bool)(pivot:Nat)(hint:Sort.Hint)(d:Array Time):Array Time:=
 let pi:=if wb && wp && hint= .increasing then Sort.partialInsertionSort ltT d a b else(d,false)
 if pi.2 then pi.1 else qD a b lim wb wp pivot pi.1
def qB (a b lim:Nat)(wb wp:Bool)(d:Array Time):Array Time:=
 let c:=Sort.choosePivot ltT d a b
 if c.2= .decreasing then qC a b lim wb wp ((b-1)-(c.1-a)) .increasing (Sort.reverseRange d a b)else qC a b lim wb wp c.1 c.2 d
theorem zlg (d:Array Time)(a b lim:Nat)(wb wp:Bool):Sort.pdq ltT d a b lim wb wp=
 if b-a≤12 then Sort.insertionSort ltT d a b else if lim=0 then Sort.heapSort ltT d a b else
  (if wb then qB a b lim wb wp d else qB a b (lim-1) wb wp (Sort.breakPatterns d a b)):=by
 rw[Sort.pdq];by_cases h1:b-a≤12
 ·rw[if_pos h1,if_pos h1]
 ·rw[if_neg h1,if_neg h1];by_cases h2:lim=0
  ·rw[if_pos h2,if_pos h2]
  ·rw[if_neg h2,if_neg h2];cases wb
   ·simp only[Bool.not_false,if_true];unfold qB;dsimp only;by_cases h3:(Sort.choosePivot ltT (Sort.breakPatterns d a b) a b).2= .decreasing
    ·simp only[if_pos h3];rfl
    ·simp only[if_neg h3];rfl
   ·simp only[Bool.not_true,Bool.false_eq_true,if_false,if_true];unfold qB;dsimp only;by_cases h3:(Sort.choosePivot ltT d a b).2= .decreasing
    ·simp only[if_pos h3];rfl
    ·simp only[if_neg h3];rfl
theorem zd2 {α:Type}[Inhabited α](p:α→Bool)(d:Array α)(i:Nat): ∀(j:Nat),i≤j+1→i≤Sort.scanDown p d i j+1
 |0,h=>h
 |j+1,h=>by
  unfold Sort.scanDown;split
  ·rename_i hc
   have:i≤j+1:=by simp at hc;exact hc.1
   exact zd2 p d i j this
  ·exact h
theorem zi1 {α:Type}[Inhabited α](p:α→Bool)(d:Array α)(j:Nat): ∀(n i:Nat),j+1-i≤n→Sort.scanUp p d j i≤j→p d[Sort.scanUp p d j i]! =false:=by
 intro n;induction n with
 |zero=>
  intro i hn h;rw[Sort.scanUp]at h ⊢;split at h
  ·rename_i hc;simp at hc;omega
  ·omega
 |succ n ih=>
  intro i hn h;rw[Sort.scanUp]at h ⊢;split at h
  ·rename_i hc
   rw[if_pos hc];exact ih (i+1) (by omega) h
  ·rename_i hc
   rw[if_neg hc];simp at hc;exact hc h
theorem zbl {α:Type}[Inhabited α](p:α→Bool)(d:Array α)(i:Nat): ∀(j:Nat),i≤Sort.scanDown p d i j→1≤i→p d[Sort.scanDown p d i j]! =false
 |0,h,h1=>by have:Sort.scanDown p d i 0=0:=rfl;omega
 |j+1,h,h1=>by
  unfold Sort.scanDown at h ⊢;split at h
  ·rename_i hc
   rw[if_pos hc];exact zbl p d i j h h1
  ·rename_i hc
   rw[if_neg hc];simp at hc;exact hc h
theorem zlj {α:Type}[Inhabited α](p q:α→Bool)(hq: ∀x,q x= !p x)(d:Array α)(i j:Nat):1≤i→Sort.scanUp p d j i≠Sort.scanDown q d (Sort.scanUp p d j i) j:=fun hi e=>by
 have u:=z3y p d j _ i (zz9 _);have v:=z2a q d (Sort.scanUp p d j i) j
 have h1:=zi1 p d j _ i (zz9 _) (by omega);have h2:=zbl q d (Sort.scanUp p d j i) j (by omega) (by omega)
 rw[←e,hq,h1]at h2;cases h2
theorem zec {a:Nat}: ∀(n i j:Nat) (d:Array Time),j+1-i≤n→1≤i→i≤j+1→j<d.size→i≤(Sort.partEqLoop ltT a i j d).1∧(Sort.partEqLoop ltT a i j d).1≤j+1∧(Sort.partEqLoop ltT a i j d).2.size=d.size:=by
 intro n;induction n with
 |zero=>
  intro i j d hn hi hi2 hj;have u:=(z3y (fun x=> !ltT d[a]! x) d j _ i (zz9 _))
  have v:=z2a (fun x=>ltT d[a]! x) d (Sort.scanUp (fun x=> !ltT d[a]! x) d j i) j;rw[z6o,if_pos (by omega)];exact⟨u.2,by show Sort.scanUp _ _ _ _≤_;omega,rfl⟩
 |succ n ih=>
  intro i j d hn hi hi2 hj;have u:=(z3y (fun x=> !ltT d[a]! x) d j _ i (zz9 _))
  have v:=z2a (fun x=>ltT d[a]! x) d (Sort.scanUp (fun x=> !ltT d[a]! x) d j i) j;have w:=zd2 (fun x=>ltT d[a]! x) d (Sort.scanUp (fun x=> !ltT d[a]! x) d j i) j
  have hno:=zlj (fun x=> !ltT d[a]! x) (fun x=>ltT d[a]! x) (fun x=>by simp) d i j;rw[z6o];generalize Sort.scanUp (fun x=> !ltT d[a]! x) d j i=i2 at*;generalize Sort.scanDown (fun x=>ltT d[a]! x) d i2 j=j2 at*;by_cases hc:i2>j2
  ·rw[if_pos hc];exact⟨u.2,by show i2≤_;omega,rfl⟩
  ·rw[if_neg hc];have:=ih (i2+1) (j2-1) (Sort.swp d i2 j2) (by omega) (by omega) (by omega) (by rw[z19];omega);rw[z19]at this;omega
end Go.Av
namespace Go.Av
open Go
theorem z8x {x y:Time}:ltT x y=true↔x.epoch<y.epoch∨(x.epoch=y.epoch∧(x.loop.1<y.loop.1∨(x.loop.1=y.loop.1∧x.loop.2<y.loop.2))):=by
 unfold ltT cmpT;rw[decide_eq_true_eq]
 repeat' split
 all_goals omega
theorem swoT:Sort.SWO ltT where
 irrefl x:=by
  cases h:ltT x x with
  |false=>rfl
  |true=>rw[z8x]at h;omega
 trans x y z h1 h2:=by
  rw[z8x]at*;omega
 ntrans x y z h1 h2:=by
  rw[←Bool.not_eq_true,z8x]at*;omega
theorem zhw (a b:Nat): ∀(n i:Nat) (d:Array Time),b-i≤n→(Sort.insOuter ltT a b i d).size=d.size:=by
 intro n;induction n with
 |zero=>intro i d hn;rw[Sort.insOuter,if_neg (by omega)]
 |succ n ih=>
  intro i d hn;rw[Sort.insOuter];split
  ·rw[ih _ _ (by omega),za3]
  ·rfl
theorem zgt (a b:Nat)(d:Array Time):(Sort.insertionSort ltT d a b).size=d.size:=zhw a b b _ d (by omega)
theorem ze6 (first:Nat): ∀(k:Nat) (d:Array Time),(Sort.heapPop ltT first k d).size=d.size
 |0,d=>rfl
 |k+1,d=>by unfold Sort.heapPop;rw[ze6 first k,z91,z19]
theorem zhv (a b:Nat)(d:Array Time):(Sort.heapSort ltT d a b).size=d.size:=by unfold Sort.heapSort;rw[ze6,z9c]
theorem zbk (a b:Nat): ∀(s i:Nat) (d:Array Time),(Sort.partialIns ltT a b s i d).1.size=d.size
 |0,i,d=>rfl
 |s+1,i,d=>by
  rw[zai];split
  ·rfl
  ·split
   ·rfl
   ·rw[zbk a b s,zb2]
def zek (F g:Nat)(o:Option (Ctl PdqS (List Time)))(q:Array Time):Prop:=(∃s,o=some (.next s)∧loopN (pBody F) g s=some (.ret q.toList))∨o=some (.ret q.toList)
def PdqOk (m:Nat):Prop:= ∀(F g a b lim:Nat) (wb wp:Bool) (d:Array Time),b-a<m→a≤b→b≤d.size→d.size<1152921504606846976→lim<1152921504606846976→b-a<g→d.size+(b-a)+20<F→
 loopN (pBody F) g ((a:Int),(b:Int),(lim:Int),wb,wp,d.toList)=some (.ret (Sort.pdq ltT d a b lim wb wp).toList)∧(Sort.pdq ltT d a b lim wb wp).size=d.size
theorem PdqOk.call {m:Nat}(h:PdqOk m){F a b lim:Nat}{d:Array Time}(hm:b-a<m)(hab:a≤b)(hb:b≤d.size)(hd:d.size<1152921504606846976)(hl:lim<1152921504606846976)(hf:d.size+(b-a)+21<F):
 z0g F (a:Int) (b:Int) (lim:Int) d.toList=some (Sort.pdq ltT d a b lim true true).toList∧(Sort.pdq ltT d a b lim true true).size=d.size:=by
 cases F with
 |zero=>omega
 |succ F=>
  obtain⟨h1,h2⟩:=h F F a b lim true true d hm hab hb hd hl (by omega) (by omega);rw[zlf,h1];exact⟨rfl,h2⟩
theorem zk3 {F g a b lim pivot:Nat}{wb wp:Bool}{d:Array Time}(ih:PdqOk (b-a))(hab:a+12<b)(hp:a≤pivot∧pivot<b)(hb:b≤d.size)(hd:d.size<1152921504606846976)(hl:lim<1152921504606846976)(hg:b-a≤g)(hF:d.size+(b-a)+20<F):
 zek F g (pK10 F (a:Int) (b:Int) (lim:Int) ((b-a:Nat):Int) (pivot:Int) wb wp d.toList) (qD a b lim wb wp pivot d)∧(qD a b lim wb wp pivot d).size=d.size:=by
 have e8:zzi.wrap (((b-a:Nat):Int).tdiv 8)=(((b-a) / 8:Nat):Int):=by rw[Int.tdiv_eq_ediv_of_nonneg (by omega),z1n (by omega) (by omega)];omega
 have hK:pK10 F (a:Int) (b:Int) (lim:Int) ((b-a:Nat):Int) (pivot:Int) wb wp d.toList=pK12 F (a:Int) (b:Int) (lim:Int) ((b-a:Nat):Int) (pivot:Int) wb wp d.toList (a>0 && !ltT d[a-1]! d[pivot]!):=by
  unfold pK10;simp only[jn_eq];by_cases h0:0<a
  ·rw[decide_eq_true (show(0:Int)<(a:Int)by omega),z2f,wsub1 (by omega) (by omega)];simp(disch:=omega) only[zz7,zz6,z07,zz2,z26,zz0,z1w];rw[decide_eq_true h0,Bool.true_and];rfl
  ·rw[decide_eq_false (show ¬(0:Int)<(a:Int)by omega),z0s,decide_eq_false h0,Bool.false_and]
 rw[hK];unfold qD;cases hx:(a>0 && !ltT d[a-1]! d[pivot]!)with
 |true=>
  simp only[if_true];unfold pK12;rw[z2f,zcs hp (by omega) hb hd (by omega),zz0];have hr:=zec (a:=a) _ (a+1) (b-1) (Sort.swp d a pivot) (zz9 _) (by omega) (by omega) (by rw[z19];omega)
  rw[z19]at hr;have he:Sort.partEqLoop ltT a (a+1) (b-1) (Sort.swp d a pivot)=Sort.partitionEqual ltT d a b pivot:=rfl
  rw[he]at hr;generalize Sort.partitionEqual ltT d a b pivot=r at*;obtain⟨mid,d4⟩:=r;simp only at hr ⊢;rw[dif_pos (by omega),z07 (by rw[zz2,zz2];omega)];obtain⟨h1,h2⟩:=ih F g mid b lim wb wp d4 (by omega) (by omega) (by omega) (by omega) hl (by omega) (by omega);exact⟨.inl ⟨_,rfl,h1⟩,by omega⟩
 |false=>
  simp only[Bool.false_eq_true,if_false];unfold pK12;rw[z0s,zh2 hp (by omega) hb hd (by omega),zz0,e8];obtain⟨g1,g2,g3,_,_⟩:=Sort.partition_holds ltT swoT d a b pivot hp.1 hp.2 hb;have g3:=g3.1
  generalize Sort.partition ltT d a b pivot=r at*;obtain⟨mid,ap,d4⟩:=r;simp only at g1 g2 g3 ⊢;have w1:zzi.wrap ((mid:Int)-(a:Int))=((mid-a:Nat):Int):=wsub (by omega) (by omega)
  have w2:zzi.wrap ((b:Int)-(mid:Int))=((b-mid:Nat):Int):=wsub (by omega) (by omega);have w3:zzi.wrap ((mid:Int)+1)=((mid+1:Nat):Int):=wadd1 (by omega)
  rw[dif_pos ⟨g1,g2⟩,z07 (by rw[zz2,zz2];omega),w1,w2,w3,z0m];by_cases hc:mid-a<b-mid
  ·rw[if_pos hc,if_pos (by omega)];obtain⟨c1,c2⟩:=ih.call (F:=F) (a:=a) (b:=mid) (lim:=lim) (d:=d4) (by omega) (by omega) (by omega) (by omega) hl (by omega);rw[c1,zz0,z07 (by rw[zz2,zz2];omega)];generalize Sort.pdq ltT d4 a mid lim true true=d5 at*;obtain⟨h1,h2⟩:=ih F g (mid+1) b lim (decide (mid-a≥(b-a) / 8)) ap d5 (by omega) (by omega) (by omega) (by omega) hl (by omega) (by omega);refine⟨.inl ⟨_,rfl,?_⟩,by omega⟩;have e:decide ((((b-a) / 8:Nat):Int)≤((mid-a:Nat):Int))=decide (mid-a≥(b-a) / 8):=by
    rw[Bool.eq_iff_iff];simp only[decide_eq_true_eq];omega
   rw[e];exact h1
  ·rw[if_neg hc,if_neg (by omega)];obtain⟨c1,c2⟩:=ih.call (F:=F) (a:=mid+1) (b:=b) (lim:=lim) (d:=d4) (by omega) (by omega) (by omega) (by omega) hl (by omega);rw[c1,zz0,z07 (by rw[zz2,zz2];omega)];generalize Sort.pdq ltT d4 (mid+1) b lim true true=d5 at*;obtain⟨h1,h2⟩:=ih F g a mid lim (decide (b-mid≥(b-a) / 8)) ap d5 (by omega) (by omega) (by omega) (by omega) hl (by omega) (by omega);refine⟨.inl ⟨_,rfl,?_⟩,by omega⟩;have e:decide ((((b-a) / 8:Nat):Int)≤((b-mid:Nat):Int))=decide (b-mid≥(b-a) / 8):=by
    rw[Bool.eq_iff_iff];simp only[decide_eq_true_eq];omega
   rw[e];exact h1
theorem zk2 {F g a b lim pivot:Nat}{hint:Sort.Hint}{wb wp:Bool}{d:Array Time}(ih:PdqOk (b-a))(hab:a+12<b)(hp:a≤pivot∧pivot<b)(hb:b≤d.size)(hd:d.size<1152921504606846976)(hl:lim<1152921504606846976)(hg:b-a≤g)(hF:d.size+(b-a)+20<F):
 zek F g (pK8 F (a:Int) (b:Int) (lim:Int) ((b-a:Nat):Int) wb wp (pivot:Int) (hintN hint) d.toList) (qC a b lim wb wp pivot hint d)∧(qC a b lim wb wp pivot hint d).size=d.size:=by
 have hK:pK8 F (a:Int) (b:Int) (lim:Int) ((b-a:Nat):Int) wb wp (pivot:Int) (hintN hint) d.toList=if wb && wp && hint= .increasing then((z0h F (a:Int) (b:Int) d.toList).bind fun r30=>need (r30.2.length=d.toList.length)<|bf r30.1 (some (.ret r30.2)) (pK10 F (a:Int) (b:Int) (lim:Int) ((b-a:Nat):Int) (pivot:Int) wb wp r30.2))else pK10 F (a:Int) (b:Int) (lim:Int) ((b-a:Nat):Int) (pivot:Int) wb wp d.toList:=by
  unfold pK8;cases wb<;>cases wp<;>cases hint<;>simp[jn,bf,hintN]
 rw[hK];unfold qC;dsimp only;by_cases hc:(wb && wp && decide (hint= .increasing))=true
 ·rw[if_pos hc,if_pos hc,z9l (by omega) hb hd (by omega),zz0];have hsz:(Sort.partialInsertionSort ltT d a b).1.size=d.size:=zbk a b 5 _ d;generalize Sort.partialInsertionSort ltT d a b=r at*;obtain⟨d3,x⟩:=r;simp only at hsz ⊢;rw[z07 (by rw[zz2,zz2];omega)];cases x with
  |true=>exact⟨.inr rfl,hsz⟩
  |false=>
   simp only[z0s,Bool.false_eq_true,if_false];have:=zk3 (F:=F) (g:=g) (lim:=lim) (pivot:=pivot) (wb:=wb) (wp:=wp) (d:=d3) ih hab hp (by omega) (by omega) hl hg (by omega)
   exact⟨this.1,by omega⟩
 ·rw[if_neg hc,if_neg hc];simp only[Bool.false_eq_true,if_false];exact zk3 ih hab hp hb hd hl hg hF
theorem zk1 {F g a b lim:Nat}{wb wp:Bool}{d:Array Time}(ih:PdqOk (b-a))(hab:a+12<b)(hb:b≤d.size)(hd:d.size<1152921504606846976)(hl:lim<1152921504606846976)(hg:b-a≤g)(hF:d.size+(b-a)+20<F):
 zek F g (pK5 F (a:Int) (b:Int) wb wp (lim:Int) ((b-a:Nat):Int) d.toList) (qB a b lim wb wp d)∧(qB a b lim wb wp d).size=d.size:=by
 unfold pK5 qB;rw[choosePivot_eq (by omega) hb hd,zz0];obtain⟨p1,p2⟩:=Sort.choosePivot_holds ltT d a b (by omega);generalize Sort.choosePivot ltT d a b=c at*;obtain⟨pivot,hint⟩:=c;simp only[jn_eq]at p1 p2 ⊢;by_cases hc:hint= .decreasing
 ·subst hc;have hsz:=(Sort.reverseRange_holds d a b (by omega) hb).1
  rw[decide_eq_true (show hintN Sort.Hint.decreasing=2 from rfl),z2f,zed (by omega) hb hd (by omega),zz0,z07 (by rw[zz2,zz2];exact hsz)];have w1:zzi.wrap ((b:Int)-1)=((b-1:Nat):Int):=wsub1 (by omega) (by omega);have w2:zzi.wrap ((pivot:Int)-(a:Int))=((pivot-a:Nat):Int):=wsub (by omega) (by omega)
  have w3:zzi.wrap (((b-1:Nat):Int)-((pivot-a:Nat):Int))=(((b-1)-(pivot-a):Nat):Int):=wsub (by omega) (by omega);rw[w1,w2,w3];simp only[if_true];have:=zk2 (F:=F) (g:=g) (lim:=lim) (pivot:=(b-1)-(pivot-a)) (hint:= .increasing) (wb:=wb) (wp:=wp) (d:=Sort.reverseRange d a b) ih hab (by omega) (by omega) (by omega) hl hg (by omega)
  exact⟨this.1,this.2.trans hsz⟩
 ·have hn:hintN hint≠2:=by cases hint<;>simp[hintN]at*
  rw[decide_eq_false hn,z0s,if_neg hc];exact zk2 ih hab ⟨p1,p2⟩ hb hd hl hg hF
theorem pdqOk: ∀m,PdqOk m:=by
 intro m;induction m with
 |zero=>intro F g a b lim wb wp d h;omega
 |succ m ihm=>
  intro F g a b lim wb wp d hm hab hb hd hl hg hF;have ih:PdqOk (b-a):=fun F' g' a' b' lim' wb' wp' d' h=>ihm F' g' a' b' lim' wb' wp' d' (by omega)
  cases g with
  |zero=>omega
  |succ g=>
   have e0:zzi.wrap ((b:Int)-(a:Int))=((b-a:Nat):Int):=wsub (by omega) (by omega);rw[zlg];by_cases h1:b-a≤12
   ·rw[if_pos h1];refine⟨?_,zgt a b d⟩;rw[z7a (r:=(Sort.insertionSort ltT d a b).toList)];unfold pBody;simp only[e0];rw[decide_eq_true (by omega),z2f,zgs hb (by omega) (by omega) (by omega),zz0]
   ·rw[if_neg h1];by_cases h2:lim=0
    ·rw[if_pos h2];refine⟨?_,zhv a b d⟩;rw[z7a (r:=(Sort.heapSort ltT d a b).toList)];unfold pBody;simp only[e0];rw[decide_eq_false (by omega),z0s,decide_eq_true (by omega),z2f,zhu (by omega) hb hd (by omega),zz0]
    ·rw[if_neg h2];have fin: ∀q:Array Time,zek F g (pBody F ((a:Int),(b:Int),(lim:Int),wb,wp,d.toList)) q→loopN (pBody F) (g+1) ((a:Int),(b:Int),(lim:Int),wb,wp,d.toList)=some (.ret q.toList):=fun q hq=>by
      rcases hq with⟨s,h3,h4⟩|h3
      ·rw[z20 h3,h4]
      ·rw[z7a h3]
     cases wb with
     |true=>
      simp only[if_true];have hB:pBody F ((a:Int),(b:Int),(lim:Int),true,wp,d.toList)=pK5 F (a:Int) (b:Int) true wp (lim:Int) ((b-a:Nat):Int) d.toList:=by
       unfold pBody;simp only[e0,jn_eq];rw[decide_eq_false (by omega),z0s,decide_eq_false (by omega),z0s,Bool.not_true,z0s]
      have:=zk1 (F:=F) (g:=g) (a:=a) (b:=b) (lim:=lim) (wb:=true) (wp:=wp) (d:=d) ih (by omega) hb hd hl (by omega) hF;exact⟨fin _ (by rw[hB];exact this.1),this.2⟩
     |false=>
      simp only[Bool.false_eq_true,if_false];have hsz:=(Sort.breakPatterns_holds d a b hab hb).1
      have hB:pBody F ((a:Int),(b:Int),(lim:Int),false,wp,d.toList)=pK5 F (a:Int) (b:Int) false wp ((lim-1:Nat):Int) ((b-a:Nat):Int) (Sort.breakPatterns d a b).toList:=by
       unfold pBody;simp only[e0,jn_eq];rw[decide_eq_false (by omega),z0s,decide_eq_false (by omega),z0s,Bool.not_false,z2f,zd8 (by omega) hb hd (by omega),zz0,z07 (by rw[zz2,zz2];exact hsz),wsub1 (by omega) (by omega)]
      have:=zk1 (F:=F) (g:=g) (a:=a) (b:=b) (lim:=lim-1) (wb:=false) (wp:=wp) (d:=Sort.breakPatterns d a b) ih (by omega) (by omega) (by omega) (by omega) (by omega) (by omega);exact⟨fin _ (by rw[hB];exact this.1),this.2.trans hsz⟩
theorem zi4 {fuel:Nat}{l:List Time}(hl:l.length<1152921504606846976)(hf:2*l.length+30<fuel):
 z0j fuel l=some (Sort.sort ltT l.toArray).toList:=by
 unfold z0j;have e:zzu.wrap (l.length:Int)=(l.length:Int):=uwrap (k:= .u64) rfl (show l.length<2^64 by omega)
 rw[e,zjk (by omega),zz0];have hL:Sort.bitsLen l.length≤60:=zdv hl;have:=((pdqOk (l.length+1)).call (F:=fuel) (a:=0) (b:=l.length) (lim:=Sort.bitsLen l.length) (d:=l.toArray) (by omega) (by omega) (by simp) (by simpa using hl) (by omega) (by simp;omega)).1
 rw[show((0:Nat):Int)=0 from rfl,List.toList_toArray]at this;rw[this,zz0];unfold Sort.sort;rw[List.size_toArray]
end Go.Av
namespace Go.Av
open Go
theorem zl5 {x y:Time}:z6x x y=true↔x=y:=by
 constructor
 ·intro h;simp only[z6x,Bool.and_eq_true,decide_eq_true_eq,Bool.and_true]at h;exact Time.ext' h.1 h.2.1 h.2.2
 ·rintro rfl;exact zhq x
theorem zl8 {a b:Time}(h:leT a b=true)(g:leT b a=true):a=b:=zl5.1 (zkl h g)
theorem zgx {a b:Time}(h:leT a b=true):ltT b a=false:=by
 cases e:ltT b a with
 |false=>rfl
 |true=>rw[zez]at h;rw[z8x]at e;omega
theorem lt_or {a b:Time}(h:ltT b a=false)(hne:a≠b):ltT a b=true:=by
 cases e:ltT a b with
 |true=>rfl
 |false=>
  refine absurd ?_ hne;rw[←Bool.not_eq_true,z8x]at h e;exact Time.ext' (by omega) (by omega) (by omega)
theorem zjl {a:Time}:ltT a a=false:=swoT.irrefl a
theorem zko {a b:Time}(h:ltT a b=true):ltT b a=false:=by
 cases e:ltT b a with
 |false=>rfl
 |true=>rw[z8x]at h e;omega
structure IsF (l f:List Time):Prop where
 sorted:f.Pairwise fun x y=>ltT x y=true
 sub: ∀x∈f,x∈l
 below: ∀y∈l,∃u∈f,leT u y=true
 least: ∀x∈f,∀y∈l,leT y x=true→y=x
theorem IsF.mem {l f:List Time}(h:IsF l f)(x:Time):x∈f↔x∈l∧ ∀y∈l,leT y x=true→y=x:=by
 constructor
 ·exact fun hx=>⟨h.sub x hx,h.least x hx⟩
 ·rintro⟨hx,hm⟩;obtain⟨u,hu,hle⟩:=h.below x hx;rw[←hm u (h.sub u hu) hle];exact hu
theorem zej: ∀{f g:List Time},f.Pairwise (fun x y=>ltT x y=true)→g.Pairwise (fun x y=>ltT x y=true)→(∀x,x∈f↔x∈g)→f=g
 |[],[],_,_,_=>rfl
 |[],y::g,_,_,h=>by have:=(h y).2 (zz5 ..);cases this
 |x::f,[],_,_,h=>by have:=(h x).1 (zz5 ..);cases this
 |x::f,y::g,hf,hg,h=>by
  rw[List.pairwise_cons]at hf hg;have hxy:x=y:=by
   rcases List.mem_cons.1 ((h x).1 (zz5 ..))with e|hx
   ·exact e
   ·rcases List.mem_cons.1 ((h y).2 (zz5 ..))with e|hy
    ·exact e.symm
    ·have h1:=hg.1 x hx;have h2:=hf.1 y hy
     rw[zko h1]at h2;cases h2
  subst hxy;have hr:f=g:=zej hf.2 hg.2 (fun z=>by
   constructor
   ·intro hz;rcases List.mem_cons.1 ((h z).1 (zz8 _ hz))with e|hz2
    ·subst e;have:=hf.1 z hz
     rw[zjl]at this;cases this
    ·exact hz2
   ·intro hz;rcases List.mem_cons.1 ((h z).2 (zz8 _ hz))with e|hz2
    ·subst e;have:=hg.1 z hz
     rw[zjl]at this;cases this
    ·exact hz2)
  rw[hr]
theorem IsF.uniq {l f g:List Time}(h:IsF l f)(h2:IsF l g):f=g:=
 zej h.sorted h2.sorted fun x=>by rw[h.mem,h2.mem]
theorem IsF.congr {l m f:List Time}(h:IsF l f)(e: ∀x,x∈l↔x∈m):IsF m f:=
 ⟨h.sorted,fun x hx=>(e x).1 (h.sub x hx),fun y hy=>h.below y ((e y).2 hy),fun x hx y hy=>h.least x hx y ((e y).2 hy)⟩
theorem IsF.step {p f:List Time}{t:Time}(h:IsF p f)(hs: ∀x∈p,ltT t x=false):IsF (p++[t]) (if f.any (fun u=>leT u t)then f else f++[t]):=by
 by_cases hc:f.any (fun u=>leT u t)=true
 ·rw[if_pos hc];obtain⟨u,hu,hut⟩:=List.any_eq_true.1 hc;refine⟨h.sorted,fun x hx=>zzh.2 (.inl (h.sub x hx)),?_,?_⟩
  ·intro y hy;rcases zzh.1 hy with hy|hy
   ·exact h.below y hy
   ·rw[zzf.1 hy];exact⟨u,hu,hut⟩
  ·intro x hx y hy hle;rcases zzh.1 hy with hy|hy
   ·exact h.least x hx y hy hle
   ·rw[zzf.1 hy]at hle ⊢;have hux:=h.least x hx u (h.sub u hu) (zfn hut hle)
    subst hux;exact zl8 hle hut
 ·rw[if_neg hc];have hno: ∀u∈f,leT u t=false:=fun u hu=>by
   cases e:leT u t with
   |false=>rfl
   |true=>exact absurd (List.any_eq_true.2 ⟨u,hu,e⟩) hc
  have hnp: ∀y∈p,leT y t=false:=fun y hy=>by
   obtain⟨u,hu,hle⟩:=h.below y hy;cases e:leT y t with
   |false=>rfl
   |true=>have:=zfn hle e;rw[hno u hu]at this;cases this
  refine⟨?_,?_,?_,?_⟩
  ·rw[List.pairwise_append];refine⟨h.sorted,by simp,fun x hx y hy=>?_⟩;rw[zzf.1 hy];refine lt_or (hs x (h.sub x hx)) (fun e=>?_);subst e;have:=hno x hx
   rw[zde]at this;cases this
  ·intro x hx;rcases zzh.1 hx with hx|hx
   ·exact zzh.2 (.inl (h.sub x hx))
   ·exact zzh.2 (.inr hx)
  ·intro y hy;rcases zzh.1 hy with hy|hy
   ·obtain⟨u,hu,hle⟩:=h.below y hy;exact⟨u,zzh.2 (.inl hu),hle⟩
   ·exact⟨y,zzh.2 (.inr hy),zde y⟩
  ·intro x hx y hy hle;rcases zzh.1 hx with hx|hx
   ·rcases zzh.1 hy with hy|hy
    ·exact h.least x hx y hy hle
    ·rw[zzf.1 hy]at hle ⊢;have h1:=hs x (h.sub x hx)
     have h2:=zgx hle;by_cases e:t=x
     ·exact e
     ·have:=lt_or h1 (fun h=>e h.symm);rw[h2]at this;cases this
   ·rw[zzf.1 hx]at hle ⊢;rcases zzh.1 hy with hy|hy
    ·rw[hnp y hy]at hle;cases hle
    ·exact zzf.1 hy
def zc8 (l:List Time):List Time:=l.foldl (fun f t=>if f.any (fun u=>leT u t)then f else f++[t]) []
theorem zji {l:List Time}(h:l.Pairwise fun x y=>ltT y x=false):IsF l (zc8 l):=by
 have key: ∀(r p f:List Time),IsF p f→(p++r).Pairwise (fun x y=>ltT y x=false)→IsF (p++r) (r.foldl (fun f t=>if f.any (fun u=>leT u t)then f else f++[t]) f):=by
  intro r;induction r with
  |nil=>intro p f hf _;rw[List.append_nil];exact hf
  |cons t r ih=>
   intro p f hf hp;rw[List.foldl_cons];have e:p++t::r=(p++[t])++r:=by simp
   rw[e]at hp ⊢;refine ih (p++[t]) _ (hf.step fun x hx=>?_) hp;rw[List.pairwise_append,List.pairwise_append]at hp;exact hp.1.2.2 x hx t (zzf.2 rfl)
 exact key l [] [] ⟨.nil,(fun x h=>nomatch h),(fun y h=>nomatch h),(fun x h=>nomatch h)⟩ h
def sortT (l:List Time):List Time:=(Sort.sort ltT l.toArray).toList
def zaf (l:List Time):List Time:=zc8 (sortT l)
theorem zb6 (l:List Time):(sortT l).Perm l:=by
 have h:=(Sort.sort_sorts ltT swoT l.toArray).1;obtain⟨h1,_,h3⟩:=h;have e1:(Sort.sort ltT l.toArray).extract 0 l.toArray.size=Sort.sort ltT l.toArray:=by rw[←h1];simp
 have e2:l.toArray.extract 0 l.toArray.size=l.toArray:=by simp
 rw[e1,e2]at h3;exact h3
theorem zhe (l:List Time):(sortT l).Pairwise fun x y=>ltT y x=false:=by
 have h:=Sort.sort_sorts ltT swoT l.toArray;rw[List.pairwise_iff_getElem];intro i j hi hj hij;have hsz:(Sort.sort ltT l.toArray).size=l.toArray.size:=h.1.1
 have hj':j<(Sort.sort ltT l.toArray).size:=by unfold sortT at hj;rw[zz2]at hj;exact hj
 have:=h.2 i j (Nat.zero_le _) hij (by omega);have ej:(sortT l)[j]=(Sort.sort ltT l.toArray)[j]'hj':=Array.getElem_toList _
 have ei:(sortT l)[i]=(Sort.sort ltT l.toArray)[i]'(by omega):=Array.getElem_toList _;rw[getElem!_pos _ j hj',getElem!_pos _ i (by omega)]at this;exact(congr (congrArg ltT ej) ei).trans this
theorem ze5 (l:List Time):IsF l (zaf l):=(zji (zhe l)).congr fun x=>(zb6 l).mem_iff
theorem zhd (l:List Time):(sortT l).length=l.length:=(zb6 l).length_eq
theorem zg2 (l:List Time):(zc8 l).length≤l.length:=by
 have key: ∀(r f:List Time),(r.foldl (fun f t=>if f.any (fun u=>leT u t)then f else f++[t]) f).length≤f.length+r.length:=by
  intro r;induction r with
  |nil=>intro f;exact zz9 _
  |cons t r ih=>
   intro f;rw[List.foldl_cons];refine Nat.le_trans (ih _) ?_;split
   ·rw[zzg];omega
   ·rw[zze,List.length_singleton,zzg];omega
 have:=key l [];rw[List.length_nil,zz6]at this;exact this
end Go.Av
namespace Go.Av
open Go
abbrev NN (l:List Time):Prop:= ∀x∈l,z3g x
theorem zdd {X:Type}[Inhabited X]{l:List X}{i:Nat}(h:i<l.length):l.getD i zzd∈l:=by
 rw[List.getD_eq_getElem?_getD,List.getElem?_eq_getElem h];exact List.getElem_mem h
theorem zfu {X:Type}[Inhabited X]{l:List X}{i:Nat}(h:i<l.length):l.take (i+1)=l.take i++[l.getD i zzd]:=by
 rw[List.take_add_one,List.getElem?_eq_getElem h,List.getD_eq_getElem?_getD,List.getElem?_eq_getElem h];rfl
theorem zjv {X R:Type}[Inhabited X]{B:Nat→Unit→Option (Ctl Unit R)}{l:List X}{p:X→Bool}{f:Nat→R}{Q:Type}{kn:Unit→Option Q}{kr:R→Option Q}{q:Option Q}
 (hB: ∀i u,i<l.length→B i u=if p (l.getD i zzd)=true then some (.ret (f i))else some (.next ()))
 (hn:l.any p=false→kn ()=q) (hr: ∀i,i<l.length→l.any p=true→kr (f i)=q):outK (z0n B l.length 0 ()) kn kr=q:=by
 have key: ∀k i,i+k=l.length→(l.take i).any p=false→outK (z0n B k i ()) kn kr=q:=by
  intro k;induction k with
  |zero=>
   intro i hi h;rw[List.take_of_length_le (by omega)]at h;exact hn h
  |succ k ih=>
   intro i hi h;simp only[z0n,hB i () (by omega)];by_cases hp:p (l.getD i zzd)=true
   ·rw[if_pos hp];exact hr i (by omega) (List.any_eq_true.2 ⟨_,zdd (by omega),hp⟩)
   ·rw[if_neg hp];refine ih (i+1) (by omega) ?_;rw[zfu (by omega),List.any_append,h]
    simpa using hp
 exact key l.length 0 (by omega) rfl
theorem zfd {f:List Time}{t:Time}(hf:NN f)(ht:z3g t):z38 f t=some (f.any fun u=>leT u t):=by
 unfold z38 z0d z0e;have h:(outK (z0n (S:=Unit) (R:=Int) (fun i1 (a2:Unit)=>(z5i (f.getD i1 zzd) t).bind fun r4=>bf r4 (some (.ret ((i1:Nat):Int))) (some (.next ()))) f.length 0 ()) (fun(a3:Unit)=>some (-1)) (fun x=>some x)).bind (fun r1=>some (decide (0≤r1)))=some (f.any fun u=>leT u t):=by
  have: ∀o:Option Int,(o.bind fun r1=>some (decide (0≤r1)))=o.map fun r1=>decide (0≤r1):=fun o=>by cases o<;>rfl
  rw[this];have hm: ∀(o:Option (Out Unit Int)),(outK o (fun(a3:Unit)=>some (-1)) (fun x=>some x)).map (fun r1=>decide (0≤r1))=outK o (fun _=>some false) (fun x=>some (decide (0≤x))):=fun o=>by
   cases o with
   |none=>rfl
   |some o=>cases o<;>rfl
  rw[hm];refine zjv (p:=fun u=>leT u t) (f:=fun i=>(i:Int)) ?_ (fun h=>by rw[h]) (fun i hi h=>by rw[h,decide_eq_true (by omega)]);intro i u hi;unfold z5i;rw[zge (hf _ (zdd hi)) ht];simp only[zz0];cases leT (f.getD i zzd) t<;>rfl
 rw[h];rfl
theorem zjj {l:List Time}(h:NN l):NN (zaf l):=fun x hx=>h x ((ze5 l).sub x hx)
theorem zkh {fuel:Nat}{l:List Time}(hl:NN l)(hz:l.length≤274877906944)(hf:2*l.length+30<fuel):z5z fuel l=some (zaf l):=by
 unfold z5z z1m;have hs:NN (sortT l):=fun x hx=>hl x ((zb6 l).mem_iff.1 hx)
 have hlen:=zhd l;rw[z07 hz,zz0,zi4 (by omega) hf,zz0];show need ((sortT l).length=l.length) _=_;rw[z07 hlen];rw[show(Sort.sort ltT l.toArray).toList=sortT l from rfl];unfold zaf zc8;generalize sortT l=s at*;rw[z9u (s.foldl (fun f t=>if f.any (fun u=>leT u t)then f else f++[t]) []) (fun i a=>a=(s.take i).foldl (fun f t=>if f.any (fun u=>leT u t)then f else f++[t]) []) (fun a h=>by rw[h,List.take_of_length_le (zz9 _)])]
 ·rfl
 ·rintro i a hi rfl;have hle:((s.take i).foldl (fun f t=>if f.any (fun u=>leT u t)then f else f++[t]) []).length≤i:=by
   have:=zg2 (s.take i);unfold zc8 at this;rw[List.length_take]at this;omega
  have hnn:NN ((s.take i).foldl (fun f t=>if f.any (fun u=>leT u t)then f else f++[t]) []):=by
   have key: ∀(r f:List Time),NN r→NN f→NN (r.foldl (fun f t=>if f.any (fun u=>leT u t)then f else f++[t]) f):=by
    intro r;induction r with
    |nil=>intro f _ h;exact h
    |cons t r ih=>
     intro f hr h;rw[List.foldl_cons];refine ih _ (fun x hx=>hr x (zz8 _ hx)) ?_;split
     ·exact h
     ·intro x hx;rcases zzh.1 hx with hx|hx
      ·exact h x hx
      ·rw[zzf.1 hx];exact hr t (zz5 ..)
   exact key _ _ (fun x hx=>hs x (List.mem_of_mem_take hx)) (fun x h=>nomatch h)
  refine⟨_,?_,rfl⟩;rw[zz6,z07 hi,zfd hnn (hs _ (zdd hi)),zz0,zfu hi,List.foldl_append,List.foldl_cons,List.foldl_nil];generalize (s.take i).foldl (fun f t=>if f.any (fun u=>leT u t)then f else f++[t]) []=f at*;cases hc:f.any (fun u=>leT u (s.getD i zzd))with
  |true=>simp only[Bool.not_true,z0s,if_true]
  |false=>
   rw[Bool.not_false,z2f,z07 (by rw[List.length_singleton];omega)];simp
 ·rfl
end Go.Av
namespace Go.Av
open Go
def IsK (n k:Nat):Prop:=1≤k∧k≤10∧n<128^k∧(1<k→128^(k-1)≤n)
theorem pow7 (i:Nat):2^(7*i)=128^i:=by rw[Nat.pow_mul]
theorem IsLen.k {n L:Nat}(h:IsLen n L)(hL:L≤64):IsK n (max 1 ((L+6) / 7)):=by
 obtain⟨h1,h2,h3⟩:=h;refine⟨by omega,by omega,?_,fun hk=>?_⟩
 ·refine Nat.lt_of_lt_of_le h1 ?_;rw[←pow7];exact Nat.pow_le_pow_right (by decide) (by omega)
 ·have hn:n≠0:=fun e=>by have:=h2 e;omega
  obtain⟨h4,h5⟩:=h3 hn;refine Nat.le_trans ?_ h4;rw[←pow7];exact Nat.pow_le_pow_right (by decide) (by omega)
def dg (n k i:Nat):Nat:=n / 128^i % 128+if i+1<k then 128 else 0
def cntL (n k:Nat):List Int:=(List.range k).map fun i=>((dg n k i:Nat):Int)
theorem dg_lt (n k i:Nat):dg n k i<256:=by unfold dg;split<;>omega
theorem zig {X:Type}(xs ys:List X)(y v:X):(xs++y::ys).set xs.length v=xs++v::ys:=by
 rw[List.set_append_right (h:=zz9 _),Nat.sub_self];rfl
theorem zh0 {n:Nat}(h:n<2^64): ∃k,IsK n k∧pack_Count (n:Int)=some (strOfNums (cntL n k)):=by
 obtain⟨L,e,hL,hL2⟩:=zgw h;refine⟨_,hL.k hL2,?_⟩;have hK:=hL.k hL2
 unfold pack_Count;rw[e,zz0];have e1:zzi.wrap ((zzi.wrap ((L:Int)+6)).tdiv 7)=(((L+6) / 7:Nat):Int):=by
  rw[z1n (n:=(L:Int)+6) (by omega) (by omega),Int.tdiv_eq_ediv_of_nonneg (by omega),z1n (by omega) (by omega)];omega
 have e2:(if 1<(((L+6) / 7:Nat):Int)then(((L+6) / 7:Nat):Int)else 1)=((max 1 ((L+6) / 7):Nat):Int):=by split<;>omega
 simp only[e1,e2];generalize max 1 ((L+6) / 7)=k at*;obtain⟨k1,k2,k3,k4⟩:=hK;have hlim:(lim:Int)=274877906944:=rfl
 rw[z07 (by omega),zz7,List.length_replicate];rw[z9u ((List.range k).map fun i=>((n / 128^i % 128+128:Nat):Int)) (fun i a=>a=((List.range i).map fun i=>((n / 128^i % 128+128:Nat):Int))++List.replicate (k-i) 0) (fun s h=>by rw[h,Nat.sub_self];simp)]
 ·simp only[z3x];have e3:zzi.wrap ((k:Int)-1)=((k-1:Nat):Int):=by rw[z1n (by omega) (by omega)];omega
  have hlen:((List.range k).map fun i=>((n / 128^i % 128+128:Nat):Int)).length=k:=by simp
  rw[e3,hlen,zz7,z07 (by omega),z07 (by omega),z07 (by omega),z07 (by omega)];congr 2;have hk:k=(k-1)+1:=by omega
  have hrng:(List.range k).map (fun i=>((n / 128^i % 128+128:Nat):Int))=(List.range (k-1)).map (fun i=>((n / 128^i % 128+128:Nat):Int))++[((n / 128^(k-1) % 128+128:Nat):Int)]:=by
   conv=>lhs;rw[hk,List.range_succ,List.map_append]
   rfl
  have hl2:((List.range (k-1)).map fun i=>((n / 128^i % 128+128:Nat):Int)).length=k-1:=by simp
  rw[hrng];have hget:(((List.range (k-1)).map fun i=>((n / 128^i % 128+128:Nat):Int))++[((n / 128^(k-1) % 128+128:Nat):Int)]).getD (0+(k-1)) zzd=((n / 128^(k-1) % 128+128:Nat):Int):=by
   rw[List.getD_eq_getElem?_getD,List.getElem?_append_right (by omega),hl2];simp
  rw[hget,zj8 (by omega)];have hset:=zig ((List.range (k-1)).map fun i=>((n / 128^i % 128+128:Nat):Int)) [] ((n / 128^(k-1) % 128+128:Nat):Int) (((n / 128^(k-1) % 128+128) % 128:Nat):Int);rw[hl2]at hset;rw[zz6,hset];unfold cntL
  conv=>rhs;rw[hk,List.range_succ,List.map_append]
  congr 1
  ·apply List.map_congr_left;intro i hi;have:=List.mem_range.1 hi
   unfold dg;rw[if_pos (by omega)]
  ·simp only[List.map_cons,List.map_nil];unfold dg;rw[if_neg (by omega)];congr 2;omega
 ·rintro i a hi rfl;refine⟨_,?_,rfl⟩;have hl3:(((List.range i).map fun i=>((n / 128^i % 128+128:Nat):Int))++List.replicate (k-i) (0:Int)).length=k:=by simp;omega
  have e4:zzi.wrap ((7:Int)*(i:Int))=((7*i:Nat):Int):=by rw[z1n (by omega) (by omega)];omega
  rw[hl3,e4,z07 (by omega),z07 (by omega),z07 (by omega),zz6];have e5:z09 .or .u8 (IntKind.u8.wrap (shrOp .u64 (n:Int) ((7*i:Nat):Int))) 128=((n / 128^i % 128+128:Nat):Int):=by
   rw[z90 .u64 n (7*i) (by show 7*i≤64;omega),pow7,zlr];have:(((n / 128^i:Nat):Int) % 256)=((n / 128^i % 256:Nat):Int):=by omega
   rw[this,or128 (by omega)];congr 1;omega
  rw[e5,show k-i=(k-(i+1))+1 by omega,List.replicate_succ];have hset:=zig ((List.range i).map fun i=>((n / 128^i % 128+128:Nat):Int)) (List.replicate (k-(i+1)) 0) (0:Int) ((n / 128^i % 128+128:Nat):Int);rw[List.length_map,List.length_range]at hset;rw[hset,List.range_succ,List.map_append];simp
 ·simp
theorem zf3 (a:List Int):(strOfNums a).size=a.length:=by simp[strOfNums,ByteArray.size]
theorem zlu {n k:Nat}(hK:IsK n k):n / 128^(k-1)<128:=by
 rw[Nat.div_lt_iff_lt_mul (Nat.pow_pos (by decide)),←Nat.pow_succ',show(k-1).succ=k by have:=hK.1;omega];exact hK.2.2.1
end Go.Av
namespace Go.Av
open Go
def tkC (s:ByteArray):Nat→Nat→Nat→Int×ByteArray×Int
 |0,_,_=>(0,bs [],3)
 |k+1,i,acc=>
  if(0<i∧z0w s i=0)∨(i=9∧1<z0w s i)then(0,bs [],4)
  else if z0w s i<128 then(((acc+z0w s i % 128*128^i:Nat):Int),s.extract (i+1) s.size,0)
  else tkC s k (i+1) (acc+z0w s i % 128*128^i)
theorem zf1 {i:Nat}(h:i≤9):128^i≤9223372036854775808:=by
 have:=Nat.pow_le_pow_right (n:=128) (by decide) h;have e:(128:Nat)^9=9223372036854775808:=by decide
 omega
theorem zfb {i acc b:Nat}(hi:i≤9)(ha:acc<128^i)(hb:b<256)(h9:i=9→b≤1):acc+b % 128*128^i<18446744073709551616:=by
 rcases Nat.lt_or_ge i 9 with h|h
 ·have h1:b % 128*128^i≤127*128^i:=Nat.mul_le_mul_right _ (by omega);have h2:=zf1 (show i+1≤9 by omega)
  rw[Nat.pow_succ]at h2;omega
 ·have h0:i=9:=by omega
  have h1:=h9 h0;have h2:=zf1 hi
  have h3:b % 128*128^i≤1*128^i:=Nat.mul_le_mul_right _ (by omega);omega
theorem zgd {i acc b:Nat}(ha:acc<128^i):acc+b % 128*128^i<128^(i+1):=by
 have h1:b % 128*128^i≤127*128^i:=Nat.mul_le_mul_right _ (by omega);rw[Nat.pow_succ];omega
theorem zm3 {i acc b:Nat}(hi:i≤9)(ha:acc<128^i)(hb:b<256)(h9:i=9→b≤1):
 z09 .or .u64 (acc:Int) (shlOp .u64 (zzu.wrap (z09 .and .u8 (b:Int) 127)) (zzi.wrap ((7:Int)*(i:Int))))=((acc+b % 128*128^i:Nat):Int):=by
 have hb2:=zfb hi ha hb h9;have e1:zzi.wrap ((7:Int)*(i:Int))=((7*i:Nat):Int):=by rw[z1n (by omega) (by omega)];omega
 have e2:zzu.wrap ((b % 128:Nat):Int)=((b % 128:Nat):Int):=uwrap (k:= .u64) rfl (show b % 128<2^64 by omega);rw[zj8 hb,e1,e2,zak (k:= .u64) _ _ (show 7*i≤64 by omega),pow7];have hp:=zf1 hi
 have e3:zzu.wrap ((b % 128*128^i:Nat):Int)=((b % 128*128^i:Nat):Int):=uwrap (k:= .u64) rfl (show b % 128*128^i<2^64 by omega);rw[e3,zm6 (k:= .u64) rfl (show acc<2^64 by omega) (show b % 128*128^i<2^64 by omega)];congr 1;rw[←pow7]at ha ⊢;rw[Nat.mul_comm,zm5 ha,Nat.add_comm]
theorem zg5 {s:ByteArray}(hs:s.size≤maxN){B:Nat→Int→Option (Ctl Int (Int×ByteArray×Int))}
 (hB: ∀i acc:Nat,i<s.size→i≤9→acc<128^i→B i (acc:Int)=if(0<i∧z0w s i=0)∨(i=9∧1<z0w s i)then some (.ret (0,bs [],4))
  else if z0w s i<128 then some (.ret (((acc+z0w s i % 128*128^i:Nat):Int),s.extract (i+1) s.size,0))else some (.next ((acc+z0w s i % 128*128^i:Nat):Int))):
 ∀(k i acc:Nat),i+k=s.size→i≤9→acc<128^i→outK (z0n B k i (acc:Int)) (fun(a3:Int)=>some (0,(bs []),3)) (fun x=>some x)=some (tkC s k i acc):=by
 intro k;induction k with
 |zero=>intro i acc hi h9 ha;rfl
 |succ k ih=>
  intro i acc hi h9 ha;simp only[z0n,hB i acc (by omega) h9 ha,tkC];by_cases h1:(0<i∧z0w s i=0)∨(i=9∧1<z0w s i)
  ·rw[if_pos h1,if_pos h1];rfl
  ·rw[if_neg h1,if_neg h1];by_cases h2:z0w s i<128
   ·rw[if_pos h2,if_pos h2];rfl
   ·rw[if_neg h2,if_neg h2];have h3:i≠9:=fun e=>h1 (.inr ⟨e,by omega⟩);exact ih (i+1) _ (by omega) (by omega) (zgd ha)
theorem z9k {s:ByteArray}(hs:s.size≤maxN):z47 s=some (tkC s s.size 0 0):=by
 unfold z47;rw[z07 hs];refine zg5 hs ?_ s.size 0 0 (by omega) (by omega) (by decide);intro i acc hi h9 ha;unfold maxN at hs;have hb:=zff s i
 rw[zfe];have e1:zzi.wrap ((7:Int)*(i:Int))=((7*i:Nat):Int):=by rw[z1n (by omega) (by omega)];omega
 have e2:zzi.wrap ((i:Int)+1)=((i+1:Nat):Int):=by rw[z1n (by omega) (by omega)];omega
 simp only[jn_eq];by_cases hc:(0<i∧z0w s i=0)∨(i=9∧1<z0w s i)
 ·rw[if_pos hc];rcases hc with⟨h1,h2⟩|⟨h1,h2⟩
  ·rw[decide_eq_true (by omega:0<(i:Int)),decide_eq_true (by omega:(z0w s i:Int)=0)];rfl
  ·rw[decide_eq_true (by omega:(i:Int)=9),decide_eq_true (by omega:1<(z0w s i:Int)),decide_eq_true (by omega:0<(i:Int)),decide_eq_false (by omega: ¬(z0w s i:Int)=0)];rfl
 ·rw[if_neg hc];have h9b:i=9→z0w s i≤1:=fun e=>by
   rcases Nat.lt_or_ge 1 (z0w s i)with h|h
   ·exact absurd (.inr ⟨e,h⟩) hc
   ·exact h
  rw[zm3 h9 ha hb h9b,e1,e2,zz7,z07 (by omega),z07 (by omega)];have fin:(bf (decide ((z0w s i:Int)<128)) (some (Ctl.ret (((acc+z0w s i % 128*128^i:Nat):Int),(s.extract (i+1) s.size),(0:Int)))) (some (.next ((acc+z0w s i % 128*128^i:Nat):Int))))=if z0w s i<128 then some (.ret (((acc+z0w s i % 128*128^i:Nat):Int),s.extract (i+1) s.size,0))else some (.next ((acc+z0w s i % 128*128^i:Nat):Int)):=by
   rw[z0m];by_cases h:z0w s i<128
   ·rw[if_pos h,if_pos (by omega)]
   ·rw[if_neg h,if_neg (by omega)]
  by_cases h1:0<i
  ·have h2:z0w s i≠0:=fun e=>hc (.inl ⟨h1,e⟩);rw[decide_eq_true (by omega:0<(i:Int)),decide_eq_false (by omega: ¬(z0w s i:Int)=0)];by_cases h3:i=9
   ·have:=h9b h3;rw[decide_eq_true (by omega:(i:Int)=9),decide_eq_false (by omega: ¬1<(z0w s i:Int))];simp only[z2f,z0s];exact fin
   ·rw[decide_eq_false (by omega: ¬(i:Int)=9)];simp only[z2f,z0s];exact fin
  ·rw[decide_eq_false (by omega: ¬0<(i:Int)),decide_eq_false (by omega: ¬(i:Int)=9)];simp only[z2f,z0s];exact fin
theorem z8i {s:ByteArray}: ∀{k i acc:Nat},i+k=s.size→i≤9→acc<128^i→tkC s k i acc=(0,bs [],3)∨tkC s k i acc=(0,bs [],4)∨ ∃n j:Nat,tkC s k i acc=((n:Int),s.extract j s.size,0)∧n<18446744073709551616∧j≤s.size
 |0,i,acc,_,_,_=> .inl rfl
 |k+1,i,acc,hi,h9,ha=>by
  have hb:=zff s i;simp only[tkC];by_cases h1:(0<i∧z0w s i=0)∨(i=9∧1<z0w s i)
  ·rw[if_pos h1];exact .inr (.inl rfl)
  ·rw[if_neg h1];have h9b:i=9→z0w s i≤1:=fun e=>by
    rcases Nat.lt_or_ge 1 (z0w s i)with h|h
    ·exact absurd (.inr ⟨e,h⟩) h1
    ·exact h
   by_cases h2:z0w s i<128
   ·rw[if_pos h2];exact .inr (.inr ⟨_,i+1,rfl,zfb h9 ha hb h9b,by omega⟩)
   ·rw[if_neg h2];have h3:i≠9:=fun e=>by have:=h9b e;omega
    exact z8i (by omega) (by omega) (zgd ha)
theorem zbh (s:ByteArray)(i j:Nat)(h:j≤s.size):(s.extract i j).size=j-i:=by rw[ByteArray.size_extract,Nat.min_eq_left h]
end Go.Av
