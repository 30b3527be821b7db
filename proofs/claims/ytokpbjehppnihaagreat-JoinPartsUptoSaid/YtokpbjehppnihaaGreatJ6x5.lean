import Derived.Test.YtokpbjehppnihaaGreatJ6x4
import Derived.Test.YtokpbjehppnihaaGreatProg
import Derived.Sort.LotD3
import Derived.Sort.LotD4
import Derived.Sort.LotA
import Derived.Sort.LotB
import Derived.Sort.LotC
import Derived.Sort.AssemblyPlain
set_option maxRecDepth 100000
set_option linter.unusedVariables false
set_option linter.unusedSimpArgs false
set_option linter.unusedSectionVars false
open Go.IntKind renaming i64→zzi, u64→zzu
open Inhabited renaming default→zzd
open Option renaming bind_some→zz0
open List renaming mem_append→zz2, mem_cons_self→zz4, mem_cons_of_mem→zz7, replicate→zz8, mem_singleton→zz9, mem_cons→zze, length_set→zzf, length_drop→zzg, length_append→zzj
open Nat renaming le_of_ble_eq_true→zz5, zero_add→zzb, le_refl→zzc
open Array renaming length_toList→zzh
open Int renaming toNat_natCast→zzk
namespace Go.Av
open Go Go.Proofs
theorem zh1 {fuel:Nat}{p0:List Time}{p1:List (List Update)}{q:Batch×Int}(h:zbn fuel p0 p1=some q):
 Summ Tryz.prog 82 [cD (lD 3 z04 p0),cD (lD 1 (fun xs=>[encL 6 z01 xs]) p1)] [] (.tup [(true,[.d (lD 3 z04 q.1.since),.d (lD 6 z01 q.1.updates)]),(false,[.d (dI q.2)])]) []:=by
 refine Summ.i Tryz.func82 rfl [] fun w0 G0 V LL φ0 rd=>?_;unfold zbn at h;refine Tri.sg [0,1,4] [4] (z00 2) ?_;refine z02 ?_;refine z02 ?_;refine z07 ?_;refine At.sg 1 [0,1,4,8] [4] (z00 1) ?_;obtain⟨r1,hr1,h⟩:=z05 h;refine At.cA [] [cD (lD 3 z04 p0)] (zby hr1) (.cons (.refl _) .nil) ?_;refine At.sg 1 [0,1,4,10] [4] (z00 1) ?_;refine At.done rfl ?_;refine z08 h (fun h=>?_) (fun h=>?_)
 ·refine Tri.sg [4,5] [4] (z00 3) ?_;refine Tri.keep [4,5] [4] (s':=⟨[(4,.c (.ptr 4 0)),(5,cD (dI 4))],[(4,.box [.zero,.zero])]⟩) (by kernel_rfl) ?_;refine Tri.l [] ⟨[(4,.c (.ptr 4 0)),(5,cD (dI 4))],[(4,.box [.d (lD 3 z04 ([]:List Time)),.d (lD 6 z01 ([]:List Update))])]⟩ ⟨⟨_,rfl,.refl _⟩,⟨_,rfl,.refl _⟩,trivial⟩ ⟨⟨_,rfl,.box (.cons (.zero _ _) (.cons (.zero _ _) .nil)),(by simp)⟩,trivial⟩ ?_;refine Tri.ret ?_;cases h;exact RetAt.k
 ·refine Tri.skip ?_;refine z02 ?_;refine z07 ?_;refine At.sg 2 [0,4,13,14] [4] (z00 2) ?_;obtain⟨r2,hr2,h⟩:=z05 h;refine At.cA [] [cD (lD 3 z04 p0),cD (lD 1 (fun xs=>[encL 6 z01 xs]) p1)] (zex hr2) (.cons (.refl _) (.cons (.refl _) .nil)) ?_;refine At.sg 5 [0,4,6,7] [4] (z00 5) ?_;refine At.done rfl ?_;refine z02 ?_;refine Tri.sg [0,4,6,7,19] [4] (z00 2) ?_;refine z08 h (fun h=>?_) (fun h=>?_)
  ·refine Tri.sg [4,5] [4] (z00 4) ?_;refine Tri.keep [4,5] [4] (s':=⟨[(4,.c (.ptr 4 0)),(5,cD (dI r2.2))],[(4,.box [.zero,.zero])]⟩) (by kernel_rfl) ?_;refine Tri.l [] ⟨[(4,.c (.ptr 4 0)),(5,cD (dI r2.2))],[(4,.box [.d (lD 3 z04 ([]:List Time)),.d (lD 6 z01 ([]:List Update))])]⟩ ⟨⟨_,rfl,.refl _⟩,⟨_,rfl,.refl _⟩,trivial⟩ ⟨⟨_,rfl,.box (.cons (.zero _ _) (.cons (.zero _ _) .nil)),(by simp)⟩,trivial⟩ ?_;refine Tri.ret ?_;cases h;exact RetAt.k
  ·refine Tri.skip ?_;refine z02 ?_;refine z07 ?_;refine At.sg 1 [4,6,22] [4] (z00 1) ?_;obtain⟨r3,hr3,h⟩:=z05 h;refine At.cA [] [cD (lD 3 z04 p0)] (z28 hr3) (.cons (.refl _) .nil) ?_;refine At.sg 4 [4,5] [4] (z00 4) ?_;refine At.done rfl ?_;refine Tri.ret ?_;cases h;exact RetAt.k
theorem z70 {p0:Level}{p1:Int}{q:Int}(h:z4r p0 p1=some q):
 Summ Tryz.prog 134 [.agg (cLevel p0),cD (dI p1)] [] (cD (dI q)) []:=by
 refine Summ.i Tryz.func134 rfl [] fun w0 G0 V LL φ0 rd=>?_;unfold z4r at h;refine Tri.sg [1,2] [2] (z00 2) ?_;refine Tri.sg [4] [] (z00 5) ?_;refine Tri.ret ?_;cases h;exact RetAt.k
theorem z2e {fuel:Nat}{p0:List Level}{p1:Int}{q:Int×Bool}(h:z0y fuel p0 p1=some q):
 Summ Tryz.prog 133 [.c (wC 10 z09 p0),cD (dI p1),cD (.fn 134 [])] [] (.tup [(false,[.d (dI q.1)]),(false,[.d (.bool q.2)])]) []:=by
 refine Summ.i Tryz.func133 rfl [] fun w0 G0 V LL φ0 rd=>?_;unfold z0y at h;refine Tri.sg [0,1,2] [] (z00 2) ?_;refine Tri.sg [0,1,2,8] [] (z00 3) ?_;refine Tri.sg [0,1,2,8,9,10] [] (z00 3) ?_;refine z02 ?_;refine z2s (0,(p0.length:Int)) (fun(x:Empty) s=>False) (fun(a1:Int×Int)=>⟨[(0,.c (wC 10 z09 p0)),(1,cD (dI p1)),(2,cD (.fn 134 [])),(8,cD (dI (p0.length:Int))),(9,cD (dI a1.1)),(10,cD (dI a1.2))],[]⟩) [0,1,2,8,9,10] [] h ?_ ?_ ?_
 ·intro a1 c h;refine z02 ?_;refine Tri.sg [0,1,2,8,9,10,17] [] (z00 3) ?_;refine z08 h (fun h=>?_) (fun h=>?_)
  ·refine Tri.skip ?_;refine z0s ?_;refine Tri.sg [0,1,2,8,9,10,11] [] (tN 4 (ai (show((0:Int)≤1)from(by decide:(0:Int)≤1)) (z00 2))) ?_;refine z02 ?_;refine z07 ?_;obtain⟨hc7,h⟩:=z06 h;refine At.sg 6 [0,1,2,8,9,10,11,24,28,29] [] (tN 3 (ai hc7 (z00 2))) ?_;obtain⟨r8,hr8,h⟩:=z05 h;refine At.cA [] [.agg (cLevel (p0.getD ((zzi.wrap (shrOp .u64 (zzu.wrap (zzi.wrap (a1.1+a1.2))) 1)).toNat) zzd)),cD (dI p1)] (z70 hr8) (.cons (.refl _) (.cons (.refl _) .nil)) ?_;refine At.sg 1 [0,1,2,8,9,10,11,31] [] (z00 1) ?_;refine At.done rfl ?_;refine z08 h (fun h=>?_) (fun h=>?_)
   ·refine z07 ?_;refine At.sg 3 [0,1,2,8,9,10] [] (z00 3) ?_;refine At.done rfl ?_;cases h;exact kr
   ·refine z07 ?_;refine At.sg 2 [0,1,2,8,9,10] [] (z00 2) ?_;refine At.done rfl ?_;cases h;exact kr
  ·refine Tri.kp [0,1,2,8,9,10] [] ?_;refine Tri.exit ?_;cases h;exact⟨rfl,kr⟩
 ·intro a2 h;refine z0k (fun(a3:Bool)=>⟨[(6,cD (dI a2.1)),(7,cD (.bool a3))],[]⟩) h (fun a3 h=>?_) (fun j4 h=>?_)
  ·refine Tri.ret ?_;cases h;exact RetAt.k
  ·refine z07 ?_;refine At.sg 5 [0,1,2,9,35,39] [] (z00 5) ?_;refine At.cs [39] h (fun h=>?_) (fun h=>?_)
   ·obtain⟨hc5,h⟩:=z06 h;refine At.sg 6 [35,39,40,44,45] [] (tN 3 (ai hc5 (z00 2))) ?_;obtain⟨r6,hr6,h⟩:=z05 h;refine At.cA [] [.agg (cLevel (p0.getD a2.1.toNat zzd)),cD (dI p1)] (z70 hr6) (.cons (.refl _) (.cons (.refl _) .nil)) ?_;refine At.sg 4 [6,7] [] (z00 4) ?_;refine At.done rfl ?_;exact⟨_,h,kr⟩
   ·refine At.sg 11 [6,7] [] (z00 3) ?_;refine At.done rfl ?_;exact⟨_,h,kr⟩
 ·exact fun x=>x.elim
theorem z4g {p1:Int}{p2:List Level}{l0:List Level}{q:List Level}(h:z20 p1 p2 l0=some q):
 Summ Tryz.prog 135 [.c (oC 5000 10 l0),cD (dI p1),.c (wC 10 z09 p2)] [(5000,vL 10 z09 l0)] (.c (oC 6000 10 q)) [(6000,vL 10 z09 q)]:=by
 refine Summ.i Tryz.func135 rfl [5050,6000] fun w0 G0 V LL φ0 rd=>?_;unfold z20 at h;refine Tri.rename 5000 5050 ⟨[(0,.c (oC 5050 10 l0)),(1,cD (dI p1)),(2,.c (wC 10 z09 p2))],[(5050,vL 10 z09 l0)]⟩ (by kernel_rfl) rfl rfl rfl ?_;refine Tri.sg [0,1,2] [5050] (z00 1) ?_;obtain⟨hc1,h⟩:=z06 h;refine Tri.sg [0,1,2] [5050] (tN 2 (ai hc1 trivial)) ?_;refine Tri.sg [0,1,2,7] [5050] (z00 3) ?_;refine z02 ?_;refine Tri.sg [0,1,2,7,16] [5050] (z00 2) ?_;refine z08 h (fun h=>?_) (fun h=>?_)
 ·refine Tri.sg [6] [5050] (z00 2) ?_;refine Tri.keep [6] [5050] (s':=⟨[(6,.c (oC 5050 10 l0))],[(5050,vL 10 z09 l0)]⟩) (by kernel_rfl) ?_;refine Tri.rename 5050 6000 ⟨[(6,.c (oC 6000 10 l0))],[(6000,vL 10 z09 l0)]⟩ (by kernel_rfl) rfl rfl rfl ?_;refine Tri.ret ?_;cases h;exact RetAt.k
 ·refine Tri.skip ?_;refine Tri.sg [0,1,2,7,8] [5050] (z00 3) ?_;refine z02 ?_;refine Tri.sg [0,1,2,7,8,22] [5050] (z00 3) ?_;refine z08 h (fun h=>?_) (fun h=>?_)
  ·refine z02 ?_;refine z07 ?_;refine At.seg 2 [23,24] [5050] (s':=⟨[(23,.c (oC 5050 10 l0)),(24,.c (wC 10 z09 p2))],[(5050,vL 10 z09 l0)]⟩) (by kernel_rfl) (z00 2) ?_;obtain⟨hc2,h⟩:=z06 h;refine At.one rfl (z3f (e:=84) (es:=10) (z09) l0 p2 rfl rfl rfl rfl rfl (.of 84 176 [.d (dI 0),.d (.bool false),.zero,.zero,.zero,.zero,.d (dI 0),.d (dI 0),.zero,.zero] (by kernel_rfl) (by kernel_rfl) (by kernel_rfl) (by kernel_rfl) rfl (by kernel_rfl) rfl) rfl rfl rfl (.view rfl (fun _ _=>rfl)) hc2) ?_;refine At.sg 1 [6] [5050] (z00 1) ?_;refine At.done rfl ?_;refine Tri.keep [6] [5050] (s':=⟨[(6,.c (oC 5050 10 (l0++p2)))],[(5050,vL 10 z09 (l0++p2))]⟩) (by kernel_rfl) ?_;refine Tri.rename 5050 6000 ⟨[(6,.c (oC 6000 10 (l0++p2)))],[(6000,vL 10 z09 (l0++p2))]⟩ (by kernel_rfl) rfl rfl rfl ?_;refine Tri.ret ?_;cases h;exact RetAt.k
  ·cases h
theorem zew {p0:List Time}{p1:Batch}{p2:Batch}{q:Merger×Int}(h:zbo p0 p1 p2=some q):
 Summ Tryz.prog 136 [.c (wC 3 z04 p0),.agg (cBatch p1),.agg (cBatch p2)] [] (.tup [(true,[.d (lD 6 z01 q.1.a),.d (lD 6 z01 q.1.b),.d (dI q.1.i),.d (dI q.1.j),.d (lD 3 z04 q.1.since),.d (lD 6 z01 q.1.out)]),(false,[.d (dI q.2)])]) []:=by
 refine Summ.i Tryz.func136 rfl [] fun w0 G0 V LL φ0 rd=>?_;unfold zbo at h;cases h
theorem zi9 {p0:Merger}{p1:Int}{q:Merger×Int×Int}(h:zcn p0 p1=some q):
 Summ Tryz.prog 137 [.agg (cMerger p0),cD (dI p1)] [] (.tup [(true,[.d (lD 6 z01 q.1.a),.d (lD 6 z01 q.1.b),.d (dI q.1.i),.d (dI q.1.j),.d (lD 3 z04 q.1.since),.d (lD 6 z01 q.1.out)]),(false,[.d (dI q.2.1)]),(false,[.d (dI q.2.2)])]) []:=by
 refine Summ.i Tryz.func137 rfl [] fun w0 G0 V LL φ0 rd=>?_;unfold zcn at h;cases h
theorem z9h {fuel:Nat}{p1:Batch}{l0:Trace}{q:Int×Trace}(h:z5z fuel p1 l0=some q):
 Summ Tryz.prog 83 [.c (.ptr 5000 0),.agg (cBatch p1)] [(5000,.box [oC 5100 3 l0.spine.since,oC 5200 10 l0.spine.levels]),(5100,vL 3 z04 l0.spine.since),(5200,vL 10 z09 l0.spine.levels)] (cD (dI q.1)) [(5150,vL 3 z04 q.2.spine.since),(5250,vL 10 z09 q.2.spine.levels),(5000,.box [oC 5150 3 q.2.spine.since,oC 5250 10 q.2.spine.levels])]:=by
 refine Summ.i Tryz.func83 rfl [5150,5250] fun w0 G0 V LL φ0 rd=>?_;unfold z5z at h;refine Tri.rename 5100 5150 ⟨[(0,.c (.ptr 5000 0)),(1,.agg (cBatch p1))],[(5000,.box [oC 5150 3 l0.spine.since,oC 5200 10 l0.spine.levels]),(5150,vL 3 z04 l0.spine.since),(5200,vL 10 z09 l0.spine.levels)]⟩ (by kernel_rfl) rfl rfl rfl ?_;refine Tri.rename 5200 5250 ⟨[(0,.c (.ptr 5000 0)),(1,.agg (cBatch p1))],[(5000,.box [oC 5150 3 l0.spine.since,oC 5250 10 l0.spine.levels]),(5150,vL 3 z04 l0.spine.since),(5250,vL 10 z09 l0.spine.levels)]⟩ (by kernel_rfl) rfl rfl rfl ?_;refine Tri.sg [0,3] [3,5000,5150,5250] (z00 2) ?_;refine z02 ?_;refine z07 ?_;refine At.sg 2 [0,3,17] [3,5000,5150,5250] (z00 2) ?_;obtain⟨r1,hr1,h⟩:=z05 h;refine At.cA [] [cD (lD 6 z01 p1.updates)] (z3g hr1) (.cons (.refl _) .nil) ?_;refine At.sg 1 [0,3,5] [3,5000,5150,5250] (z00 1) ?_;refine At.done rfl ?_;refine z02 ?_;refine Tri.sg [0,3,5,20] [3,5000,5150,5250] (z00 2) ?_;refine z08 h (fun h=>?_) (fun h=>?_)
 ·refine Tri.sg [4] [5000,5150,5250] (z00 1) ?_;refine Tri.ret ?_;cases h;exact RetAt.k
 ·refine Tri.skip ?_;refine z02 ?_;refine z07 ?_;refine At.seg 6 [0,3,5,26,27] [3,5000,5150,5250] (s':=⟨[(0,.c (.ptr 5000 0)),(3,.c (.ptr 3 0)),(5,cD (dI r1)),(26,.c (oC 5250 10 l0.spine.levels)),(27,cD (dI r1))],[(3,.box (cBatch p1)),(5000,.box [oC 5150 3 l0.spine.since,oC 5250 10 l0.spine.levels]),(5150,vL 3 z04 l0.spine.since),(5250,vL 10 z09 l0.spine.levels)]⟩) (by kernel_rfl) (z00 6) ?_;obtain⟨r2,hr2,h⟩:=z05 h;refine At.cA [] [.c (oC 5250 10 l0.spine.levels),cD (dI r1),cD (.fn 134 [])] (z2e hr2) (.cons (AVArg.view (z09) l0.spine.levels rfl) (.cons (.refl _) (.cons (.refl _) .nil))) ?_;refine At.sg 5 [0,3,5,6,7] [3,5000,5150,5250] (z00 5) ?_;refine At.done rfl ?_;refine z02 ?_;refine Tri.sg [0,3,5,6,32] [3,5000,5150,5250] (z00 2) ?_;refine z08 h (fun h=>?_) (fun h=>?_)
  ·refine z02 ?_;obtain⟨r3,hr3,h⟩:=z05 h;refine z0l [.a [0] [],.a [0] [],.a [34] [],.a [35] [],.a [36] [],.a [37] [5000],.a [6] [],.a [5] [],.a [3] [3],.a [40,41] [],.m ⟨[(42,.agg [.d (dI r1),.d (.bool false),.d (lD 3 z04 p1.since),.d (lD 6 z01 p1.updates),.zero,.zero,.d (dI 0),.d (dI 0),.zero,.zero])],[]⟩ ⟨[(43,.c (oC 43 10 ([(⟨r1,false,p1,(⟨([]:List Update),([]:List Update),0,0,([]:List Time),([]:List Update)⟩:Merger)⟩:Level)]:List Level)))],[(43,vL 10 z09 ([(⟨r1,false,p1,(⟨([]:List Update),([]:List Update),0,0,([]:List Time),([]:List Update)⟩:Merger)⟩:Level)]:List Level))]⟩ [43] [] [],.m ⟨[(38,.c (oC 5250 10 l0.spine.levels)),(39,cD (dI r2.1)),(43,.c (oC 43 10 ([(⟨r1,false,p1,(⟨([]:List Update),([]:List Update),0,0,([]:List Time),([]:List Update)⟩:Merger)⟩:Level)]:List Level)))],[(43,vL 10 z09 ([(⟨r1,false,p1,(⟨([]:List Update),([]:List Update),0,0,([]:List Time),([]:List Update)⟩:Merger)⟩:Level)]:List Level)),(5000,.box [oC 5150 3 l0.spine.since,oC 5250 10 l0.spine.levels]),(5250,vL 10 z09 l0.spine.levels)]⟩ ⟨[(44,.c (oC 5250 10 r3)),(38,.c (.any))],[(5250,vL 10 z09 r3),(5000,.box [oC 5150 3 l0.spine.since,.any])]⟩ [5250] [38] [5000],.a [33] [],.a [45] [],.a [46] [],.m ⟨[(44,.c (oC 5250 10 r3)),(47,.c (.ptr 5000 1))],[(5000,.box [oC 5150 3 l0.spine.since,.any]),(5250,vL 10 z09 r3)]⟩ ⟨[],[(5000,.box [oC 5150 3 l0.spine.since,oC 5250 10 r3])]⟩ [] [] []] [] [5000,5150,5250] (z00 13) (.a (.a (.a (.a (.a (.a (.a (.a (.a (.a (.m ?_ (.m ?_ (.a (.a (.a (.m ?_ .z)))))))))))))))) ?_
   ·exact DOk.one fun r hr=>z4u (e:=84) (es:=10) (z:=[.d (dI 0),.d (.bool false),.zero,.zero,.zero,.zero,.d (dI 0),.d (dI 0),.zero,.zero]) (cells:=[.d (dI r1),.d (.bool false),.d (lD 3 z04 p1.since),.d (lD 6 z01 p1.updates),.zero,.zero,.d (dI 0),.d (dI 0),.zero,.zero]) (z09) ([(⟨r1,false,p1,(⟨([]:List Update),([]:List Update),0,0,([]:List Time),([]:List Update)⟩:Merger)⟩:Level)]:List Level) rfl (by kernel_rfl) rfl rfl (z2v (by kernel_rfl) (hr 43 (by simp))) (by kernel_rfl) rfl (by kernel_rfl) rfl rfl rfl (by kernel_rfl) rfl ⟨⟨rfl,(.cons (.refl _) (.cons (.refl _) (.cons (.refl _) (.cons (.refl _) (.cons (.zero _ _) (.cons (.zero _ _) (.cons (.refl _) (.cons (.refl _) (.cons (.zero _ _) (.cons (.zero _ _) .nil))))))))))⟩,trivial⟩
   ·exact DOk.drop (k:=5250) (d:=44) (v:=vL 10 z09 r3) (av:= .c (oC 5250 10 r3)) rfl (fun r hr=>zl9 (nf:=0) (caps:=[]) (xs:=[.c (oC 5250 10 l0.spine.levels),cD (dI r2.1),.c (oC 43 10 ([(⟨r1,false,p1,(⟨([]:List Update),([]:List Update),0,0,([]:List Time),([]:List Update)⟩:Merger)⟩:Level)]:List Level))]) [(5000,5250),(6000,5250)] (z4g hr3) rfl rfl (by kernel_rfl) rfl (by kernel_rfl) (by kernel_rfl) (.ren rfl rfl (.flat (.refl _) rfl rfl (.flat (AVArg.view (z09) ([(⟨r1,false,p1,(⟨([]:List Update),([]:List Update),0,0,([]:List Time),([]:List Update)⟩:Merger)⟩:Level)]:List Level) rfl) rfl rfl .nil))) ⟨⟨by kernel_rfl,by kernel_rfl⟩,trivial⟩ (by kernel_rfl) (by kernel_rfl) (by kernel_rfl) (by kernel_rfl) (by kernel_rfl) (by kernel_rfl) (by kernel_rfl) (by first|kernel_rfl|(show _=_;kernel_rfl)) (by first|kernel_rfl|(show _=_;kernel_rfl))) (by kernel_rfl) (by kernel_rfl) (by kernel_rfl) (by kernel_rfl)
   ·exact DOk.step (.turn 5000 (.box [oC 5150 3 l0.spine.since,oC 5250 10 r3])) (fun r=>by kernel_rfl) (fun r=>by kernel_rfl) trivial (by kernel_rfl) (by kernel_rfl) (fun r=>rfl)
   refine Tri.sg [4] [5000,5150,5250] (z00 1) ?_;refine Tri.ret ?_;cases h;exact RetAt.k
  ·refine Tri.skip ?_;obtain⟨hc4,h⟩:=z06 h;obtain⟨hc5,h⟩:=z06 h;refine Tri.sg [0,3,5,6,8] [3,8,5000,5150,5250] (tN 6 (ai hc4 (ai hc5 (z00 2)))) ?_;refine z02 ?_;refine Tri.sg [0,3,5,6,8,58] [3,8,5000,5150,5250] (z00 3) ?_;refine z08 h (fun h=>?_) (fun h=>?_)
   ·refine z02 ?_;obtain⟨r6,hr6,h⟩:=z05 h;refine z0l [.a [0] [],.a [60] [],.a [61] [],.a [62] [],.a [63] [5000],.a [8] [],.a [65] [8],.a [3] [3],.m ⟨[(64,.c (oC 5150 3 l0.spine.since)),(66,.agg [.d (lD 3 z04 ((l0.spine.levels.getD (0+r2.1.toNat) zzd).batch.since)),.d (lD 6 z01 ((l0.spine.levels.getD (0+r2.1.toNat) zzd).batch.updates))]),(67,.agg (cBatch p1))],[(5150,vL 3 z04 l0.spine.since)]⟩ ⟨[(68,.tup [(true,[.d (lD 6 z01 r6.1.a),.d (lD 6 z01 r6.1.b),.d (dI r6.1.i),.d (dI r6.1.j),.d (lD 3 z04 r6.1.since),.d (lD 6 z01 r6.1.out)]),(false,[.d (dI r6.2)])])],[]⟩ [] [] [],.a [68] [],.a [59] [],.a [59] [],.m ⟨[],[]⟩ ⟨[(9,.c (.ptr 9 0))],[(9,.box [.zero,.zero,.d (dI 0),.d (dI 0),.zero,.zero])]⟩ [9] [] [],.m ⟨[(9,.c (.ptr 9 0)),(69,.agg (cMerger r6.1))],[(9,.box [.zero,.zero,.d (dI 0),.d (dI 0),.zero,.zero])]⟩ ⟨[],[(9,.box (cMerger r6.1))]⟩ [] [] [],.a [70] []] [0,5,6,9,10] [9,5000,5150,5250] (z00 12) (.a (.a (.a (.a (.a (.a (.a (.a (.m ?_ (.a (.a (.a (.m ?_ (.m ?_ (.a .z))))))))))))))) ?_
    ·exact DOk.cA [] [.c (oC 5150 3 l0.spine.since),.agg [.d (lD 3 z04 ((l0.spine.levels.getD (0+r2.1.toNat) zzd).batch.since)),.d (lD 6 z01 ((l0.spine.levels.getD (0+r2.1.toNat) zzd).batch.updates))],.agg (cBatch p1)] (zew hr6) fun r=>(.cons (AVArg.view (z04) l0.spine.since rfl) (.cons (.refl _) (.cons (.refl _) .nil)))
    ·exact DOk.step (.new (.box [.zero,.zero,.d (dI 0),.d (dI 0),.zero,.zero]) (.c (.ptr 9 0))) (fun r=>by kernel_rfl) (fun r=>by kernel_rfl) trivial (by kernel_rfl) (by kernel_rfl) (fun r=>rfl)
    ·exact DOk.step (.turn 9 (.box (cMerger r6.1))) (fun r=>by kernel_rfl) (fun r=>by kernel_rfl) trivial (by kernel_rfl) (by kernel_rfl) (fun r=>rfl)
    refine z0k (fun(a7:Trace)=>⟨[(10,cD (dI r6.2))],[(5000,.box [oC 5150 3 a7.spine.since,oC 5250 10 a7.spine.levels]),(5150,vL 3 z04 a7.spine.since),(5250,vL 10 z09 a7.spine.levels)]⟩) h (fun a7 h=>?_) (fun j8 h=>?_)
    ·refine Tri.sg [4] [5000,5150,5250] (z00 2) ?_;refine Tri.ret ?_;cases h;exact RetAt.k
    ·refine z1u [0,5,6,9,10,72] [9,5000,5150,5250] ⟨[(0,.c (.ptr 5000 0)),(5,cD (dI r1)),(6,cD (dI r2.1)),(9,.c (.ptr 9 0)),(10,cD (dI r6.2)),(72,cD (.bool (decide (r6.2=0))))],[(9,.box (cMerger r6.1)),(5000,.box [oC 5150 3 l0.spine.since,oC 5250 10 l0.spine.levels]),(5150,vL 3 z04 l0.spine.since),(5250,vL 10 z09 l0.spine.levels)]⟩ _ (by kernel_rfl) (z00 2) ?_;refine z08 h (fun h=>?_) (fun h=>?_)
     ·obtain⟨hc9,h⟩:=z06 h;obtain⟨hc10,h⟩:=z06 h;refine z40 ⟨[(10,cD (dI r6.2))],[(5000,.box [oC 5150 3 l0.spine.since,oC 5250 10 l0.spine.levels]),(5150,vL 3 z04 l0.spine.since),(5250,vL 10 z09 (l0.spine.levels.set (0+r2.1.toNat) (⟨r1,true,(⟨([]:List Time),([]:List Update)⟩:Batch),r6.1⟩:Level)))]⟩ ?_ ?_
      ·refine z6e ⟨[(10,cD (dI r6.2))],[(5000,.box [oC 5150 3 l0.spine.since,oC 5250 10 l0.spine.levels]),(5150,vL 3 z04 l0.spine.since),(5250,vL 10 z09 (l0.spine.levels.set (0+r2.1.toNat) (⟨r1,true,(⟨([]:List Time),([]:List Update)⟩:Batch),r6.1⟩:Level)))]⟩ [.a [0] [],.a [73] [],.a [74] [],.a [75] [],.a [76] [5000],.a [6] [],.a [5] [],.a [9] [9],.a [79,80] [],.a [77,78] [5250],.m ⟨[(81,.agg [.d (dI r1),.d (.bool true),.zero,.zero,.d (lD 6 z01 r6.1.a),.d (lD 6 z01 r6.1.b),.d (dI r6.1.i),.d (dI r6.1.j),.d (lD 3 z04 r6.1.since),.d (lD 6 z01 r6.1.out)]),(82,.c (.vptr 5250 10 (0+r2.1.toNat) 0))],[(5250,vL 10 z09 l0.spine.levels)]⟩ ⟨[],[(5250,vL 10 z09 (l0.spine.levels.set (0+r2.1.toNat) (⟨r1,true,(⟨([]:List Time),([]:List Update)⟩:Batch),r6.1⟩:Level)))]⟩ [] [] []] [10] [5000,5150,5250] (tN 9 (ai hc9 trivial)) (.a (.a (.a (.a (.a (.a (.a (.a (.a (.a (.m ?_ .z))))))))))) ?_
       ·exact DOk.one fun r hr=>z1f (xs:=[.d (dI r1),.d (.bool true),.zero,.zero,.d (lD 6 z01 r6.1.a),.d (lD 6 z01 r6.1.b),.d (dI r6.1.i),.d (dI r6.1.j),.d (lD 3 z04 r6.1.since),.d (lD 6 z01 r6.1.out)]) (ds:=[dI r1,.bool true,lD 3 z04 ([]:List Time),lD 6 z01 ([]:List Update),lD 6 z01 r6.1.a,lD 6 z01 r6.1.b,dI r6.1.i,dI r6.1.j,lD 3 z04 r6.1.since,lD 6 z01 r6.1.out]) (z09) l0.spine.levels (⟨r1,true,(⟨([]:List Time),([]:List Update)⟩:Batch),r6.1⟩:Level) rfl (by kernel_rfl) rfl rfl rfl hc10 rfl rfl (.cons (.refl _) (.cons (.refl _) (.cons (.zero _ _) (.cons (.zero _ _) (.cons (.refl _) (.cons (.refl _) (.cons (.refl _) (.cons (.refl _) (.cons (.refl _) (.cons (.refl _) .nil)))))))))) rfl rfl rfl rfl
       exact⟨rfl,rfl⟩
      ·refine At.eqS (s':=⟨[(10,cD (dI r6.2))],[(5000,.box [oC 5150 3 l0.spine.since,oC 5250 10 (l0.spine.levels.set (0+r2.1.toNat) (⟨r1,true,(⟨([]:List Time),([]:List Update)⟩:Batch),r6.1⟩:Level))]),(5150,vL 3 z04 l0.spine.since),(5250,vL 10 z09 (l0.spine.levels.set (0+r2.1.toNat) (⟨r1,true,(⟨([]:List Time),([]:List Update)⟩:Batch),r6.1⟩:Level)))]⟩) (by simp only[oC,vL,zzf]) ?_;refine At.done rfl ?_;exact⟨_,h,kr⟩
     ·refine Tri.kp [10] [5000,5150,5250] ?_;refine Tri.skip ?_;exact⟨_,h,kr⟩
   ·refine Tri.skip ?_;refine z02 ?_;obtain⟨hc11,h⟩:=z06 h;obtain⟨r12,hr12,h⟩:=z05 h;refine z0l [.a [8] [],.a [85] [8],.a [5] [],.a [87] [],.m ⟨[(86,.agg [.d (lD 6 z01 ((l0.spine.levels.getD (0+r2.1.toNat) zzd).merger.a)),.d (lD 6 z01 ((l0.spine.levels.getD (0+r2.1.toNat) zzd).merger.b)),.d (dI ((l0.spine.levels.getD (0+r2.1.toNat) zzd).merger.i)),.d (dI ((l0.spine.levels.getD (0+r2.1.toNat) zzd).merger.j)),.d (lD 3 z04 ((l0.spine.levels.getD (0+r2.1.toNat) zzd).merger.since)),.d (lD 6 z01 ((l0.spine.levels.getD (0+r2.1.toNat) zzd).merger.out))]),(88,cD (dI (shlOp .i64 (2:Int) r1)))],[]⟩ ⟨[(89,.tup [(true,[.d (lD 6 z01 r12.1.a),.d (lD 6 z01 r12.1.b),.d (dI r12.1.i),.d (dI r12.1.j),.d (lD 3 z04 r12.1.since),.d (lD 6 z01 r12.1.out)]),(false,[.d (dI r12.2.1)]),(false,[.d (dI r12.2.2)])])],[]⟩ [] [] [],.a [89] [],.a [84] [],.a [84] [],.a [84] [],.m ⟨[],[]⟩ ⟨[(11,.c (.ptr 11 0))],[(11,.box [.zero,.zero,.d (dI 0),.d (dI 0),.zero,.zero])]⟩ [11] [] [],.m ⟨[(11,.c (.ptr 11 0)),(90,.agg (cMerger r12.1))],[(11,.box [.zero,.zero,.d (dI 0),.d (dI 0),.zero,.zero])]⟩ ⟨[],[(11,.box (cMerger r12.1))]⟩ [] [] [],.a [91] [],.a [92] []] [0,3,6,11,13] [3,11,5000,5150,5250] (tN 3 (ai hc11 (z00 6))) (.a (.a (.a (.a (.m ?_ (.a (.a (.a (.a (.m ?_ (.m ?_ (.a (.a .z))))))))))))) ?_
    ·exact DOk.cA [] [.agg [.d (lD 6 z01 ((l0.spine.levels.getD (0+r2.1.toNat) zzd).merger.a)),.d (lD 6 z01 ((l0.spine.levels.getD (0+r2.1.toNat) zzd).merger.b)),.d (dI ((l0.spine.levels.getD (0+r2.1.toNat) zzd).merger.i)),.d (dI ((l0.spine.levels.getD (0+r2.1.toNat) zzd).merger.j)),.d (lD 3 z04 ((l0.spine.levels.getD (0+r2.1.toNat) zzd).merger.since)),.d (lD 6 z01 ((l0.spine.levels.getD (0+r2.1.toNat) zzd).merger.out))],cD (dI (shlOp .i64 (2:Int) r1))] (zi9 hr12) fun r=>(.cons (.refl _) (.cons (.refl _) .nil))
    ·exact DOk.step (.new (.box [.zero,.zero,.d (dI 0),.d (dI 0),.zero,.zero]) (.c (.ptr 11 0))) (fun r=>by kernel_rfl) (fun r=>by kernel_rfl) trivial (by kernel_rfl) (by kernel_rfl) (fun r=>rfl)
    ·exact DOk.step (.turn 11 (.box (cMerger r12.1))) (fun r=>by kernel_rfl) (fun r=>by kernel_rfl) trivial (by kernel_rfl) (by kernel_rfl) (fun r=>rfl)
    refine z02 ?_;refine Tri.sg [0,3,6,11,13,94] [3,11,5000,5150,5250] (z00 2) ?_;refine z08 h (fun h=>?_) (fun h=>?_)
    ·refine Tri.sg [4] [5000,5150,5250] (z00 2) ?_;refine Tri.ret ?_;cases h;exact RetAt.k
    ·refine Tri.skip ?_;refine z02 ?_;refine z07 ?_;refine At.sg 1 [0,3,6,97] [3,5000,5150,5250] (z00 1) ?_;cases h
theorem zbg {fuel:Nat}{p0:Spine}{p1:List (List Update)}{q:Spine×Int}(h:z95 fuel p0 p1=some q):
 Summ Tryz.prog 35 [.agg (cSpine p0),cD (lD 1 (fun xs=>[encL 6 z01 xs]) p1)] [] (.tup [(true,[.d (lD 3 z04 q.1.since),.d (lD 10 z09 q.1.levels)]),(false,[.d (dI q.2)])]) []:=by
 refine Summ.i Tryz.func35 rfl [] fun w0 G0 V LL φ0 rd=>?_;unfold z95 at h;refine Tri.sg [1,2,4] [2,4] (z00 3) ?_;refine z02 ?_;refine z02 ?_;refine z07 ?_;refine At.sg 1 [1,2,4,11] [2,4] (z00 1) ?_;obtain⟨r1,hr1,h⟩:=z05 h;refine At.cA [] [.agg (cSpine p0)] (z7y hr1) (.cons (.refl _) .nil) ?_;refine At.sg 1 [1,2,4,6] [2,4] (z00 1) ?_;refine At.done rfl ?_;refine Tri.sg [1,2,4,6,14] [2,4] (z00 2) ?_;refine z08 h (fun h=>?_) (fun h=>?_)
 ·refine Tri.sg [4,5] [4] (z00 4) ?_;refine Tri.keep [4,5] [4] (s':=⟨[(4,.c (.ptr 4 0)),(5,cD (dI r1))],[(4,.box [.zero,.zero])]⟩) (by kernel_rfl) ?_;refine Tri.l [] ⟨[(4,.c (.ptr 4 0)),(5,cD (dI r1))],[(4,.box [.d (lD 3 z04 ([]:List Time)),.d (lD 10 z09 ([]:List Level))])]⟩ ⟨⟨_,rfl,.refl _⟩,⟨_,rfl,.refl _⟩,trivial⟩ ⟨⟨_,rfl,.box (.cons (.zero _ _) (.cons (.zero _ _) .nil)),(by simp)⟩,trivial⟩ ?_;refine Tri.ret ?_;cases h;exact RetAt.k
 ·refine Tri.skip ?_;refine z02 ?_;refine z07 ?_;refine At.sg 3 [2,4,19,20] [2,4] (z00 3) ?_;obtain⟨r2,hr2,h⟩:=z05 h;refine At.cA [] [cD (lD 3 z04 p0.since),cD (lD 1 (fun xs=>[encL 6 z01 xs]) p1)] (zh1 hr2) (.cons (.refl _) (.cons (.refl _) .nil)) ?_;refine At.sg 6 [2,4,7,8] [2,4,7] (z00 6) ?_;refine At.done rfl ?_;refine z02 ?_;refine Tri.sg [2,4,7,8,25] [2,4,7] (z00 2) ?_;refine z08 h (fun h=>?_) (fun h=>?_)
  ·refine z02 ?_;refine z07 ?_;refine At.sg 1 [4,8,26] [4] (z00 1) ?_;obtain⟨r3,hr3,h⟩:=z05 h;refine At.cA [] [.agg (cSpine p0)] (z96 hr3) (.cons (.refl _) .nil) ?_;refine At.sg 3 [4,5] [4] (z00 3) ?_;refine At.done rfl ?_;refine Tri.ret ?_;cases h;exact RetAt.k
  ·refine Tri.skip ?_;refine z02 ?_;refine z07 ?_;refine At.sg 1 [2,4,7,29] [2,4,7] (z00 1) ?_;obtain⟨r4,hr4,h⟩:=z05 h;refine z2k 0 [] [.agg (cSpine p0)] [(6000,30495),(6100,30492),(6101,30491)] [2,4,7] [2,4,7] (zdi hr4) (.flat (.refl _) rfl rfl .nil) ?_;refine At.sg 1 [2,4,7,9] [2,4,7,30491,30492,30495] (z00 1) ?_;refine At.done rfl ?_;refine z02 ?_;refine z02 ?_;refine z07 ?_;refine At.sg 2 [2,4,9,31,32] [2,4,30491,30492,30495] (z00 2) ?_;obtain⟨r5,hr5,h⟩:=z05 h;refine z2k 0 [] [.c (.ptr 30495 0),.agg (cBatch r2.1)] [(5000,30495),(5100,30492),(5150,30492),(5200,30491),(5250,30491)] [2,4,9] [2,4] (z9h hr5) (.ren rfl rfl (.flat (.refl _) rfl rfl .nil)) ?_;refine At.sg 1 [2,4,9,10] [2,4,30491,30492,30495] (z00 1) ?_;refine At.done rfl ?_;refine Tri.sg [2,4,9,10,35] [2,4,30491,30492,30495] (z00 2) ?_;refine z08 h (fun h=>?_) (fun h=>?_)
   ·refine z02 ?_;refine z07 ?_;refine At.sg 1 [4,10,36] [4] (z00 1) ?_;obtain⟨r6,hr6,h⟩:=z05 h;refine At.cA [] [.agg (cSpine p0)] (z96 hr6) (.cons (.refl _) .nil) ?_;refine At.sg 3 [4,5] [4] (z00 3) ?_;refine At.done rfl ?_;refine Tri.ret ?_;cases h;exact RetAt.k
   ·refine Tri.skip ?_;refine Tri.sg [4,5] [4,30491,30492] (z00 6) ?_;refine Tri.keep [4,5] [4,30491,30492] (s':=⟨[(4,.c (.ptr 4 0)),(5,cD (dI 0))],[(4,.box [oC 30492 3 r5.2.spine.since,oC 30491 10 r5.2.spine.levels]),(30491,vL 10 z09 r5.2.spine.levels),(30492,vL 3 z04 r5.2.spine.since)]⟩) (by kernel_rfl) ?_;refine Tri.l [30491,30492] ⟨[(4,.c (.ptr 4 0)),(5,cD (dI 0))],[(4,.box (cSpine r5.2.spine))]⟩ ⟨⟨_,rfl,.refl _⟩,⟨_,rfl,.refl _⟩,trivial⟩ ⟨⟨_,rfl,.box (.cons (CLe.frozen (z04) r5.2.spine.since rfl (by simp)) (.cons (CLe.frozen (z09) r5.2.spine.levels rfl (by simp)) .nil)),(by simp)⟩,trivial⟩ ?_;refine Tri.ret ?_;cases h;exact RetAt.k
theorem z49 {fuel:Nat}{p1:Int}{p2:Int}{l0:List (List Value)}{q:List (List Value)}(h:z1q fuel p1 p2 l0=some q):
 Summ Tryz.prog 186 [.c (oC 5000 1 l0),cD (dI p1),cD (dI p2),cD (.fn 67 [])] [(5000,vL 1 (fun xs=>[encL 3 z03 xs]) l0)] (.tup []) [(5000,vL 1 (fun xs=>[encL 3 z03 xs]) q)]:=by
 refine Summ.i Tryz.func186 rfl [] fun w0 G0 V LL φ0 rd=>?_;unfold z1q at h;refine Tri.sg [0,1,2,3,8] [5000] (z00 3) ?_;refine Tri.keep [0,1,2,3,8] [5000] (s':=⟨[(0,.c (oC 5000 1 l0)),(1,cD (dI p1)),(2,cD (dI p2)),(3,cD (.fn 67 [])),(8,cD (dI (zzi.wrap (p1+1))))],[(5000,vL 1 (fun xs=>[encL 3 z03 xs]) l0)]⟩) (by kernel_rfl) ?_;refine z76 (fuel:=fuel) (st0:=((zzi.wrap (p1+1)),l0)) (fun(x:Empty) s=>False) (fun(a1:Int×(List (List Value)))=>⟨[(0,.c (oC 5000 1 a1.2)),(1,cD (dI p1)),(2,cD (dI p2)),(3,cD (.fn 67 [])),(8,cD (dI a1.1))],[(5000,vL 1 (fun xs=>[encL 3 z03 xs]) a1.2)]⟩) (fun(a1:Int×(List (List Value)))=>⟨[],[(5000,vL 1 (fun xs=>[encL 3 z03 xs]) a1.2)]⟩) h ?_ ?_ ?_
 ·intro a1 c h;refine z02 ?_;refine Tri.sg [0,1,2,3,8,14] [5000] (z00 3) ?_;refine z08 h (fun h=>?_) (fun h=>?_)
  ·refine Tri.skip ?_;refine z02 ?_;refine z0s ?_;refine Tri.sg [0,1,2,3,8,9] [5000] (z00 2) ?_;refine z2s (a1.1,a1.2) (fun(x:Empty) s=>False) (fun(a3:Int×(List (List Value)))=>⟨[(0,.c (oC 5000 1 a3.2)),(1,cD (dI p1)),(2,cD (dI p2)),(3,cD (.fn 67 [])),(8,cD (dI a1.1)),(9,cD (dI a3.1))],[(5000,vL 1 (fun xs=>[encL 3 z03 xs]) a3.2)]⟩) [0,1,2,3,8,9] [5000] h ?_ ?_ ?_
   ·intro a3 c h;refine Tri.eqS ⟨[(0,.c (oC 5000 1 a3.2)),(1,cD (dI p1)),(2,cD (dI p2)),(3,cD (.fn 67 [])),(8,cD (dI a1.1)),(9,cD (dI a3.1))],[(5000,vL 1 (fun xs=>[encL 3 z03 xs]) a3.2)]⟩ kr ?_;refine z02 ?_;refine z0k (fun(a5:Bool)=>⟨[(0,.c (oC 5000 1 a3.2)),(1,cD (dI p1)),(2,cD (dI p2)),(3,cD (.fn 67 [])),(8,cD (dI a1.1)),(9,cD (dI a3.1)),(34,cD (.bool a5))],[(5000,vL 1 (fun xs=>[encL 3 z03 xs]) a3.2)]⟩) h (fun a5 h=>?_) (fun j6 h=>?_)
    ·refine Tri.eqS ⟨[(0,.c (oC 5000 1 a3.2)),(1,cD (dI p1)),(2,cD (dI p2)),(3,cD (.fn 67 [])),(8,cD (dI a1.1)),(9,cD (dI a3.1)),(34,cD (.bool a5))],[(5000,vL 1 (fun xs=>[encL 3 z03 xs]) a3.2)]⟩ kr ?_;refine z08 h (fun h=>?_) (fun h=>?_)
     ·refine Tri.skip ?_;refine z02 ?_;refine z0s ?_;obtain⟨hc7,h⟩:=z06 h;obtain⟨hc8,h⟩:=z06 h;obtain⟨hc9,h⟩:=z06 h;obtain⟨hc10,h⟩:=z06 h;obtain⟨hc11,h⟩:=z06 h;obtain⟨hc12,h⟩:=z06 h;obtain⟨hc13,h⟩:=z06 h;obtain⟨hc14,h⟩:=z06 h;refine z40 ⟨[(0,.c (oC 5000 1 a3.2)),(1,cD (dI p1)),(2,cD (dI p2)),(3,cD (.fn 67 [])),(8,cD (dI a1.1)),(9,cD (dI a3.1))],[(5000,vL 1 (fun xs=>[encL 3 z03 xs]) ((a3.2.set (0+a3.1.toNat) (a3.2.getD (0+(zzi.wrap (a3.1-1)).toNat) zzd)).set (0+(zzi.wrap (a3.1-1)).toNat) (a3.2.getD (0+a3.1.toNat) zzd)))]⟩ ?_ ?_
      ·refine z6e ⟨[(0,.c (oC 5000 1 a3.2)),(1,cD (dI p1)),(2,cD (dI p2)),(3,cD (.fn 67 [])),(8,cD (dI a1.1)),(9,cD (dI a3.1))],[(5000,vL 1 (fun xs=>[encL 3 z03 xs]) ((a3.2.set (0+a3.1.toNat) (a3.2.getD (0+(zzi.wrap (a3.1-1)).toNat) zzd)).set (0+(zzi.wrap (a3.1-1)).toNat) (a3.2.getD (0+a3.1.toNat) zzd)))]⟩ [.a [0] [],.a [9] [],.a [0] [],.a [9] [],.a [40] [],.a [0] [],.a [9] [],.a [43] [],.a [42,44] [5000],.a [45] [5000],.a [0] [],.a [9] [],.a [47,48] [5000],.a [49] [5000],.a [37,38] [5000],.m ⟨[(46,cD (lD 3 z03 (a3.2.getD (0+(zzi.wrap (a3.1-1)).toNat) zzd))),(51,.c (.vptr 5000 1 (0+a3.1.toNat) 0))],[(5000,vL 1 (fun xs=>[encL 3 z03 xs]) a3.2)]⟩ ⟨[],[(5000,vL 1 (fun xs=>[encL 3 z03 xs]) (a3.2.set (0+a3.1.toNat) (a3.2.getD (0+(zzi.wrap (a3.1-1)).toNat) zzd)))]⟩ [] [] [],.a [39,41] [5000],.m ⟨[(50,cD (lD 3 z03 (a3.2.getD (0+a3.1.toNat) zzd))),(52,.c (.vptr 5000 1 (0+(zzi.wrap (a3.1-1)).toNat) 0))],[(5000,vL 1 (fun xs=>[encL 3 z03 xs]) (a3.2.set (0+a3.1.toNat) (a3.2.getD (0+(zzi.wrap (a3.1-1)).toNat) zzd)))]⟩ ⟨[],[(5000,vL 1 (fun xs=>[encL 3 z03 xs]) ((a3.2.set (0+a3.1.toNat) (a3.2.getD (0+(zzi.wrap (a3.1-1)).toNat) zzd)).set (0+(zzi.wrap (a3.1-1)).toNat) (a3.2.getD (0+a3.1.toNat) zzd)))]⟩ [] [] []] [0,1,2,3,8,9] [5000] (tN 8 (ai hc7 (ai hc8 (tN 2 (ai hc9 (ai hc10 (ai hc11 (ai hc13 trivial)))))))) (.a (.a (.a (.a (.a (.a (.a (.a (.a (.a (.a (.a (.a (.a (.a (.m ?_ (.a (.m ?_ .z)))))))))))))))))) ?_
       ·exact DOk.one fun r hr=>z1f (xs:=[.d (lD 3 z03 (a3.2.getD (0+(zzi.wrap (a3.1-1)).toNat) zzd))]) (ds:=[lD 3 z03 (a3.2.getD (0+(zzi.wrap (a3.1-1)).toNat) zzd)]) ((fun xs=>[encL 3 z03 xs])) a3.2 (a3.2.getD (0+(zzi.wrap (a3.1-1)).toNat) zzd) rfl (by kernel_rfl) rfl rfl rfl hc12 rfl rfl (.refl _) rfl rfl rfl rfl
       ·exact DOk.one fun r hr=>z1f (xs:=[.d (lD 3 z03 (a3.2.getD (0+a3.1.toNat) zzd))]) (ds:=[lD 3 z03 (a3.2.getD (0+a3.1.toNat) zzd)]) ((fun xs=>[encL 3 z03 xs])) (a3.2.set (0+a3.1.toNat) (a3.2.getD (0+(zzi.wrap (a3.1-1)).toNat) zzd)) (a3.2.getD (0+a3.1.toNat) zzd) rfl (by kernel_rfl) rfl rfl rfl hc14 rfl rfl (.refl _) rfl rfl rfl rfl
       exact⟨rfl,rfl⟩
      ·refine At.eqS (s':=⟨[(0,.c (oC 5000 1 ((a3.2.set (0+a3.1.toNat) (a3.2.getD (0+(zzi.wrap (a3.1-1)).toNat) zzd)).set (0+(zzi.wrap (a3.1-1)).toNat) (a3.2.getD (0+a3.1.toNat) zzd)))),(1,cD (dI p1)),(2,cD (dI p2)),(3,cD (.fn 67 [])),(8,cD (dI a1.1)),(9,cD (dI a3.1))],[(5000,vL 1 (fun xs=>[encL 3 z03 xs]) ((a3.2.set (0+a3.1.toNat) (a3.2.getD (0+(zzi.wrap (a3.1-1)).toNat) zzd)).set (0+(zzi.wrap (a3.1-1)).toNat) (a3.2.getD (0+a3.1.toNat) zzd)))]⟩) (by simp only[oC,vL,zzf]) ?_;refine At.done rfl ?_;refine z07 ?_;refine At.sg 3 [0,1,2,3,8,9] [5000] (z00 3) ?_;refine At.done rfl ?_;cases h;exact kr
     ·refine Tri.kp [0,1,2,3,8,9] [5000] ?_;refine Tri.exit ?_;cases h;exact⟨rfl,kr⟩
    ·rcases z2x h with⟨hp15,h⟩|⟨hp15,h⟩
     ·obtain⟨hc16,h⟩:=z06 h;obtain⟨hc17,h⟩:=z06 h;obtain⟨hc18,h⟩:=z06 h;obtain⟨hc19,h⟩:=z06 h;obtain⟨r20,hr20,h⟩:=z05 h;refine z0l [.a [9] [],.a [1] [],.a [18,19] [],.m ⟨[(20,cD (.bool (decide (p1<a3.1))))],[]⟩ ⟨[(21,.c (.d (.bool true)))],[]⟩ [] [] [],.a [3,21] [],.a [0,21] [],.a [9,21] [],.a [21,23,24] [5000],.a [21,25] [5000],.a [0,21] [],.a [9,21] [],.a [21,28] [],.a [21,27,29] [5000],.a [21,30] [5000],.m ⟨[(21,cD (.bool true)),(22,cD (.fn 67 [])),(26,cD (lD 3 z03 (a3.2.getD (0+a3.1.toNat) zzd))),(31,cD (lD 3 z03 (a3.2.getD (0+(zzi.wrap (a3.1-1)).toNat) zzd)))],[]⟩ ⟨[(32,cD (dI r20))],[]⟩ [] [] [],.a [21,32] [],.a [21,33] []] [0,1,2,3,8,9,34] [5000] (tN 6 (ai hc16 (ai hc17 (tN 3 (ai hc18 (ai hc19 (z00 2))))))) (.a (.a (.a (.m ?_ (.a (.a (.a (.a (.a (.a (.a (.a (.a (.a (.m ?_ (.a (.a .z))))))))))))))))) ?_
      ·exact DOk.stepP (fun b=> .val (.c (.d (.bool b))) (True)) (p:=(decide (p1<a3.1))) hp15 (fun r=>by kernel_rfl) (fun r=>by kernel_rfl) trivial (by kernel_rfl) (by kernel_rfl) (fun r=>rfl)
      ·exact DOk.cA [] [cD (lD 3 z03 (a3.2.getD (0+a3.1.toNat) zzd)),cD (lD 3 z03 (a3.2.getD (0+(zzi.wrap (a3.1-1)).toNat) zzd))] (z4h hr20) fun r=>(.cons (.refl _) (.cons (.refl _) .nil))
      exact⟨_,h,kr⟩
     ·refine z0l [.a [9] [],.a [1] [],.a [18,19] [],.m ⟨[(20,cD (.bool (decide (p1<a3.1))))],[]⟩ ⟨[(21,.c (.d (.bool false)))],[]⟩ [] [] [],.a [3,21] [],.a [0,21] [],.a [9,21] [],.a [21,23,24] [],.a [21,25] [],.a [0,21] [],.a [9,21] [],.a [21,28] [],.a [21,27,29] [],.a [21,30] [],.a [21,22,26,31] [],.a [21,32] [],.a [21,33] []] [0,1,2,3,8,9,34] [5000] (z00 4) (.a (.a (.a (.m ?_ (.a (.a (.a (.a (.a (.a (.a (.a (.a (.a (.a (.a (.a .z))))))))))))))))) ?_
      ·exact DOk.stepP (fun b=> .val (.c (.d (.bool b))) (True)) (p:=(decide (p1<a3.1))) hp15 (fun r=>by kernel_rfl) (fun r=>by kernel_rfl) trivial (by kernel_rfl) (by kernel_rfl) (fun r=>rfl)
      exact⟨_,h,kr⟩
   ·intro a4 h;refine z07 ?_;refine At.sg 3 [0,1,2,3,8] [5000] (z00 3) ?_;refine At.done rfl ?_;cases h;exact kr
   ·exact fun x=>x.elim
  ·refine Tri.kp [] [5000] ?_;refine Tri.exit ?_;cases h;exact⟨rfl,kr⟩
 ·intro a2 h;cases h;exact RetAt.k
 ·exact fun x=>x.elim
theorem z4s {fuel:Nat}{p1:Int}{p2:Int}{p3:Int}{l0:List (List Value)}{q:List (List Value)}(h:z1x fuel p1 p2 p3 l0=some q):
 Summ Tryz.prog 143 [.c (oC 5000 1 l0),cD (dI p1),cD (dI p2),cD (dI p3),cD (.fn 67 [])] [(5000,vL 1 (fun xs=>[encL 3 z03 xs]) l0)] (.tup []) [(5000,vL 1 (fun xs=>[encL 3 z03 xs]) q)]:=by
 refine Summ.i Tryz.func143 rfl [] fun w0 G0 V LL φ0 rd=>?_;unfold z1x at h;refine Tri.sg [0,1,2,3,4,10] [5000] (z00 1) ?_;refine Tri.sg [0,1,2,3,4,10,11] [5000] (z00 1) ?_;refine z2s () (fun(x:List (List Value)) s=>RetAt Tryz.prog Tryz.f143 (.tup []) [(5000,vL 1 (fun xs=>[encL 3 z03 xs]) x)] s) (fun(a1:Unit)=>⟨[(0,.c (oC 5000 1 l0)),(1,cD (dI p1)),(2,cD (dI p2)),(3,cD (dI p3)),(4,cD (.fn 67 [])),(10,cD (.bool true)),(11,cD (.bool true))],[(5000,vL 1 (fun xs=>[encL 3 z03 xs]) l0)]⟩) [0,1,2,3,4,10,11] [5000] h ?_ ?_ ?_
 ·intro a1 c h;refine z0s ?_;refine Tri.sg [0,1,2,3,4,10,11,12] [5000] (z00 4) ?_;refine z02 ?_;refine Tri.sg [0,1,2,3,4,10,11,12,25] [5000] (z00 2) ?_;refine z08 h (fun h=>?_) (fun h=>?_)
  ·refine z02 ?_;refine z07 ?_;refine At.sg 4 [26,27,28,29] [5000] (z00 4) ?_;obtain⟨r3,hr3,h⟩:=z05 h;refine z2k 0 [] [.c (oC 5000 1 l0),cD (dI p1),cD (dI p2),cD (.fn 67 [])] [(5000,5000)] [] [] (z49 hr3) (.ren rfl rfl (.flat (.refl _) rfl rfl (.flat (.refl _) rfl rfl (.flat (.refl _) rfl rfl .nil)))) ?_;refine At.done rfl ?_;refine Tri.ret ?_;cases h;exact RetAt.k
  ·refine Tri.skip ?_;refine z02 ?_;refine Tri.sg [0,1,2,3,4,10,11,12,32] [5000] (z00 2) ?_;refine z08 h (fun h=>?_) (fun h=>?_)
   ·refine z02 ?_;refine z07 ?_;refine At.sg 4 [33,34,35,36] [5000] (z00 4) ?_;cases h
   ·refine Tri.skip ?_;refine z02 ?_;refine Tri.sg [0,1,2,3,4,10,11,12,39] [5000] (z00 2) ?_;refine Tri.cond (b:=false) (by kernel_rfl) (fun e=>by cases e) (fun _=>?_);refine Tri.skip ?_;refine z02 ?_;refine z07 ?_;refine At.sg 4 [0,1,2,3,4,10,11,12,48,49,50,51] [5000] (z00 4) ?_;cases h
 ·intro a2 h;cases h
 ·exact fun x s hx hr=>by cases hx;exact hr
theorem z3s {fuel:Nat}{l0:List (List Value)}{q:List (List Value)}(h:z1l fuel l0=some q):
 Summ Tryz.prog 85 [.c (oC 5000 1 l0),cD (.fn 67 [])] [(5000,vL 1 (fun xs=>[encL 3 z03 xs]) l0)] (.tup []) [(5000,vL 1 (fun xs=>[encL 3 z03 xs]) q)]:=by
 refine Summ.i Tryz.func85 rfl [] fun w0 G0 V LL φ0 rd=>?_;unfold z1l at h;refine Tri.sg [0,1,4] [5000] (z00 3) ?_;refine z07 ?_;refine At.sg 4 [1,7,8,10] [5000] (z00 4) ?_;obtain⟨r1,hr1,h⟩:=z05 h;refine At.cA [] [cD (dU (zzu.wrap (l0.length:Int)))] (zb1 hr1) (.cons (.refl _) .nil) ?_;refine At.sg 1 [7,8,11,12] [5000] (z00 1) ?_;obtain⟨r2,hr2,h⟩:=z05 h;refine z2k 0 [] [.c (oC 5000 1 l0),cD (dI 0),cD (dI (l0.length:Int)),cD (dI r1),cD (.fn 67 [])] [(5000,5000)] [] [] (z4s hr2) (.ren rfl rfl (.flat (.refl _) rfl rfl (.flat (.refl _) rfl rfl (.flat (.refl _) rfl rfl (.flat (.refl _) rfl rfl .nil))))) ?_;refine At.keep [] [5000] (s':=⟨[],[(5000,vL 1 (fun xs=>[encL 3 z03 xs]) r2)]⟩) (by kernel_rfl) ?_;refine At.done rfl ?_;cases h;exact RetAt.k
theorem zh9 {p0:List Value}{p1:List Value}{q:Bool}(h:zbq p0 p1=some q):
 Summ Tryz.prog 87 [cD (lD 3 z03 p0),cD (lD 3 z03 p1)] [] (cD (.bool q)) []:=by
 refine Summ.i Tryz.func87 rfl [] fun w0 G0 V LL φ0 rd=>?_;unfold zbq at h;refine Tri.sg [0,1] [] (z00 1) ?_;refine z02 ?_;refine z07 ?_;refine At.sg 2 [5,6] [] (z00 2) ?_;obtain⟨r1,hr1,h⟩:=z05 h;refine At.cA [] [cD (lD 3 z03 p0),cD (lD 3 z03 p1)] (z4h hr1) (.cons (.refl _) (.cons (.refl _) .nil)) ?_;refine At.sg 2 [4] [] (z00 2) ?_;refine At.done rfl ?_;refine Tri.ret ?_;cases h;exact RetAt.k
theorem z3k {fuel:Nat}{p0:List (List Value)}{q:List (List Value)}(h:z1g fuel p0=some q):
 Summ Tryz.prog 86 [cD (lD 1 (fun xs=>[encL 3 z03 xs]) p0),cD (.fn 87 [])] [] (cD (lD 1 (fun xs=>[encL 3 z03 xs]) q)) []:=by
 refine Summ.i Tryz.func86 rfl [] fun w0 G0 V LL φ0 rd=>?_;unfold z1g at h;refine Tri.sg [0,1] [] (z00 1) ?_;refine z02 ?_;refine Tri.sg [0,1,10] [] (z00 3) ?_;refine z08 h (fun h=>?_) (fun h=>?_)
 ·refine Tri.sg [4] [] (z00 2) ?_;refine Tri.ret ?_;cases h;exact RetAt.k
 ·refine Tri.skip ?_;refine z02 ?_;refine Tri.sg [0,1,5] [] (z00 1) ?_;refine z2s (1) (fun(x:List (List Value)) s=>RetAt Tryz.prog Tryz.f86 (cD (lD 1 (fun xs=>[encL 3 z03 xs]) x)) [] s) (fun(a1:Int)=>⟨[(0,cD (lD 1 (fun xs=>[encL 3 z03 xs]) p0)),(1,cD (.fn 87 [])),(5,cD (dI a1))],[]⟩) [0,1,5] [] h ?_ ?_ ?_
  ·intro a1 c h;refine z02 ?_;refine Tri.sg [0,1,5,15] [] (z00 4) ?_;refine z08 h (fun h=>?_) (fun h=>?_)
   ·refine Tri.skip ?_;refine z02 ?_;refine z0s ?_;refine z02 ?_;obtain⟨hc3,h⟩:=z06 h;obtain⟨hc4,h⟩:=z06 h;obtain⟨r5,hr5,h⟩:=z05 h;refine z0l [.a [1] [],.a [0] [],.a [5] [],.a [19,20] [],.a [21] [],.a [0] [],.a [5] [],.a [24] [],.a [23,25] [],.a [26] [],.m ⟨[(18,cD (.fn 87 [])),(22,cD (lD 3 z03 (p0.getD a1.toNat zzd))),(27,cD (lD 3 z03 (p0.getD ((zzi.wrap (a1-1)).toNat) zzd)))],[]⟩ ⟨[(28,cD (.bool r5))],[]⟩ [] [] []] [0,1,5,28] [] (tN 3 (ai hc3 (tN 4 (ai hc4 (z00 1))))) (.a (.a (.a (.a (.a (.a (.a (.a (.a (.a (.m ?_ .z))))))))))) ?_
    ·exact DOk.cA [] [cD (lD 3 z03 (p0.getD a1.toNat zzd)),cD (lD 3 z03 (p0.getD ((zzi.wrap (a1-1)).toNat) zzd))] (zh9 hr5) fun r=>(.cons (.refl _) (.cons (.refl _) .nil))
    refine z08 h (fun h=>?_) (fun h=>?_)
    ·cases h
    ·refine Tri.skip ?_;refine z07 ?_;refine At.sg 3 [0,1,5] [] (z00 3) ?_;refine At.done rfl ?_;cases h;exact kr
   ·refine Tri.kp [0,1,5] [] ?_;refine Tri.exit ?_;cases h;exact⟨rfl,kr⟩
  ·intro a2 h;refine Tri.sg [4] [] (z00 2) ?_;refine Tri.ret ?_;cases h;exact RetAt.k
  ·exact fun x s hx hr=>by cases hx;exact hr
theorem zea {fuel:Nat}{p0:List Update}{q:List (List Value)}(h:zbd fuel p0=some q):
 Summ Tryz.prog 37 [cD (lD 6 z01 p0)] [] (cD (lD 1 (fun xs=>[encL 3 z03 xs]) q)) []:=by
 refine Summ.i Tryz.func37 rfl [] fun w0 G0 V LL φ0 rd=>?_;unfold zbd at h;refine Tri.sg [0] [] (z00 1) ?_;refine z02 ?_;refine z07 ?_;refine At.seg 2 [0,7] [] (s':=⟨[(0,cD (lD 6 z01 p0)),(7,cD (dI (p0.length:Int)))],[]⟩) (by kernel_rfl) (z00 2) ?_;obtain⟨hc1,h⟩:=z06 h;refine At.one rfl (zdp (e:=51) (es:=1) (bs:=24) (n:=(p0.length:Int)) (c:=(p0.length:Int)) (z:=[.zero]) ((fun xs=>[encL 3 z03 xs])) (([]:List Value):List Value) rfl rfl rfl rfl (by kernel_rfl) rfl rfl rfl (by kernel_rfl) rfl (by kernel_rfl) rfl (.cons (.zero _ _) .nil) rfl rfl rfl hc1.1 hc1.2.1 hc1.2.2 rfl) ?_;refine At.sg 1 [0,3] [8] (z00 1) ?_;refine At.done rfl ?_;refine z02 ?_;refine Tri.sg [3,9,10,11] [8] (z00 3) ?_;refine Tri.ln 9 p0.length fun hlena3=>?_;refine z1m 11 (zz8 p0.length (([]:List Value):List Value)) (fun(x:Empty) s=>False) (fun(a3:List (List Value))=>⟨[(3,.c (oC 8 1 a3)),(9,cD (lD 6 z01 p0)),(10,cD (dI (p0.length:Int)))],[(8,vL 1 (fun xs=>[encL 3 z03 xs]) a3)]⟩) [11,3,9,10] [8] [12,11,3,9,10] [8] [3,9,10] [8] [11,3,9,10] [8] h hlena3 ?_ ?_ ?_
 ·intro i2 a3 c hii2 h;refine Tri.sg [3,4,5,9,10,11] [5,8] (tN 1 (ai (show((0:Int)≤((i2:Nat):Int)∧((i2:Nat):Int)<(p0.length:Int))from⟨by omega,by omega⟩) (z00 4))) ?_;refine z07 ?_;obtain⟨hc8,h⟩:=z06 h;refine At.seg 5 [3,9,10,11,19,20] [8] (s':=⟨[(3,.c (oC 8 1 a3)),(9,cD (lD 6 z01 p0)),(10,cD (dI (p0.length:Int))),(11,cD (dI ((i2:Nat):Int))),(19,cD (lD 3 z03 ((p0.getD i2 zzd).key))),(20,.c (.vptr 8 1 (0+i2) 0))],[(8,vL 1 (fun xs=>[encL 3 z03 xs]) a3)]⟩) (by kernel_rfl) (tN 4 (ai hc8 trivial)) ?_;obtain⟨hc9,h⟩:=z06 h;refine At.one rfl (z1f (xs:=[.d (lD 3 z03 ((p0.getD i2 zzd).key))]) (ds:=[lD 3 z03 ((p0.getD i2 zzd).key)]) ((fun xs=>[encL 3 z03 xs])) a3 ((p0.getD i2 zzd).key) rfl rfl rfl rfl rfl hc9 rfl rfl (.refl _) rfl rfl rfl rfl) ?_;refine At.keep [3,9,10,11] [8] (s':=⟨[(3,.c (oC 8 1 a3)),(9,cD (lD 6 z01 p0)),(10,cD (dI (p0.length:Int))),(11,cD (dI ((i2:Nat):Int)))],[(8,vL 1 (fun xs=>[encL 3 z03 xs]) (a3.set (0+i2) ((p0.getD i2 zzd).key)))]⟩) (by kernel_rfl) ?_;refine At.eqS (s':=⟨[(3,.c (oC 8 1 (a3.set (0+i2) ((p0.getD i2 zzd).key)))),(9,cD (lD 6 z01 p0)),(10,cD (dI (p0.length:Int))),(11,cD (dI ((i2:Nat):Int)))],[(8,vL 1 (fun xs=>[encL 3 z03 xs]) (a3.set (0+i2) ((p0.getD i2 zzd).key)))]⟩) (by simp only[oC,vL,zzf]) ?_;refine At.keep [11,3,9,10] [8] (s':=⟨[(11,cD (dI ((i2:Nat):Int))),(3,.c (oC 8 1 (a3.set (0+i2) ((p0.getD i2 zzd).key)))),(9,cD (lD 6 z01 p0)),(10,cD (dI (p0.length:Int)))],[(8,vL 1 (fun xs=>[encL 3 z03 xs]) (a3.set (0+i2) ((p0.getD i2 zzd).key)))]⟩) (by kernel_rfl) ?_;refine At.done rfl ?_;cases h;exact kr
 ·intro a4 h;refine z02 ?_;refine z07 ?_;refine At.sg 1 [3,22] [8] (z00 1) ?_;obtain⟨r5,hr5,h⟩:=z05 h;refine At.callL (nf:=0) (caps:=[]) (xs:=[.c (oC 8 1 a4),cD (.fn 67 [])]) [(5000,8)] [3] [] (s0:=⟨[(3,.c (oC 8 1 a4))],[]⟩) (z3s hr5) rfl rfl (by kernel_rfl) rfl (by kernel_rfl) (by kernel_rfl) (.ren rfl rfl (.flat (.refl _) rfl rfl .nil)) ⟨⟨by kernel_rfl,by kernel_rfl⟩,trivial⟩ (by kernel_rfl) (by kernel_rfl) (by kernel_rfl) (by kernel_rfl) (by kernel_rfl) (by kernel_rfl) (by kernel_rfl) (by kernel_rfl) (by kernel_rfl) ⟨[(23,.tup []),(3,.c (oC 8 1 a4))],[(8,vL 1 (fun xs=>[encL 3 z03 xs]) r5)]⟩ (by kernel_rfl) ?_;obtain⟨hc6,h⟩:=z06 h;refine At.eqS ⟨[(23,.tup []),(3,.c (oC 8 1 r5))],[(8,vL 1 (fun xs=>[encL 3 z03 xs]) r5)]⟩ (by simp only[oC,vL,hc6]) ?_;refine At.done rfl ?_;refine z02 ?_;refine z07 ?_;refine At.seg 1 [24] [8] (s':=⟨[(24,.c (oC 8 1 r5))],[(8,vL 1 (fun xs=>[encL 3 z03 xs]) r5)]⟩) (by kernel_rfl) (z00 1) ?_;obtain⟨r7,hr7,h⟩:=z05 h;refine At.l [8] ⟨[(24,cD (lD 1 (fun xs=>[encL 3 z03 xs]) r5))],[]⟩ ⟨⟨_,rfl,.c (CLe.frozen ((fun xs=>[encL 3 z03 xs])) r5 rfl (by simp))⟩,trivial⟩ trivial ?_;refine At.cA [] [cD (lD 1 (fun xs=>[encL 3 z03 xs]) r5),cD (.fn 87 [])] (z3k hr7) (.cons (.refl _) (.cons (.refl _) .nil)) ?_;refine At.sg 1 [2] [] (z00 1) ?_;refine At.done rfl ?_;refine Tri.ret ?_;cases h;exact RetAt.k
 ·exact fun x=>x.elim
theorem z8z {l0:Trace}{q:(List (List Update))×Trace}(h:z5m l0=some q):
 Summ Tryz.prog 185 [.c (.ptr 5000 0)] [(5000,.box (cSpine l0.spine))] (cD (lD 1 (fun xs=>[encL 6 z01 xs]) q.1)) [(5000,.box (cSpine q.2.spine))]:=by
 refine Summ.i Tryz.func185 rfl [] fun w0 G0 V LL φ0 rd=>?_;unfold z5m at h;refine Tri.sg [0] [5000] (z00 1) ?_;refine Tri.sg [0,3] [5000] (z00 1) ?_;refine z02 ?_;refine z1u [3,11,12,13] [5000] ⟨[(3,.c (.zero)),(11,cD (lD 10 z09 l0.spine.levels)),(12,cD (dI (l0.spine.levels.length:Int))),(13,cD (dI 0))],[(5000,.box (cSpine l0.spine))]⟩ _ (by kernel_rfl) (z00 7) ?_;refine Tri.ln 11 l0.spine.levels.length fun hlena2=>?_;refine Tri.newOwn (t:=3) (k:=1003) (es:=1) (fun i=>(fun xs=>[encL 6 z01 xs]) (([]:List (List Update)).getD i zzd)) rfl rfl rfl ?_;refine z1m 13 ([]:List (List Update)) (fun(x:Empty) s=>False) (fun(a2:List (List Update))=>⟨[(3,.c (oC 1003 1 a2)),(11,cD (lD 10 z09 l0.spine.levels)),(12,cD (dI (l0.spine.levels.length:Int)))],[(1003,vL 1 (fun xs=>[encL 6 z01 xs]) a2),(5000,.box (cSpine l0.spine))]⟩) [13,3,11,12] [1003,5000] [14,13,3,11,12] [1003,5000] [3,11,12] [1003,5000] [13,3,11,12] [1003,5000] h hlena2 ?_ ?_ ?_
 ·intro i1 a2 c hii1 h;refine Tri.sg [3,5,11,12,13] [5,1003,5000] (ai (show((0:Int)≤((i1:Nat):Int)∧((i1:Nat):Int)<(l0.spine.levels.length:Int))from⟨by omega,by omega⟩) (z00 3)) ?_;refine Tri.sg [3,5,6,11,12,13] [5,6,1003,5000] (z00 4) ?_;obtain⟨hc4,h⟩:=z06 h;obtain⟨hc5,h⟩:=z06 h;obtain⟨hc6,h⟩:=z06 h;refine z0l [.a [3] [],.a [5] [],.a [20] [],.a [21] [5],.a [6] [],.a [23] [6],.a [6] [],.a [25] [6],.m ⟨[(24,cD (lD 6 z01 ((l0.spine.levels.getD i1 zzd).merger.a))),(26,cD (dI ((l0.spine.levels.getD i1 zzd).merger.i)))],[]⟩ ⟨[(27,cD (lD 6 z01 (sub ((l0.spine.levels.getD i1 zzd).merger.a) ((l0.spine.levels.getD i1 zzd).merger.i) (((l0.spine.levels.getD i1 zzd).merger.a).length:Int))))],[]⟩ [] [] [],.a [6] [],.a [28] [6],.a [6] [],.a [30] [6],.m ⟨[(29,cD (lD 6 z01 ((l0.spine.levels.getD i1 zzd).merger.b))),(31,cD (dI ((l0.spine.levels.getD i1 zzd).merger.j)))],[]⟩ ⟨[(32,cD (lD 6 z01 (sub ((l0.spine.levels.getD i1 zzd).merger.b) ((l0.spine.levels.getD i1 zzd).merger.j) (((l0.spine.levels.getD i1 zzd).merger.b).length:Int))))],[]⟩ [] [] [],.a [6] [],.a [33] [6],.m ⟨[(22,cD (lD 6 z01 ((l0.spine.levels.getD i1 zzd).batch.updates))),(27,cD (lD 6 z01 (sub ((l0.spine.levels.getD i1 zzd).merger.a) ((l0.spine.levels.getD i1 zzd).merger.i) (((l0.spine.levels.getD i1 zzd).merger.a).length:Int)))),(32,cD (lD 6 z01 (sub ((l0.spine.levels.getD i1 zzd).merger.b) ((l0.spine.levels.getD i1 zzd).merger.j) (((l0.spine.levels.getD i1 zzd).merger.b).length:Int)))),(34,cD (lD 6 z01 ((l0.spine.levels.getD i1 zzd).merger.out)))],[]⟩ ⟨[(35,.c (oC 35 1 ([(l0.spine.levels.getD i1 zzd).batch.updates,(sub ((l0.spine.levels.getD i1 zzd).merger.a) ((l0.spine.levels.getD i1 zzd).merger.i) (((l0.spine.levels.getD i1 zzd).merger.a).length:Int)),(sub ((l0.spine.levels.getD i1 zzd).merger.b) ((l0.spine.levels.getD i1 zzd).merger.j) (((l0.spine.levels.getD i1 zzd).merger.b).length:Int)),(l0.spine.levels.getD i1 zzd).merger.out]:List (List Update))))],[(35,vL 1 (fun xs=>[encL 6 z01 xs]) ([(l0.spine.levels.getD i1 zzd).batch.updates,(sub ((l0.spine.levels.getD i1 zzd).merger.a) ((l0.spine.levels.getD i1 zzd).merger.i) (((l0.spine.levels.getD i1 zzd).merger.a).length:Int)),(sub ((l0.spine.levels.getD i1 zzd).merger.b) ((l0.spine.levels.getD i1 zzd).merger.j) (((l0.spine.levels.getD i1 zzd).merger.b).length:Int)),(l0.spine.levels.getD i1 zzd).merger.out]:List (List Update)))]⟩ [35] [] [],.m ⟨[(3,.c (oC 1003 1 a2)),(19,.c (oC 1003 1 a2)),(35,.c (oC 35 1 ([(l0.spine.levels.getD i1 zzd).batch.updates,(sub ((l0.spine.levels.getD i1 zzd).merger.a) ((l0.spine.levels.getD i1 zzd).merger.i) (((l0.spine.levels.getD i1 zzd).merger.a).length:Int)),(sub ((l0.spine.levels.getD i1 zzd).merger.b) ((l0.spine.levels.getD i1 zzd).merger.j) (((l0.spine.levels.getD i1 zzd).merger.b).length:Int)),(l0.spine.levels.getD i1 zzd).merger.out]:List (List Update))))],[(35,vL 1 (fun xs=>[encL 6 z01 xs]) ([(l0.spine.levels.getD i1 zzd).batch.updates,(sub ((l0.spine.levels.getD i1 zzd).merger.a) ((l0.spine.levels.getD i1 zzd).merger.i) (((l0.spine.levels.getD i1 zzd).merger.a).length:Int)),(sub ((l0.spine.levels.getD i1 zzd).merger.b) ((l0.spine.levels.getD i1 zzd).merger.j) (((l0.spine.levels.getD i1 zzd).merger.b).length:Int)),(l0.spine.levels.getD i1 zzd).merger.out]:List (List Update))),(1003,vL 1 (fun xs=>[encL 6 z01 xs]) a2)]⟩ ⟨[(36,.c (oC 1003 1 (a2++([(l0.spine.levels.getD i1 zzd).batch.updates,(sub ((l0.spine.levels.getD i1 zzd).merger.a) ((l0.spine.levels.getD i1 zzd).merger.i) (((l0.spine.levels.getD i1 zzd).merger.a).length:Int)),(sub ((l0.spine.levels.getD i1 zzd).merger.b) ((l0.spine.levels.getD i1 zzd).merger.j) (((l0.spine.levels.getD i1 zzd).merger.b).length:Int)),(l0.spine.levels.getD i1 zzd).merger.out]:List (List Update))))),(3,.c (.any)),(19,.c (.any))],[(1003,vL 1 (fun xs=>[encL 6 z01 xs]) (a2++([(l0.spine.levels.getD i1 zzd).batch.updates,(sub ((l0.spine.levels.getD i1 zzd).merger.a) ((l0.spine.levels.getD i1 zzd).merger.i) (((l0.spine.levels.getD i1 zzd).merger.a).length:Int)),(sub ((l0.spine.levels.getD i1 zzd).merger.b) ((l0.spine.levels.getD i1 zzd).merger.j) (((l0.spine.levels.getD i1 zzd).merger.b).length:Int)),(l0.spine.levels.getD i1 zzd).merger.out]:List (List Update))))]⟩ [1003] [3,19] [],.a [36] []] [13,3,11,12] [1003,5000] (z00 15) (.a (.a (.a (.a (.a (.a (.a (.a (.m ?_ (.a (.a (.a (.a (.m ?_ (.a (.a (.m ?_ (.m ?_ (.a .z))))))))))))))))))) ?_
  ·exact DOk.one fun r _=>zig (z01) (l:=(l0.spine.levels.getD i1 zzd).merger.i) (h:=(((l0.spine.levels.getD i1 zzd).merger.a).length:Int)) hc4 hc4 (by kernel_rfl) rfl (by kernel_rfl) (by kernel_rfl)
  ·exact DOk.one fun r _=>zig (z01) (l:=(l0.spine.levels.getD i1 zzd).merger.j) (h:=(((l0.spine.levels.getD i1 zzd).merger.b).length:Int)) hc5 hc5 (by kernel_rfl) rfl (by kernel_rfl) (by kernel_rfl)
  ·exact DOk.one fun r hr=>z4u (e:=22) (es:=1) (z:=[.zero]) (cells:=[.d (lD 6 z01 ((l0.spine.levels.getD i1 zzd).batch.updates)),.d (lD 6 z01 (sub ((l0.spine.levels.getD i1 zzd).merger.a) ((l0.spine.levels.getD i1 zzd).merger.i) (((l0.spine.levels.getD i1 zzd).merger.a).length:Int))),.d (lD 6 z01 (sub ((l0.spine.levels.getD i1 zzd).merger.b) ((l0.spine.levels.getD i1 zzd).merger.j) (((l0.spine.levels.getD i1 zzd).merger.b).length:Int))),.d (lD 6 z01 ((l0.spine.levels.getD i1 zzd).merger.out))]) ((fun xs=>[encL 6 z01 xs])) ([(l0.spine.levels.getD i1 zzd).batch.updates,(sub ((l0.spine.levels.getD i1 zzd).merger.a) ((l0.spine.levels.getD i1 zzd).merger.i) (((l0.spine.levels.getD i1 zzd).merger.a).length:Int)),(sub ((l0.spine.levels.getD i1 zzd).merger.b) ((l0.spine.levels.getD i1 zzd).merger.j) (((l0.spine.levels.getD i1 zzd).merger.b).length:Int)),(l0.spine.levels.getD i1 zzd).merger.out]:List (List Update)) rfl (by kernel_rfl) rfl rfl (z2v (by kernel_rfl) (hr 35 (by simp))) (by kernel_rfl) rfl (by kernel_rfl) rfl rfl rfl (by kernel_rfl) rfl ⟨⟨rfl,.refl _⟩,⟨rfl,.refl _⟩,⟨rfl,.refl _⟩,⟨rfl,.refl _⟩,trivial⟩
  ·exact DOk.drop (k:=1003) (d:=36) (v:=vL 1 (fun xs=>[encL 6 z01 xs]) (a2++([(l0.spine.levels.getD i1 zzd).batch.updates,(sub ((l0.spine.levels.getD i1 zzd).merger.a) ((l0.spine.levels.getD i1 zzd).merger.i) (((l0.spine.levels.getD i1 zzd).merger.a).length:Int)),(sub ((l0.spine.levels.getD i1 zzd).merger.b) ((l0.spine.levels.getD i1 zzd).merger.j) (((l0.spine.levels.getD i1 zzd).merger.b).length:Int)),(l0.spine.levels.getD i1 zzd).merger.out]:List (List Update)))) (av:= .c (oC 1003 1 (a2++([(l0.spine.levels.getD i1 zzd).batch.updates,(sub ((l0.spine.levels.getD i1 zzd).merger.a) ((l0.spine.levels.getD i1 zzd).merger.i) (((l0.spine.levels.getD i1 zzd).merger.a).length:Int)),(sub ((l0.spine.levels.getD i1 zzd).merger.b) ((l0.spine.levels.getD i1 zzd).merger.j) (((l0.spine.levels.getD i1 zzd).merger.b).length:Int)),(l0.spine.levels.getD i1 zzd).merger.out]:List (List Update))))) rfl (fun r hr=>z3f (e:=22) (es:=1) ((fun xs=>[encL 6 z01 xs])) a2 ([(l0.spine.levels.getD i1 zzd).batch.updates,(sub ((l0.spine.levels.getD i1 zzd).merger.a) ((l0.spine.levels.getD i1 zzd).merger.i) (((l0.spine.levels.getD i1 zzd).merger.a).length:Int)),(sub ((l0.spine.levels.getD i1 zzd).merger.b) ((l0.spine.levels.getD i1 zzd).merger.j) (((l0.spine.levels.getD i1 zzd).merger.b).length:Int)),(l0.spine.levels.getD i1 zzd).merger.out]:List (List Update)) rfl rfl (by kernel_rfl) rfl rfl (.of 22 24 [.zero] (by kernel_rfl) (by kernel_rfl) (by kernel_rfl) (by kernel_rfl) rfl (by kernel_rfl) rfl) rfl rfl rfl (.own rfl (by simp) rfl (zjf ((fun xs=>[encL 6 z01 xs])) ([(l0.spine.levels.getD i1 zzd).batch.updates,(sub ((l0.spine.levels.getD i1 zzd).merger.a) ((l0.spine.levels.getD i1 zzd).merger.i) (((l0.spine.levels.getD i1 zzd).merger.a).length:Int)),(sub ((l0.spine.levels.getD i1 zzd).merger.b) ((l0.spine.levels.getD i1 zzd).merger.j) (((l0.spine.levels.getD i1 zzd).merger.b).length:Int)),(l0.spine.levels.getD i1 zzd).merger.out]:List (List Update)) _)) hc6) (by kernel_rfl) (by kernel_rfl) (by kernel_rfl) (by kernel_rfl)
  cases h;exact kr
 ·intro a3 h;refine Tri.sg [2] [1003,5000] (z00 2) ?_;refine Tri.keep [2] [1003,5000] (s':=⟨[(2,.c (oC 1003 1 a3))],[(1003,vL 1 (fun xs=>[encL 6 z01 xs]) a3),(5000,.box (cSpine l0.spine))]⟩) (by kernel_rfl) ?_;refine Tri.l [1003] ⟨[(2,cD (lD 1 (fun xs=>[encL 6 z01 xs]) a3))],[(5000,.box (cSpine l0.spine))]⟩ ⟨⟨_,rfl,.c (CLe.frozen ((fun xs=>[encL 6 z01 xs])) a3 rfl (by simp))⟩,trivial⟩ ⟨⟨_,rfl,.refl _,(by simp)⟩,trivial⟩ ?_;refine Tri.ret ?_;cases h;exact RetAt.k
 ·exact fun x=>x.elim
theorem z50 {p0:List (List Update)}{q:List Update}(h:z0h p0=some q):
 Summ Tryz.prog 47 [cD (lD 1 (fun xs=>[encL 6 z01 xs]) p0)] [] (cD (lD 6 z01 q)) []:=by
 refine Summ.i Tryz.func47 rfl [] fun w0 G0 V LL φ0 rd=>?_;unfold z0h at h;refine Tri.sg [0] [] (z00 1) ?_;refine Tri.sg [0,3] [] (z00 1) ?_;refine z02 ?_;refine Tri.sg [0,3,9,10,11] [] (z00 3) ?_;refine Tri.ln 9 p0.length fun hlena2=>?_;refine z1m 11 (0) (fun(x:Empty) s=>False) (fun(a2:Int)=>⟨[(0,cD (lD 1 (fun xs=>[encL 6 z01 xs]) p0)),(3,cD (dI a2)),(9,cD (lD 1 (fun xs=>[encL 6 z01 xs]) p0)),(10,cD (dI (p0.length:Int)))],[]⟩) [11,0,3,9,10] [] [12,11,0,3,9,10] [] [0,3,9,10] [] [11,0,3,9,10] [] h hlena2 ?_ ?_ ?_
 ·intro i1 a2 c hii1 h;refine Tri.sg [0,3,5,9,10,11] [] (ai (show((0:Int)≤((i1:Nat):Int)∧((i1:Nat):Int)<(p0.length:Int))from⟨by omega,by omega⟩) (z00 2)) ?_;refine Tri.sg [0,3,9,10,11] [] (z00 5) ?_;refine Tri.sg [0,3,9,10,11,20] [] (z00 2) ?_;refine z08 h (fun h=>?_) (fun h=>?_)
  ·refine z07 ?_;cases h
  ·refine Tri.kp [11,0,3,9,10] [] ?_;refine Tri.skip ?_;cases h;exact kr
 ·intro a3 h;refine z02 ?_;refine z07 ?_;refine At.sg 1 [0,23] [] (z00 1) ?_;obtain⟨r4,hr4,h⟩:=z05 h;refine z2k 0 [] [.c (.zero),cD (dI a3)] [(6000,30384)] [0] [] (z2o hr4) (.flat (.refl _) rfl rfl (.flat (.refl _) rfl rfl .nil)) ?_;refine At.sg 1 [0,6] [30384] (z00 1) ?_;refine At.done rfl ?_;refine z02 ?_;refine Tri.sg [6,25,26,27] [30384] (z00 3) ?_;refine Tri.ln 25 p0.length fun hlena6=>?_;refine z1m 27 (r4) (fun(x:Empty) s=>False) (fun(a6:List Update)=>⟨[(6,.c (oC 30384 6 a6)),(25,cD (lD 1 (fun xs=>[encL 6 z01 xs]) p0)),(26,cD (dI (p0.length:Int)))],[(30384,vL 6 z01 a6)]⟩) [27,6,25,26] [30384] [28,27,6,25,26] [30384] [6,25,26] [30384] [27,6,25,26] [30384] h hlena6 ?_ ?_ ?_
  ·intro i5 a6 c hii5 h;refine Tri.sg [6,8,25,26,27] [30384] (ai (show((0:Int)≤((i5:Nat):Int)∧((i5:Nat):Int)<(p0.length:Int))from⟨by omega,by omega⟩) (z00 2)) ?_;refine z07 ?_;refine At.seg 2 [25,26,27,31,32] [30384] (s':=⟨[(25,cD (lD 1 (fun xs=>[encL 6 z01 xs]) p0)),(26,cD (dI (p0.length:Int))),(27,cD (dI ((i5:Nat):Int))),(31,.c (oC 30384 6 a6)),(32,cD (lD 6 z01 (p0.getD i5 zzd)))],[(30384,vL 6 z01 a6)]⟩) (by kernel_rfl) (z00 2) ?_;obtain⟨hc8,h⟩:=z06 h;refine At.one rfl (z3f (e:=53) (es:=6) (z01) a6 (p0.getD i5 zzd) rfl rfl rfl rfl rfl (.of 53 80 [.zero,.zero,.d (dU 0),.d (dU 0),.d (dU 0),.d (dI 0)] (by kernel_rfl) (by kernel_rfl) (by kernel_rfl) (by kernel_rfl) rfl (by kernel_rfl) rfl) rfl rfl rfl (.list rfl (fun _ _=>rfl)) hc8) ?_;refine At.sg 1 [27,6,25,26] [30384] (z00 1) ?_;refine At.done rfl ?_;cases h;exact kr
  ·intro a7 h;refine Tri.sg [2] [30384] (z00 2) ?_;refine Tri.keep [2] [30384] (s':=⟨[(2,.c (oC 30384 6 a7))],[(30384,vL 6 z01 a7)]⟩) (by kernel_rfl) ?_;refine Tri.l [30384] ⟨[(2,cD (lD 6 z01 a7))],[]⟩ ⟨⟨_,rfl,.c (CLe.frozen (z01) a7 rfl (by simp))⟩,trivial⟩ trivial ?_;refine Tri.ret ?_;cases h;exact RetAt.k
  ·exact fun x=>x.elim
 ·exact fun x=>x.elim
theorem zfj {p0:Update}{p1:List Value}{q:Bool}(h:za8 p0 p1=some q):
 Summ Tryz.prog 142 [.agg (cUpdate p0),cD (.cptr [lD 3 z03 p1])] [] (cD (.bool q)) []:=by
 refine Summ.i Tryz.func142 rfl [] fun w0 G0 V LL φ0 rd=>?_;unfold za8 at h;refine Tri.l [] ⟨[(0,.agg (cUpdate p0)),(1,.c (.eptr [lD 3 z03 p1]))],[]⟩ ⟨⟨_,rfl,.refl _⟩,⟨_,rfl,.c (.cptrE _)⟩,trivial⟩ trivial ?_;refine Tri.sg [1,2] [2] (z00 2) ?_;refine z02 ?_;refine z07 ?_;refine At.sg 3 [5,6] [] (z00 3) ?_;obtain⟨r1,hr1,h⟩:=z05 h;refine At.cA [] [cD (lD 3 z03 p0.key),cD (lD 3 z03 p1)] (z4h hr1) (.cons (.refl _) (.cons (.refl _) .nil)) ?_;refine At.sg 2 [3] [] (z00 2) ?_;refine At.done rfl ?_;refine Tri.ret ?_;cases h;exact RetAt.k
theorem z6r {fuel:Nat}{p1_0:List Value}{l0:Trace}{q:(List Update)×Int×Trace}(h:z35 fuel p1_0 l0=some q):
 Summ Tryz.prog 141 [.c (.ptr 5000 0),cD (.fn 142 [.cptr [lD 3 z03 p1_0]])] [(5000,.box (cSpine l0.spine))] (.tup [(false,[.d (lD 6 z01 q.1)]),(false,[.d (dI q.2.1)])]) [(5000,.box (cSpine q.2.2.spine))]:=by
 refine Summ.i Tryz.func141 rfl [] fun w0 G0 V LL φ0 rd=>?_;unfold z35 at h;refine Tri.sg [0,1] [5000] (z00 2) ?_;refine Tri.sg [0,1,6] [5000] (z00 1) ?_;refine z02 ?_;refine z02 ?_;refine z07 ?_;refine At.sg 1 [0,1,6,9] [5000] (z00 1) ?_;obtain⟨r1,hr1,h⟩:=z05 h;refine z2k 0 [] [.c (.ptr 5000 0)] [(5000,5000)] [0,1,6] [] (z8z hr1) (.ren rfl rfl .nil) ?_;obtain⟨r2,hr2,h⟩:=z05 h;refine At.cA [] [cD (lD 1 (fun xs=>[encL 6 z01 xs]) r1.1)] (z50 hr2) (.cons (.refl _) .nil) ?_;refine At.seg 2 [0,1,6,11,12,13] [5000] (s':=⟨[(0,.c (.ptr 5000 0)),(1,cD (.fn 142 [.cptr [lD 3 z03 p1_0]])),(6,.c (.zero)),(11,cD (lD 6 z01 r2)),(12,cD (dI (r2.length:Int))),(13,cD (dI 0))],[(5000,.box (cSpine r1.2.spine))]⟩) (by kernel_rfl) (z00 2) ?_;refine At.done rfl ?_;refine Tri.ln 11 r2.length fun hlena4=>?_;refine Tri.newOwn (t:=6) (k:=1006) (es:=6) (fun i=>z01 (([]:List Update).getD i zzd)) rfl rfl rfl ?_;refine z1m 13 ([]:List Update) (fun(x:Empty) s=>False) (fun(a4:List Update)=>⟨[(0,.c (.ptr 5000 0)),(1,cD (.fn 142 [.cptr [lD 3 z03 p1_0]])),(6,.c (oC 1006 6 a4)),(11,cD (lD 6 z01 r2)),(12,cD (dI (r2.length:Int)))],[(1006,vL 6 z01 a4),(5000,.box (cSpine r1.2.spine))]⟩) [13,0,1,6,11,12] [1006,5000] [14,13,0,1,6,11,12] [1006,5000] [0,1,6,11,12] [1006,5000] [13,0,1,6,11,12] [1006,5000] h hlena4 ?_ ?_ ?_
 ·intro i3 a4 c hii3 h;refine Tri.sg [0,1,6,8,11,12,13] [8,1006,5000] (ai (show((0:Int)≤((i3:Nat):Int)∧((i3:Nat):Int)<(r2.length:Int))from⟨by omega,by omega⟩) (z00 3)) ?_;refine z02 ?_;refine z07 ?_;refine At.sg 2 [0,1,6,8,11,12,13,17,18] [8,1006,5000] (z00 2) ?_;obtain⟨r7,hr7,h⟩:=z05 h;refine At.cA [.cptr [lD 3 z03 p1_0]] [.agg (cUpdate (r2.getD i3 zzd)),cD (.cptr [lD 3 z03 p1_0])] (zfj hr7) (.cons (.refl _) (.cons (.refl _) .nil)) ?_;refine At.done rfl ?_;refine z08 h (fun h=>?_) (fun h=>?_)
  ·refine z02 ?_;obtain⟨r8,hr8,h⟩:=z05 h;refine z0l [.a [8] [],.a [20] [8],.a [0] [],.a [22] [],.a [23] [],.a [24] [],.a [25] [5000],.m ⟨[(21,.agg [.d (dU ((r2.getD i3 zzd).time.epoch)),.d (dU ((r2.getD i3 zzd).time.loop.1)),.d (dU ((r2.getD i3 zzd).time.loop.2))]),(26,cD (lD 3 z04 r1.2.spine.since))],[]⟩ ⟨[(27,.agg (cTime r8))],[]⟩ [] [] [],.a [8] [],.m ⟨[(27,.agg (cTime r8)),(28,.c (.ptr 8 2))],[(8,.box (cUpdate (r2.getD i3 zzd)))]⟩ ⟨[],[(8,.box [.d (lD 3 z03 ((r2.getD i3 zzd).key)),.d (lD 3 z03 ((r2.getD i3 zzd).row)),.d (dU r8.epoch),.d (dU r8.loop.1),.d (dU r8.loop.2),.d (dI ((r2.getD i3 zzd).diff))])]⟩ [] [] []] [0,1,6,8,11,12,13] [8,1006,5000] (z00 8) (.a (.a (.a (.a (.a (.a (.a (.m ?_ (.a (.m ?_ .z)))))))))) ?_
   ·exact DOk.cA [] [.agg [.d (dU ((r2.getD i3 zzd).time.epoch)),.d (dU ((r2.getD i3 zzd).time.loop.1)),.d (dU ((r2.getD i3 zzd).time.loop.2))],cD (lD 3 z04 r1.2.spine.since)] (z81 hr8) fun r=>(.cons (.refl _) (.cons (.refl _) .nil))
   ·exact DOk.step (.turn 8 (.box [.d (lD 3 z03 ((r2.getD i3 zzd).key)),.d (lD 3 z03 ((r2.getD i3 zzd).row)),.d (dU r8.epoch),.d (dU r8.loop.1),.d (dU r8.loop.2),.d (dI ((r2.getD i3 zzd).diff))])) (fun r=>by kernel_rfl) (fun r=>by kernel_rfl) trivial (by kernel_rfl) (by kernel_rfl) (fun r=>rfl)
   refine z07 ?_;refine At.seg 2 [0,1,11,12,13,29,30] [1006,5000] (s':=⟨[(0,.c (.ptr 5000 0)),(1,cD (.fn 142 [.cptr [lD 3 z03 p1_0]])),(11,cD (lD 6 z01 r2)),(12,cD (dI (r2.length:Int))),(13,cD (dI ((i3:Nat):Int))),(29,.c (oC 1006 6 a4)),(30,.agg [.d (lD 3 z03 ((r2.getD i3 zzd).key)),.d (lD 3 z03 ((r2.getD i3 zzd).row)),.d (dU r8.epoch),.d (dU r8.loop.1),.d (dU r8.loop.2),.d (dI ((r2.getD i3 zzd).diff))])],[(1006,vL 6 z01 a4),(5000,.box (cSpine r1.2.spine))]⟩) (by kernel_rfl) (z00 2) ?_;refine At.one rfl (One.buildSlice (z:=[.zero,.zero,.d (dU 0),.d (dU 0),.d (dU 0),.d (dI 0)]) (cells:=[.d (lD 3 z03 ((r2.getD i3 zzd).key)),.d (lD 3 z03 ((r2.getD i3 zzd).row)),.d (dU r8.epoch),.d (dU r8.loop.1),.d (dU r8.loop.2),.d (dI ((r2.getD i3 zzd).diff))]) (xs:=List.map (z01) ([(⟨(r2.getD i3 zzd).key,(r2.getD i3 zzd).row,r8,(r2.getD i3 zzd).diff⟩:Update)]:List Update)) rfl rfl rfl rfl (by kernel_rfl) rfl rfl (by kernel_rfl) rfl rfl rfl (by kernel_rfl) rfl ⟨⟨rfl,.refl _⟩,trivial⟩) ?_;refine At.l [31] ⟨[(31,cD (lD 6 z01 ([(⟨(r2.getD i3 zzd).key,(r2.getD i3 zzd).row,r8,(r2.getD i3 zzd).diff⟩:Update)]:List Update))),(0,.c (.ptr 5000 0)),(1,cD (.fn 142 [.cptr [lD 3 z03 p1_0]])),(11,cD (lD 6 z01 r2)),(12,cD (dI (r2.length:Int))),(13,cD (dI ((i3:Nat):Int))),(29,.c (oC 1006 6 a4)),(30,.agg [.d (lD 3 z03 ((r2.getD i3 zzd).key)),.d (lD 3 z03 ((r2.getD i3 zzd).row)),.d (dU r8.epoch),.d (dU r8.loop.1),.d (dU r8.loop.2),.d (dI ((r2.getD i3 zzd).diff))])],[(1006,vL 6 z01 a4),(5000,.box (cSpine r1.2.spine))]⟩ ⟨⟨_,rfl,.c (.own rfl (zz9.2 rfl) (zz5 rfl) rfl (z22 (z01) ([(⟨(r2.getD i3 zzd).key,(r2.getD i3 zzd).row,r8,(r2.getD i3 zzd).diff⟩:Update)]:List Update)))⟩,⟨_,rfl,.refl _⟩,⟨_,rfl,.refl _⟩,⟨_,rfl,.refl _⟩,⟨_,rfl,.refl _⟩,⟨_,rfl,.refl _⟩,⟨_,rfl,.refl _⟩,⟨_,rfl,.refl _⟩,trivial⟩ ⟨⟨_,rfl,.refl _,(by simp)⟩,⟨_,rfl,.refl _,(by simp)⟩,trivial⟩ ?_;obtain⟨hc9,h⟩:=z06 h;refine At.one rfl (z3f (e:=53) (es:=6) (z01) a4 ([(⟨(r2.getD i3 zzd).key,(r2.getD i3 zzd).row,r8,(r2.getD i3 zzd).diff⟩:Update)]:List Update) rfl rfl rfl rfl rfl (.of 53 80 [.zero,.zero,.d (dU 0),.d (dU 0),.d (dU 0),.d (dI 0)] (by kernel_rfl) (by kernel_rfl) (by kernel_rfl) (by kernel_rfl) rfl (by kernel_rfl) rfl) rfl rfl rfl (.list rfl (fun _ _=>rfl)) hc9) ?_;refine At.sg 1 [13,0,1,6,11,12] [1006,5000] (z00 1) ?_;refine At.done rfl ?_;cases h;exact kr
  ·refine Tri.kp [13,0,1,6,11,12] [1006,5000] ?_;refine Tri.skip ?_;cases h;exact kr
 ·intro a5 h;refine z02 ?_;refine z07 ?_;refine At.seg 1 [34] [1006,5000] (s':=⟨[(34,.c (oC 1006 6 a5))],[(1006,vL 6 z01 a5),(5000,.box (cSpine r1.2.spine))]⟩) (by kernel_rfl) (z00 1) ?_;refine At.l [1006] ⟨[(34,cD (lD 6 z01 a5))],[(5000,.box (cSpine r1.2.spine))]⟩ ⟨⟨_,rfl,.c (CLe.frozen (z01) a5 rfl (by simp))⟩,trivial⟩ ⟨⟨_,rfl,.refl _,(by simp)⟩,trivial⟩ ?_;refine At.one rfl (One.buildSlice (z:=[.zero]) (cells:=[.d (lD 6 z01 a5)]) (xs:=List.map ((fun xs=>[encL 6 z01 xs])) ([a5]:List (List Update))) rfl rfl rfl rfl (by kernel_rfl) rfl rfl (by kernel_rfl) rfl rfl rfl (by kernel_rfl) rfl ⟨⟨rfl,.refl _⟩,trivial⟩) ?_;refine At.l [35] ⟨[(35,cD (lD 1 (fun xs=>[encL 6 z01 xs]) ([a5]:List (List Update)))),(34,cD (lD 6 z01 a5))],[(5000,.box (cSpine r1.2.spine))]⟩ ⟨⟨_,rfl,.c (.own rfl (zz9.2 rfl) (zz5 rfl) rfl (z22 ((fun xs=>[encL 6 z01 xs])) ([a5]:List (List Update))))⟩,⟨_,rfl,.refl _⟩,trivial⟩ ⟨⟨_,rfl,.refl _,(by simp)⟩,trivial⟩ ?_;obtain⟨r6,hr6,h⟩:=z05 h;refine At.cA [] [cD (lD 1 (fun xs=>[encL 6 z01 xs]) ([a5]:List (List Update)))] (z5b hr6) (.cons (.refl _) .nil) ?_;refine At.sg 4 [4,5] [5000] (z00 4) ?_;refine At.done rfl ?_;refine Tri.ret ?_;cases h;exact RetAt.k
 ·exact fun x=>x.elim
theorem zhb {fuel:Nat}{p0:Spine}{p1:List Value}{q:(List Update)×Int}(h:zbu fuel p0 p1=some q):
 Summ Tryz.prog 84 [.agg (cSpine p0),cD (lD 3 z03 p1)] [] (.tup [(false,[.d (lD 6 z01 q.1)]),(false,[.d (dI q.2)])]) []:=by
 refine Summ.i Tryz.func84 rfl [] fun w0 G0 V LL φ0 rd=>?_;unfold zbu at h;refine Tri.sg [2,3] [2,3] (z00 4) ?_;refine z02 ?_;refine z02 ?_;refine z07 ?_;refine At.sg 1 [2,3,7] [2,3] (z00 1) ?_;obtain⟨r1,hr1,h⟩:=z05 h;refine At.cA [] [.agg (cSpine p0)] (z7y hr1) (.cons (.refl _) .nil) ?_;refine At.sg 1 [2,3,6] [2,3] (z00 1) ?_;refine At.done rfl ?_;refine Tri.sg [2,3,6,10] [2,3] (z00 2) ?_;refine z08 h (fun h=>?_) (fun h=>?_)
 ·refine Tri.sg [4,5] [] (z00 3) ?_;refine Tri.keep [4,5] [] (s':=⟨[(4,.c (.zero)),(5,cD (dI r1))],[]⟩) (by kernel_rfl) ?_;refine Tri.l [] ⟨[(4,cD (lD 6 z01 ([]:List Update))),(5,cD (dI r1))],[]⟩ ⟨⟨_,rfl,.c (.zero _ _)⟩,⟨_,rfl,.refl _⟩,trivial⟩ trivial ?_;refine Tri.ret ?_;cases h;exact RetAt.k
 ·refine Tri.skip ?_;refine z02 ?_;refine z07 ?_;refine At.seg 3 [3,14] [3,14] (s':=⟨[(3,.c (.ptr 3 0)),(14,.c (.ptr 14 0))],[(3,.box [.d (lD 3 z03 p1)]),(14,.box (cSpine p0))]⟩) (by kernel_rfl) (z00 3) ?_;refine At.l [3] ⟨[(3,cD (.cptr [lD 3 z03 p1])),(14,.c (.ptr 14 0))],[(14,.box (cSpine p0))]⟩ ⟨⟨_,rfl,.c (.box (ds:=[lD 3 z03 p1]) rfl (by simp))⟩,⟨_,rfl,.refl _⟩,trivial⟩ ⟨⟨_,rfl,.refl _,(by simp)⟩,trivial⟩ ?_;refine At.seg 1 [15,3,14] [14] (s':=⟨[(15,cD (.fn 142 [.cptr [lD 3 z03 p1]])),(3,cD (.cptr [lD 3 z03 p1])),(14,.c (.ptr 14 0))],[(14,.box (cSpine p0))]⟩) (by kernel_rfl) (z00 1) ?_;refine At.l [] ⟨[(15,cD (.fn 142 [.cptr [lD 3 z03 p1]])),(3,.c (.eptr [lD 3 z03 p1])),(14,.c (.ptr 14 0))],[(14,.box (cSpine p0))]⟩ ⟨⟨_,rfl,.refl _⟩,⟨_,rfl,.c (.cptrE _)⟩,⟨_,rfl,.refl _⟩,trivial⟩ ⟨⟨_,rfl,.refl _,(by simp)⟩,trivial⟩ ?_;obtain⟨r2,hr2,h⟩:=z05 h;refine z2k 0 [] [.c (.ptr 14 0),cD (.fn 142 [.cptr [lD 3 z03 p1]])] [(5000,14)] [] [] (z6r hr2) (.ren rfl rfl (.flat (.refl _) rfl rfl .nil)) ?_;refine At.sg 4 [4,5] [] (z00 4) ?_;refine At.done rfl ?_;refine Tri.ret ?_;cases h;exact RetAt.k
theorem zc8 {fuel:Nat}{p0:Spine}{p1:List (List Value)}{q:(List Update)×Int}(h:z9o fuel p0 p1=some q):
 Summ Tryz.prog 36 [.agg (cSpine p0),cD (lD 1 (fun xs=>[encL 3 z03 xs]) p1)] [] (.tup [(false,[.d (lD 6 z01 q.1)]),(false,[.d (dI q.2)])]) []:=by
 refine Summ.i Tryz.func36 rfl [] fun w0 G0 V LL φ0 rd=>?_;unfold z9o at h;refine Tri.sg [1,2] [2] (z00 3) ?_;refine Tri.sg [1,2,6] [2] (z00 1) ?_;refine z02 ?_;refine z1u [2,6,11,12,13] [2] ⟨[(2,.c (.ptr 2 0)),(6,.c (.zero)),(11,cD (lD 1 (fun xs=>[encL 3 z03 xs]) p1)),(12,cD (dI (p1.length:Int))),(13,cD (dI 0))],[(2,.box (cSpine p0))]⟩ _ (by kernel_rfl) (z00 3) ?_;refine Tri.ln 11 p1.length fun hlena2=>?_;refine Tri.newOwn (t:=6) (k:=1006) (es:=6) (fun i=>z01 (([]:List Update).getD i zzd)) rfl rfl rfl ?_;refine z1m 13 ([]:List Update) (fun(x:(List Update)×Int) s=>RetAt Tryz.prog Tryz.f36 (.tup [(false,[.d (lD 6 z01 x.1)]),(false,[.d (dI x.2)])]) [] s) (fun(a2:List Update)=>⟨[(2,.c (.ptr 2 0)),(6,.c (oC 1006 6 a2)),(11,cD (lD 1 (fun xs=>[encL 3 z03 xs]) p1)),(12,cD (dI (p1.length:Int)))],[(2,.box (cSpine p0)),(1006,vL 6 z01 a2)]⟩) [13,2,6,11,12] [2,1006] [14,13,2,6,11,12] [2,1006] [2,6,11,12] [2,1006] [13,2,6,11,12] [2,1006] h hlena2 ?_ ?_ ?_
 ·intro i1 a2 c hii1 h;refine Tri.sg [2,6,8,11,12,13] [2,1006] (ai (show((0:Int)≤((i1:Nat):Int)∧((i1:Nat):Int)<(p1.length:Int))from⟨by omega,by omega⟩) (z00 2)) ?_;refine z02 ?_;refine z07 ?_;refine At.sg 2 [2,6,11,12,13,18,19] [2,1006] (z00 2) ?_;obtain⟨r4,hr4,h⟩:=z05 h;refine At.cA [] [.agg (cSpine p0),cD (lD 3 z03 (p1.getD i1 zzd))] (zhb hr4) (.cons (.refl _) (.cons (.refl _) .nil)) ?_;refine At.sg 5 [2,6,9,10,11,12,13] [2,1006] (z00 5) ?_;refine At.done rfl ?_;refine z02 ?_;refine Tri.sg [2,6,9,10,11,12,13,24] [2,1006] (z00 2) ?_;refine z08 h (fun h=>?_) (fun h=>?_)
  ·refine Tri.sg [4,5] [] (z00 3) ?_;refine Tri.keep [4,5] [] (s':=⟨[(4,.c (.zero)),(5,cD (dI r4.2))],[]⟩) (by kernel_rfl) ?_;refine Tri.l [] ⟨[(4,cD (lD 6 z01 ([]:List Update))),(5,cD (dI r4.2))],[]⟩ ⟨⟨_,rfl,.c (.zero _ _)⟩,⟨_,rfl,.refl _⟩,trivial⟩ trivial ?_;refine Tri.ret ?_;cases h;exact RetAt.k
  ·refine Tri.skip ?_;refine z07 ?_;refine At.seg 2 [2,11,12,13,26,27] [2,1006] (s':=⟨[(2,.c (.ptr 2 0)),(11,cD (lD 1 (fun xs=>[encL 3 z03 xs]) p1)),(12,cD (dI (p1.length:Int))),(13,cD (dI ((i1:Nat):Int))),(26,.c (oC 1006 6 a2)),(27,cD (lD 6 z01 r4.1))],[(2,.box (cSpine p0)),(1006,vL 6 z01 a2)]⟩) (by kernel_rfl) (z00 2) ?_;obtain⟨hc5,h⟩:=z06 h;refine At.one rfl (z3f (e:=53) (es:=6) (z01) a2 r4.1 rfl rfl rfl rfl rfl (.of 53 80 [.zero,.zero,.d (dU 0),.d (dU 0),.d (dU 0),.d (dI 0)] (by kernel_rfl) (by kernel_rfl) (by kernel_rfl) (by kernel_rfl) rfl (by kernel_rfl) rfl) rfl rfl rfl (.list rfl (fun _ _=>rfl)) hc5) ?_;refine At.sg 1 [13,2,6,11,12] [2,1006] (z00 1) ?_;refine At.done rfl ?_;cases h;exact kr
 ·intro a3 h;refine Tri.sg [4,5] [1006] (z00 3) ?_;refine Tri.keep [4,5] [1006] (s':=⟨[(4,.c (oC 1006 6 a3)),(5,cD (dI 0))],[(1006,vL 6 z01 a3)]⟩) (by kernel_rfl) ?_;refine Tri.l [1006] ⟨[(4,cD (lD 6 z01 a3)),(5,cD (dI 0))],[]⟩ ⟨⟨_,rfl,.c (CLe.frozen (z01) a3 rfl (by simp))⟩,⟨_,rfl,.refl _⟩,trivial⟩ trivial ?_;refine Tri.ret ?_;cases h;exact RetAt.k
 ·exact fun x s hx hr=>by cases hx;exact hr
theorem zg4 {p0:Update}{p1:Update}{q:Int}(h:zay p0 p1=some q):
 Summ Tryz.prog 89 [.agg (cUpdate p0),.agg (cUpdate p1)] [] (cD (dI q)) []:=by
 refine Summ.i Tryz.func89 rfl [] fun w0 G0 V LL φ0 rd=>?_;unfold zay at h;refine Tri.sg [2,3] [2,3] (z00 3) ?_;refine z02 ?_;refine z07 ?_;refine At.sg 4 [6,8] [] (z00 4) ?_;obtain⟨r1,hr1,h⟩:=z05 h;refine At.cA [] [.agg (cTime p0.time),.agg (cTime p1.time)] (z5y hr1) (.cons (.refl _) (.cons (.refl _) .nil)) ?_;refine At.sg 1 [4] [] (z00 1) ?_;refine At.done rfl ?_;refine Tri.ret ?_;cases h;exact RetAt.k
theorem z3n {fuel:Nat}{p0:List Update}{q:Update}(h:z1i fuel p0=some q):
 Summ Tryz.prog 88 [cD (lD 6 z01 p0),cD (.fn 89 [])] [] (.agg (cUpdate q)) []:=by
 refine Summ.i Tryz.func88 rfl [] fun w0 G0 V LL φ0 rd=>?_;unfold z1i at h;refine Tri.sg [0,1,4] [4] (z00 1) ?_;refine z02 ?_;refine Tri.sg [0,1,4,9] [4] (z00 3) ?_;refine z08 h (fun h=>?_) (fun h=>?_)
 ·refine z07 ?_;cases h
 ·refine Tri.skip ?_;obtain⟨hc1,h⟩:=z06 h;refine Tri.sg [0,1,4,5] [4,5] (tN 1 (ai hc1 (z00 3))) ?_;refine z02 ?_;refine Tri.sg [0,1,4,5,6] [4,5] (z00 1) ?_;refine z2s (1,(p0.getD 0 zzd)) (fun(x:Empty) s=>False) (fun(a2:Int×Update)=>⟨[(0,cD (lD 6 z01 p0)),(1,cD (.fn 89 [])),(4,.c (.ptr 4 0)),(5,.c (.ptr 5 0)),(6,cD (dI a2.1))],[(4,.box [.zero,.zero,.d (dU 0),.d (dU 0),.d (dU 0),.d (dI 0)]),(5,.box (cUpdate a2.2))]⟩) [0,1,4,5,6] [4,5] h ?_ ?_ ?_
  ·intro a2 c h;refine z02 ?_;refine Tri.sg [0,1,4,5,6,17] [4,5] (z00 4) ?_;refine z08 h (fun h=>?_) (fun h=>?_)
   ·refine Tri.skip ?_;refine z0k (fun(a4:Update)=>⟨[(0,cD (lD 6 z01 p0)),(1,cD (.fn 89 [])),(4,.c (.ptr 4 0)),(5,.c (.ptr 5 0)),(6,cD (dI a2.1))],[(4,.box [.zero,.zero,.d (dU 0),.d (dU 0),.d (dU 0),.d (dI 0)]),(5,.box (cUpdate a4))]⟩) h (fun a4 h=>?_) (fun j5 h=>?_)
    ·refine z07 ?_;refine At.sg 3 [0,1,4,5,6] [4,5] (z00 3) ?_;refine At.done rfl ?_;cases h;exact kr
    ·refine z0s ?_;refine z02 ?_;obtain⟨hc6,h⟩:=z06 h;obtain⟨r7,hr7,h⟩:=z05 h;refine z0l [.a [1] [],.a [0] [],.a [6] [],.a [21,22] [],.a [23] [],.a [5] [5],.m ⟨[(20,cD (.fn 89 [])),(24,.agg (cUpdate (p0.getD a2.1.toNat zzd))),(25,.agg (cUpdate a2.2))],[]⟩ ⟨[(26,cD (dI r7))],[]⟩ [] [] [],.a [26] []] [0,1,4,5,6,27] [4,5] (tN 3 (ai hc6 (z00 3))) (.a (.a (.a (.a (.a (.a (.m ?_ (.a .z)))))))) ?_
     ·exact DOk.cA [] [.agg (cUpdate (p0.getD a2.1.toNat zzd)),.agg (cUpdate a2.2)] (zg4 hr7) fun r=>(.cons (.refl _) (.cons (.refl _) .nil))
     refine z08 h (fun h=>?_) (fun h=>?_)
     ·refine z07 ?_;obtain⟨hc8,h⟩:=z06 h;refine At.sg 5 [0,1,4,5,6] [4,5] (tN 2 (ai hc8 (z00 2))) ?_;refine At.done rfl ?_;exact⟨_,h,kr⟩
     ·refine Tri.kp [0,1,4,5,6] [4,5] ?_;refine Tri.skip ?_;exact⟨_,h,kr⟩
   ·refine Tri.kp [0,1,4,5,6] [4,5] ?_;refine Tri.exit ?_;cases h;exact⟨rfl,kr⟩
  ·intro a3 h;refine Tri.sg [4] [4] (z00 2) ?_;refine Tri.ret ?_;cases h;exact RetAt.k
  ·exact fun x=>x.elim
theorem zdf {fuel:Nat}{p0:List Update}{q:Time}(h:zac fuel p0=some q):
 Summ Tryz.prog 38 [cD (lD 6 z01 p0)] [] (.agg (cTime q)) []:=by
 refine Summ.i Tryz.func38 rfl [] fun w0 G0 V LL φ0 rd=>?_;unfold zac at h;refine Tri.sg [0,2] [2] (z00 1) ?_;refine z02 ?_;refine z07 ?_;refine At.sg 1 [2,3] [2] (z00 1) ?_;obtain⟨r1,hr1,h⟩:=z05 h;refine At.cA [] [cD (lD 6 z01 p0),cD (.fn 89 [])] (z3n hr1) (.cons (.refl _) (.cons (.refl _) .nil)) ?_;refine At.sg 2 [2] [2] (z00 2) ?_;refine At.done rfl ?_;refine Tri.ret ?_;cases h;exact RetAt.k
theorem zaz {fuel:Nat}{p0:Spine}{p1:Spine}{p2:Int}{p3:List Update}{q:Spine×Spine×(List Update)×Time×Int}(h:z9x fuel p0 p1 p2 p3=some q):
 Summ Tryz.prog 14 [.agg (cSpine p0),.agg (cSpine p1),cD (dI p2),cD (lD 6 z01 p3)] [] (.tup [(true,[.d (lD 3 z04 q.1.since),.d (lD 10 z09 q.1.levels)]),(true,[.d (lD 3 z04 q.2.1.since),.d (lD 10 z09 q.2.1.levels)]),(false,[.d (lD 6 z01 q.2.2.1)]),(true,[.d (dU q.2.2.2.1.epoch),.d (dU q.2.2.2.1.loop.1),.d (dU q.2.2.2.1.loop.2)]),(false,[.d (dI q.2.2.2.2)])]) []:=by
 refine Summ.i Tryz.func14 rfl [] fun w0 G0 V LL φ0 rd=>?_;unfold z9x at h;refine Tri.sg [2,3,4,5,8,9,11] [4,5,8,9,11] (z00 7) ?_;refine z02 ?_;obtain⟨r1,hr1,h⟩:=z05 h;obtain⟨r2,hr2,h⟩:=z05 h;obtain⟨r3,hr3,h⟩:=z05 h;refine z0l [.a [4] [4],.m ⟨[(23,.agg (cSpine p0))],[]⟩ ⟨[(24,cD (dI r1))],[]⟩ [] [] [],.a [5] [5],.m ⟨[(25,.agg (cSpine p1))],[]⟩ ⟨[(26,cD (dI r2))],[]⟩ [] [] [],.m ⟨[(24,cD (dI r1)),(26,cD (dI r2))],[]⟩ ⟨[(27,.c (oC 27 1 ([r1,r2]:List Int)))],[(27,vL 1 (z13 .i64) ([r1,r2]:List Int))]⟩ [27] [] [],.m ⟨[(27,.c (oC 27 1 ([r1,r2]:List Int)))],[(27,vL 1 (z13 .i64) ([r1,r2]:List Int))]⟩ ⟨[(28,cD (dI r3))],[]⟩ [] [] [],.a [28] []] [2,3,4,5,8,9,11,13] [4,5,8,9,11] (z00 3) (.a (.m ?_ (.a (.m ?_ (.m ?_ (.m ?_ (.a .z))))))) ?_
 ·exact DOk.cA [] [.agg (cSpine p0)] (z7y hr1) fun r=>(.cons (.refl _) .nil)
 ·exact DOk.cA [] [.agg (cSpine p1)] (z7y hr2) fun r=>(.cons (.refl _) .nil)
 ·exact DOk.one fun r hr=>z4u (e:=27) (es:=1) (z:=[.d (dI 0)]) (cells:=[.d (dI r1),.d (dI r2)]) (z13 .i64) ([r1,r2]:List Int) rfl (by kernel_rfl) rfl rfl (z2v (by kernel_rfl) (hr 27 (by simp))) (by kernel_rfl) rfl (by kernel_rfl) rfl rfl rfl (by kernel_rfl) rfl ⟨⟨rfl,.refl _⟩,⟨rfl,.refl _⟩,trivial⟩
 ·exact DOk.cA [] [.c (oC 27 1 ([r1,r2]:List Int))] (z7j hr3) fun r=>(.cons (AVArg.view (z13 .i64) ([r1,r2]:List Int) rfl) .nil)
 refine z0k (fun(a4:Int)=>⟨[(2,cD (dI p2)),(3,cD (lD 6 z01 p3)),(4,.c (.ptr 4 0)),(5,.c (.ptr 5 0)),(8,.c (.ptr 8 0)),(9,.c (.ptr 9 0)),(11,.c (.ptr 11 0)),(13,cD (dI a4))],[(4,.box (cSpine p0)),(5,.box (cSpine p1)),(8,.box [.zero,.zero]),(9,.box [.zero,.zero]),(11,.box [.d (dU 0),.d (dU 0),.d (dU 0)])]⟩) h (fun a4 h=>?_) (fun j5 h=>?_)
 ·refine z02 ?_;refine z02 ?_;refine z07 ?_;refine At.seg 2 [2,3,4,5,8,9,11,39,40] [4,5,8,9,11] (s':=⟨[(2,cD (dI p2)),(3,cD (lD 6 z01 p3)),(4,.c (.ptr 4 0)),(5,.c (.ptr 5 0)),(8,.c (.ptr 8 0)),(9,.c (.ptr 9 0)),(11,.c (.ptr 11 0)),(39,cD (dI a4)),(40,cD (lD 6 z01 p3))],[(4,.box (cSpine p0)),(5,.box (cSpine p1)),(8,.box [.zero,.zero]),(9,.box [.zero,.zero]),(11,.box [.d (dU 0),.d (dU 0),.d (dU 0)])]⟩) (by kernel_rfl) (z00 2) ?_;obtain⟨r6,hr6,h⟩:=z05 h;refine At.cA [] [cD (lD 6 z01 p3)] (z69 hr6) (.cons (.refl _) .nil) ?_;refine At.one rfl (One.buildSlice (z:=[.d (dI 0)]) (cells:=[.d (dI a4),.d (dI r6)]) (xs:=List.map (z13 .i64) ([a4,r6]:List Int)) rfl rfl rfl rfl (by kernel_rfl) rfl rfl (by kernel_rfl) rfl rfl rfl (by kernel_rfl) rfl ⟨⟨rfl,.refl _⟩,⟨rfl,.refl _⟩,trivial⟩) ?_;refine At.l [42] ⟨[(42,cD (lD 1 (z13 .i64) ([a4,r6]:List Int))),(2,cD (dI p2)),(3,cD (lD 6 z01 p3)),(4,.c (.ptr 4 0)),(5,.c (.ptr 5 0)),(8,.c (.ptr 8 0)),(9,.c (.ptr 9 0)),(11,.c (.ptr 11 0)),(39,cD (dI a4)),(41,cD (dI r6))],[(4,.box (cSpine p0)),(5,.box (cSpine p1)),(8,.box [.zero,.zero]),(9,.box [.zero,.zero]),(11,.box [.d (dU 0),.d (dU 0),.d (dU 0)])]⟩ ⟨⟨_,rfl,.c (.own rfl (zz9.2 rfl) (zz5 rfl) rfl (z22 (z13 .i64) ([a4,r6]:List Int)))⟩,⟨_,rfl,.refl _⟩,⟨_,rfl,.refl _⟩,⟨_,rfl,.refl _⟩,⟨_,rfl,.refl _⟩,⟨_,rfl,.refl _⟩,⟨_,rfl,.refl _⟩,⟨_,rfl,.refl _⟩,⟨_,rfl,.refl _⟩,⟨_,rfl,.refl _⟩,trivial⟩ ⟨⟨_,rfl,.refl _,(by simp)⟩,⟨_,rfl,.refl _,(by simp)⟩,⟨_,rfl,.refl _,(by simp)⟩,⟨_,rfl,.refl _,(by simp)⟩,⟨_,rfl,.refl _,(by simp)⟩,trivial⟩ ?_;obtain⟨r7,hr7,h⟩:=z05 h;refine At.cA [] [cD (lD 1 (z13 .i64) ([a4,r6]:List Int))] (z5t hr7) (.cons (.refl _) .nil) ?_;refine At.sg 1 [2,3,4,5,8,9,11,13] [4,5,8,9,11] (z00 1) ?_;refine At.done rfl ?_;refine Tri.sg [2,3,4,5,8,9,11,13,45] [4,5,8,9,11] (z00 2) ?_;refine z08 h (fun h=>?_) (fun h=>?_)
  ·refine Tri.sg [8,9,10,11,12] [8,9,11] (z00 9) ?_;refine Tri.keep [8,9,10,11,12] [8,9,11] (s':=⟨[(8,.c (.ptr 8 0)),(9,.c (.ptr 9 0)),(10,.c (.zero)),(11,.c (.ptr 11 0)),(12,cD (dI r7))],[(8,.box [.zero,.zero]),(9,.box [.zero,.zero]),(11,.box [.d (dU 0),.d (dU 0),.d (dU 0)])]⟩) (by kernel_rfl) ?_;refine Tri.l [] ⟨[(8,.c (.ptr 8 0)),(9,.c (.ptr 9 0)),(10,cD (lD 6 z01 ([]:List Update))),(11,.c (.ptr 11 0)),(12,cD (dI r7))],[(8,.box [.d (lD 3 z04 ([]:List Time)),.d (lD 10 z09 ([]:List Level))]),(9,.box [.d (lD 3 z04 ([]:List Time)),.d (lD 10 z09 ([]:List Level))]),(11,.box [.d (dU 0),.d (dU 0),.d (dU 0)])]⟩ ⟨⟨_,rfl,.refl _⟩,⟨_,rfl,.refl _⟩,⟨_,rfl,.c (.zero _ _)⟩,⟨_,rfl,.refl _⟩,⟨_,rfl,.refl _⟩,trivial⟩ ⟨⟨_,rfl,.box (.cons (.zero _ _) (.cons (.zero _ _) .nil)),(by simp)⟩,⟨_,rfl,.box (.cons (.zero _ _) (.cons (.zero _ _) .nil)),(by simp)⟩,⟨_,rfl,.refl _,(by simp)⟩,trivial⟩ ?_;refine Tri.ret ?_;cases h;exact RetAt.k
  ·refine Tri.skip ?_;refine z02 ?_;obtain⟨r8,hr8,h⟩:=z05 h;obtain⟨r9,hr9,h⟩:=z05 h;refine z6e ⟨[(2,cD (dI p2)),(3,cD (lD 6 z01 p3)),(8,.c (.ptr 8 0)),(9,.c (.ptr 9 0)),(11,.c (.ptr 11 0)),(14,.c (.ptr 14 0))],[(8,.box [.zero,.zero]),(9,.box [.zero,.zero]),(11,.box [.d (dU 0),.d (dU 0),.d (dU 0)]),(14,.box [.d (lD 3 z04 r8.since),.d (lD 10 z09 r8.levels),.d (lD 3 z04 r9.since),.d (lD 10 z09 r9.levels)])]⟩ [.a [4] [4],.m ⟨[(50,.agg (cSpine p0))],[]⟩ ⟨[(51,.agg (cSpine r8))],[]⟩ [] [] [],.a [5] [5],.m ⟨[(52,.agg (cSpine p1))],[]⟩ ⟨[(53,.agg (cSpine r9))],[]⟩ [] [] [],.a [51,53] [],.m ⟨[],[]⟩ ⟨[(14,.c (.ptr 14 0))],[(14,.box [.zero,.zero,.zero,.zero])]⟩ [14] [] [],.m ⟨[(14,.c (.ptr 14 0)),(54,.agg [.d (lD 3 z04 r8.since),.d (lD 10 z09 r8.levels),.d (lD 3 z04 r9.since),.d (lD 10 z09 r9.levels)])],[(14,.box [.zero,.zero,.zero,.zero])]⟩ ⟨[],[(14,.box [.d (lD 3 z04 r8.since),.d (lD 10 z09 r8.levels),.d (lD 3 z04 r9.since),.d (lD 10 z09 r9.levels)])]⟩ [] [] []] [2,3,8,9,11,14] [8,9,11,14] (z00 3) (.a (.m ?_ (.a (.m ?_ (.a (.m ?_ (.m ?_ .z))))))) ?_
   ·exact DOk.cA [] [.agg (cSpine p0)] (z96 hr8) fun r=>(.cons (.refl _) .nil)
   ·exact DOk.cA [] [.agg (cSpine p1)] (z96 hr9) fun r=>(.cons (.refl _) .nil)
   ·exact DOk.step (.new (.box [.zero,.zero,.zero,.zero]) (.c (.ptr 14 0))) (fun r=>by kernel_rfl) (fun r=>by kernel_rfl) trivial (by kernel_rfl) (by kernel_rfl) (fun r=>rfl)
   ·exact DOk.step (.turn 14 (.box [.d (lD 3 z04 r8.since),.d (lD 10 z09 r8.levels),.d (lD 3 z04 r9.since),.d (lD 10 z09 r9.levels)])) (fun r=>by kernel_rfl) (fun r=>by kernel_rfl) trivial (by kernel_rfl) (by kernel_rfl) (fun r=>rfl)
   refine z02 ?_;rcases zhk h with⟨hs,h⟩|⟨hs,h⟩
   ·subst hs;refine z07 ?_;refine At.seg 4 [2,3,8,9,11,14,58,59] [8,9,11,14] (s':=⟨[(2,cD (dI 0)),(3,cD (lD 6 z01 p3)),(8,.c (.ptr 8 0)),(9,.c (.ptr 9 0)),(11,.c (.ptr 11 0)),(14,.c (.ptr 14 0)),(58,.agg (cSpine r8)),(59,cD (lD 6 z01 p3))],[(8,.box [.zero,.zero]),(9,.box [.zero,.zero]),(11,.box [.d (dU 0),.d (dU 0),.d (dU 0)]),(14,.box [.d (lD 3 z04 r8.since),.d (lD 10 z09 r8.levels),.d (lD 3 z04 r9.since),.d (lD 10 z09 r9.levels)])]⟩) (by kernel_rfl) (z00 4) ?_;refine At.one rfl (One.buildSlice (z:=[.zero]) (cells:=[.d (lD 6 z01 p3)]) (xs:=List.map ((fun xs=>[encL 6 z01 xs])) ([p3]:List (List Update))) rfl rfl rfl rfl (by kernel_rfl) rfl rfl (by kernel_rfl) rfl rfl rfl (by kernel_rfl) rfl ⟨⟨rfl,.refl _⟩,trivial⟩) ?_;refine At.l [60] ⟨[(60,cD (lD 1 (fun xs=>[encL 6 z01 xs]) ([p3]:List (List Update)))),(2,cD (dI 0)),(3,cD (lD 6 z01 p3)),(8,.c (.ptr 8 0)),(9,.c (.ptr 9 0)),(11,.c (.ptr 11 0)),(14,.c (.ptr 14 0)),(58,.agg (cSpine r8)),(59,cD (lD 6 z01 p3))],[(8,.box [.zero,.zero]),(9,.box [.zero,.zero]),(11,.box [.d (dU 0),.d (dU 0),.d (dU 0)]),(14,.box [.d (lD 3 z04 r8.since),.d (lD 10 z09 r8.levels),.d (lD 3 z04 r9.since),.d (lD 10 z09 r9.levels)])]⟩ ⟨⟨_,rfl,.c (.own rfl (zz9.2 rfl) (zz5 rfl) rfl (z22 ((fun xs=>[encL 6 z01 xs])) ([p3]:List (List Update))))⟩,⟨_,rfl,.refl _⟩,⟨_,rfl,.refl _⟩,⟨_,rfl,.refl _⟩,⟨_,rfl,.refl _⟩,⟨_,rfl,.refl _⟩,⟨_,rfl,.refl _⟩,⟨_,rfl,.refl _⟩,⟨_,rfl,.refl _⟩,trivial⟩ ⟨⟨_,rfl,.refl _,(by simp)⟩,⟨_,rfl,.refl _,(by simp)⟩,⟨_,rfl,.refl _,(by simp)⟩,⟨_,rfl,.refl _,(by simp)⟩,trivial⟩ ?_;obtain⟨r20,hr20,h⟩:=z05 h;refine At.cA [] [.agg (cSpine r8),cD (lD 1 (fun xs=>[encL 6 z01 xs]) ([p3]:List (List Update)))] (zbg hr20) (.cons (.refl _) (.cons (.refl _) .nil)) ?_;refine At.sg 6 [2,3,8,9,11,14,15,16] [8,9,11,14,15] (z00 6) ?_;refine At.done rfl ?_;refine z02 ?_;obtain⟨r21,hr21,h⟩:=z05 h;obtain⟨r22,hr22,h⟩:=z05 h;refine z0l [.a [2] [],.a [65] [],.a [14,66] [14],.a [67] [14],.a [3] [],.m ⟨[(69,cD (lD 6 z01 p3))],[]⟩ ⟨[(70,cD (lD 1 (fun xs=>[encL 3 z03 xs]) r21))],[]⟩ [] [] [],.m ⟨[(68,.agg (cSpine r9)),(70,cD (lD 1 (fun xs=>[encL 3 z03 xs]) r21))],[]⟩ ⟨[(71,.tup [(false,[.d (lD 6 z01 r22.1)]),(false,[.d (dI r22.2)])])],[]⟩ [] [] [],.a [71] [],.a [64] [],.a [64] [],.a [72] [],.a [73] []] [2,3,8,9,11,14,15,16,17,18] [8,9,11,14,15] (z00 10) (.a (.a (.a (.a (.a (.m ?_ (.m ?_ (.a (.a (.a (.a (.a .z)))))))))))) ?_
    ·exact DOk.cA [] [cD (lD 6 z01 p3)] (zea hr21) fun r=>(.cons (.refl _) .nil)
    ·exact DOk.cA [] [.agg (cSpine r9),cD (lD 1 (fun xs=>[encL 3 z03 xs]) r21)] (zc8 hr22) fun r=>(.cons (.refl _) (.cons (.refl _) .nil))
    refine z02 ?_;refine z02 ?_;refine z07 ?_;refine At.seg 2 [2,3,8,9,11,14,15,17,74,75] [8,9,11,14,15] (s':=⟨[(2,cD (dI 0)),(3,cD (lD 6 z01 p3)),(8,.c (.ptr 8 0)),(9,.c (.ptr 9 0)),(11,.c (.ptr 11 0)),(14,.c (.ptr 14 0)),(15,.c (.ptr 15 0)),(17,cD (lD 6 z01 r22.1)),(74,cD (dI r20.2)),(75,cD (dI r22.2))],[(8,.box [.zero,.zero]),(9,.box [.zero,.zero]),(11,.box [.d (dU 0),.d (dU 0),.d (dU 0)]),(14,.box [.d (lD 3 z04 r8.since),.d (lD 10 z09 r8.levels),.d (lD 3 z04 r9.since),.d (lD 10 z09 r9.levels)]),(15,.box (cSpine r20.1))]⟩) (by kernel_rfl) (z00 2) ?_;refine At.one rfl (One.buildSlice (z:=[.d (dI 0)]) (cells:=[.d (dI r20.2),.d (dI r22.2)]) (xs:=List.map (z13 .i64) ([r20.2,r22.2]:List Int)) rfl rfl rfl rfl (by kernel_rfl) rfl rfl (by kernel_rfl) rfl rfl rfl (by kernel_rfl) rfl ⟨⟨rfl,.refl _⟩,⟨rfl,.refl _⟩,trivial⟩) ?_;refine At.l [76] ⟨[(76,cD (lD 1 (z13 .i64) ([r20.2,r22.2]:List Int))),(2,cD (dI 0)),(3,cD (lD 6 z01 p3)),(8,.c (.ptr 8 0)),(9,.c (.ptr 9 0)),(11,.c (.ptr 11 0)),(14,.c (.ptr 14 0)),(15,.c (.ptr 15 0)),(17,cD (lD 6 z01 r22.1)),(74,cD (dI r20.2)),(75,cD (dI r22.2))],[(8,.box [.zero,.zero]),(9,.box [.zero,.zero]),(11,.box [.d (dU 0),.d (dU 0),.d (dU 0)]),(14,.box [.d (lD 3 z04 r8.since),.d (lD 10 z09 r8.levels),.d (lD 3 z04 r9.since),.d (lD 10 z09 r9.levels)]),(15,.box (cSpine r20.1))]⟩ ⟨⟨_,rfl,.c (.own rfl (zz9.2 rfl) (zz5 rfl) rfl (z22 (z13 .i64) ([r20.2,r22.2]:List Int)))⟩,⟨_,rfl,.refl _⟩,⟨_,rfl,.refl _⟩,⟨_,rfl,.refl _⟩,⟨_,rfl,.refl _⟩,⟨_,rfl,.refl _⟩,⟨_,rfl,.refl _⟩,⟨_,rfl,.refl _⟩,⟨_,rfl,.refl _⟩,⟨_,rfl,.refl _⟩,⟨_,rfl,.refl _⟩,trivial⟩ ⟨⟨_,rfl,.refl _,(by simp)⟩,⟨_,rfl,.refl _,(by simp)⟩,⟨_,rfl,.refl _,(by simp)⟩,⟨_,rfl,.refl _,(by simp)⟩,⟨_,rfl,.refl _,(by simp)⟩,trivial⟩ ?_;obtain⟨r23,hr23,h⟩:=z05 h;refine At.cA [] [cD (lD 1 (z13 .i64) ([r20.2,r22.2]:List Int))] (z5t hr23) (.cons (.refl _) .nil) ?_;refine At.sg 1 [2,3,8,9,11,14,15,17,78] [8,9,11,14,15] (z00 1) ?_;refine At.done rfl ?_;refine z08 h (fun h=>?_) (fun h=>?_)
    ·refine z02 ?_;obtain⟨r24,hr24,h⟩:=z05 h;refine z0l [.a [14] [14],.a [79] [14],.a [14] [14],.a [81] [14],.a [3] [],.m ⟨[(83,cD (lD 6 z01 p3))],[]⟩ ⟨[(84,.agg (cTime r24))],[]⟩ [] [] [],.m ⟨[(8,.c (.ptr 8 0)),(80,.agg (cSpine r8))],[(8,.box [.zero,.zero])]⟩ ⟨[],[(8,.box (cSpine r8))]⟩ [] [] [],.m ⟨[(9,.c (.ptr 9 0)),(82,.agg (cSpine r9))],[(9,.box [.zero,.zero])]⟩ ⟨[],[(9,.box (cSpine r9))]⟩ [] [] [],.a [] [],.m ⟨[(11,.c (.ptr 11 0)),(84,.agg (cTime r24))],[(11,.box [.d (dU 0),.d (dU 0),.d (dU 0)])]⟩ ⟨[],[(11,.box (cTime r24))]⟩ [] [] [],.a [] []] [8,9,10,11,12] [8,9,11] (z00 7) (.a (.a (.a (.a (.a (.m ?_ (.m ?_ (.m ?_ (.a (.m ?_ (.a .z))))))))))) ?_
     ·exact DOk.cA [] [cD (lD 6 z01 p3)] (zdf hr24) fun r=>(.cons (.refl _) .nil)
     ·exact DOk.step (.turn 8 (.box (cSpine r8))) (fun r=>by kernel_rfl) (fun r=>by kernel_rfl) trivial (by kernel_rfl) (by kernel_rfl) (fun r=>rfl)
     ·exact DOk.step (.turn 9 (.box (cSpine r9))) (fun r=>by kernel_rfl) (fun r=>by kernel_rfl) trivial (by kernel_rfl) (by kernel_rfl) (fun r=>rfl)
     ·exact DOk.step (.turn 11 (.box (cTime r24))) (fun r=>by kernel_rfl) (fun r=>by kernel_rfl) trivial (by kernel_rfl) (by kernel_rfl) (fun r=>rfl)
     refine Tri.keep [8,9,10,11,12] [8,9,11] (s':=⟨[(8,.c (.ptr 8 0)),(9,.c (.ptr 9 0)),(10,.c (.zero)),(11,.c (.ptr 11 0)),(12,cD (dI 10))],[(8,.box (cSpine r8)),(9,.box (cSpine r9)),(11,.box (cTime r24))]⟩) (by kernel_rfl) ?_;refine Tri.l [] ⟨[(8,.c (.ptr 8 0)),(9,.c (.ptr 9 0)),(10,cD (lD 6 z01 ([]:List Update))),(11,.c (.ptr 11 0)),(12,cD (dI 10))],[(8,.box (cSpine r8)),(9,.box (cSpine r9)),(11,.box (cTime r24))]⟩ ⟨⟨_,rfl,.refl _⟩,⟨_,rfl,.refl _⟩,⟨_,rfl,.c (.zero _ _)⟩,⟨_,rfl,.refl _⟩,⟨_,rfl,.refl _⟩,trivial⟩ ⟨⟨_,rfl,.refl _,(by simp)⟩,⟨_,rfl,.refl _,(by simp)⟩,⟨_,rfl,.refl _,(by simp)⟩,trivial⟩ ?_;refine Tri.ret ?_;cases h;exact RetAt.k
    ·refine Tri.skip ?_;refine Tri.sg [2,3,8,9,11,14,17] [8,9,11,14] (z00 4) ?_;refine Tri.sg [2,3,8,9,11,14,17,19] [8,9,11,14,89] (z00 3) ?_;refine z0k (fun(a25:JoinMaker)=>⟨[(8,.c (.ptr 8 0)),(9,.c (.ptr 9 0)),(11,.c (.ptr 11 0)),(14,.c (.ptr 14 0)),(19,.c (.ptr 89 0))],[(8,.box [.zero,.zero]),(9,.box [.zero,.zero]),(11,.box [.d (dU 0),.d (dU 0),.d (dU 0)]),(14,.box [.d (lD 3 z04 r20.1.since),.d (lD 10 z09 r20.1.levels),.d (lD 3 z04 r9.since),.d (lD 10 z09 r9.levels)]),(89,.box [.d (.bool a25.maker.fault.is),.d (dU a25.maker.fault.at_.epoch),.d (dU a25.maker.fault.at_.loop.1),.d (dU a25.maker.fault.at_.loop.2),oC 21428 6 a25.maker.list]),(21428,vL 6 z01 a25.maker.list)]⟩) h (fun a25 h=>?_) (fun j26 h=>?_)
     ·refine z02 ?_;refine z07 ?_;refine At.seg 3 [8,9,11,14,103] [8,9,11,14,89,21428] (s':=⟨[(8,.c (.ptr 8 0)),(9,.c (.ptr 9 0)),(11,.c (.ptr 11 0)),(14,.c (.ptr 14 0)),(103,.c (.ptr 89 0))],[(8,.box [.zero,.zero]),(9,.box [.zero,.zero]),(11,.box [.d (dU 0),.d (dU 0),.d (dU 0)]),(14,.box [.d (lD 3 z04 r20.1.since),.d (lD 10 z09 r20.1.levels),.d (lD 3 z04 r9.since),.d (lD 10 z09 r9.levels)]),(89,.box [.d (.bool a25.maker.fault.is),.d (dU a25.maker.fault.at_.epoch),.d (dU a25.maker.fault.at_.loop.1),.d (dU a25.maker.fault.at_.loop.2),oC 21428 6 a25.maker.list]),(21428,vL 6 z01 a25.maker.list)]⟩) (by kernel_rfl) (z00 3) ?_;obtain⟨r27,hr27,h⟩:=z05 h;refine At.l [21428] ⟨[(8,.c (.ptr 8 0)),(9,.c (.ptr 9 0)),(11,.c (.ptr 11 0)),(14,.c (.ptr 14 0)),(103,.c (.ptr 89 0))],[(8,.box [.zero,.zero]),(9,.box [.zero,.zero]),(11,.box [.d (dU 0),.d (dU 0),.d (dU 0)]),(14,.box [.d (lD 3 z04 r20.1.since),.d (lD 10 z09 r20.1.levels),.d (lD 3 z04 r9.since),.d (lD 10 z09 r9.levels)]),(89,.box (cJoinMaker a25))]⟩ ⟨⟨_,rfl,.refl _⟩,⟨_,rfl,.refl _⟩,⟨_,rfl,.refl _⟩,⟨_,rfl,.refl _⟩,⟨_,rfl,.refl _⟩,trivial⟩ ⟨⟨_,rfl,.refl _,(by simp)⟩,⟨_,rfl,.refl _,(by simp)⟩,⟨_,rfl,.refl _,(by simp)⟩,⟨_,rfl,.refl _,(by simp)⟩,⟨_,rfl,.box (.cons (.refl _) (.cons (.refl _) (.cons (.refl _) (.cons (.refl _) (.cons (CLe.frozen (z01) a25.maker.list rfl (by simp)) .nil))))),(by simp)⟩,trivial⟩ ?_;refine z2k 0 [] [.c (.ptr 89 0)] [(5000,89)] [8,9,11,14] [8,9,11,14] (z3e hr27) (.ren rfl rfl .nil) ?_;refine At.sg 8 [8,9,11,14,20,21,22] [8,9,11,14,21] (z00 8) ?_;refine At.done rfl ?_;refine z02 ?_;refine z0l [.a [14] [14],.a [108] [14],.a [14] [14],.a [110] [14],.a [20] [],.a [21] [21],.a [22] [],.m ⟨[(8,.c (.ptr 8 0)),(109,.agg (cSpine r20.1))],[(8,.box [.zero,.zero])]⟩ ⟨[],[(8,.box (cSpine r20.1))]⟩ [] [] [],.m ⟨[(9,.c (.ptr 9 0)),(111,.agg (cSpine r9))],[(9,.box [.zero,.zero])]⟩ ⟨[],[(9,.box (cSpine r9))]⟩ [] [] [],.a [112] [],.m ⟨[(11,.c (.ptr 11 0)),(113,.agg (cTime r27.2.1))],[(11,.box [.d (dU 0),.d (dU 0),.d (dU 0)])]⟩ ⟨[],[(11,.box (cTime r27.2.1))]⟩ [] [] [],.a [114] []] [8,9,10,11,12] [8,9,11] (z00 9) (.a (.a (.a (.a (.a (.a (.a (.m ?_ (.m ?_ (.a (.m ?_ (.a .z)))))))))))) ?_
      ·exact DOk.step (.turn 8 (.box (cSpine r20.1))) (fun r=>by kernel_rfl) (fun r=>by kernel_rfl) trivial (by kernel_rfl) (by kernel_rfl) (fun r=>rfl)
      ·exact DOk.step (.turn 9 (.box (cSpine r9))) (fun r=>by kernel_rfl) (fun r=>by kernel_rfl) trivial (by kernel_rfl) (by kernel_rfl) (fun r=>rfl)
      ·exact DOk.step (.turn 11 (.box (cTime r27.2.1))) (fun r=>by kernel_rfl) (fun r=>by kernel_rfl) trivial (by kernel_rfl) (by kernel_rfl) (fun r=>rfl)
      refine Tri.ret ?_;cases h;exact RetAt.k
     ·refine Tri.sg [3,8,9,11,14,17,19,91] [8,9,11,14,89] (z00 2) ?_;refine z08 h (fun h=>?_) (fun h=>?_)
      ·refine z07 ?_;refine At.seg 3 [8,9,11,14,19,92,93,94] [8,9,11,14,89] (s':=⟨[(8,.c (.ptr 8 0)),(9,.c (.ptr 9 0)),(11,.c (.ptr 11 0)),(14,.c (.ptr 14 0)),(19,.c (.ptr 89 0)),(92,.c (.ptr 89 0)),(93,cD (lD 6 z01 p3)),(94,cD (lD 6 z01 r22.1))],[(8,.box [.zero,.zero]),(9,.box [.zero,.zero]),(11,.box [.d (dU 0),.d (dU 0),.d (dU 0)]),(14,.box [.d (lD 3 z04 r20.1.since),.d (lD 10 z09 r20.1.levels),.d (lD 3 z04 r9.since),.d (lD 10 z09 r9.levels)]),(89,.box [.d (.bool false),.d (dU 0),.d (dU 0),.d (dU 0),.zero])]⟩) (by kernel_rfl) (z00 3) ?_;obtain⟨r28,hr28,h⟩:=z05 h;refine At.newOwnB (j:=89) (i:=4) (k:=21428) (es:=6) (fun i=>z01 (([]:List Update).getD i zzd)) rfl rfl rfl rfl ?_;refine z2k 0 [] [.c (.ptr 89 0),cD (lD 6 z01 p3),cD (lD 6 z01 r22.1)] [(5000,89),(5100,21428),(5150,21428)] [8,9,11,14,19] [8,9,11,14] (z2t hr28) (.ren rfl rfl (.flat (.refl _) rfl rfl (.flat (.refl _) rfl rfl .nil))) ?_;refine At.keep [8,9,11,14,19] [8,9,11,14,89,21428] (s':=⟨[(8,.c (.ptr 8 0)),(9,.c (.ptr 9 0)),(11,.c (.ptr 11 0)),(14,.c (.ptr 14 0)),(19,.c (.ptr 89 0))],[(8,.box [.zero,.zero]),(9,.box [.zero,.zero]),(11,.box [.d (dU 0),.d (dU 0),.d (dU 0)]),(14,.box [.d (lD 3 z04 r20.1.since),.d (lD 10 z09 r20.1.levels),.d (lD 3 z04 r9.since),.d (lD 10 z09 r9.levels)]),(89,.box [.d (.bool r28.maker.fault.is),.d (dU r28.maker.fault.at_.epoch),.d (dU r28.maker.fault.at_.loop.1),.d (dU r28.maker.fault.at_.loop.2),oC 21428 6 r28.maker.list]),(21428,vL 6 z01 r28.maker.list)]⟩) (by kernel_rfl) ?_;refine At.done rfl ?_;exact⟨_,h,kr⟩
      ·refine z07 ?_;refine At.seg 3 [8,9,11,14,19,96,97,98] [8,9,11,14,89] (s':=⟨[(8,.c (.ptr 8 0)),(9,.c (.ptr 9 0)),(11,.c (.ptr 11 0)),(14,.c (.ptr 14 0)),(19,.c (.ptr 89 0)),(96,.c (.ptr 89 0)),(97,cD (lD 6 z01 r22.1)),(98,cD (lD 6 z01 p3))],[(8,.box [.zero,.zero]),(9,.box [.zero,.zero]),(11,.box [.d (dU 0),.d (dU 0),.d (dU 0)]),(14,.box [.d (lD 3 z04 r20.1.since),.d (lD 10 z09 r20.1.levels),.d (lD 3 z04 r9.since),.d (lD 10 z09 r9.levels)]),(89,.box [.d (.bool false),.d (dU 0),.d (dU 0),.d (dU 0),.zero])]⟩) (by kernel_rfl) (z00 3) ?_;obtain⟨r29,hr29,h⟩:=z05 h;refine At.newOwnB (j:=89) (i:=4) (k:=21428) (es:=6) (fun i=>z01 (([]:List Update).getD i zzd)) rfl rfl rfl rfl ?_;refine z2k 0 [] [.c (.ptr 89 0),cD (lD 6 z01 r22.1),cD (lD 6 z01 p3)] [(5000,89),(5100,21428),(5150,21428)] [8,9,11,14,19] [8,9,11,14] (z2t hr29) (.ren rfl rfl (.flat (.refl _) rfl rfl (.flat (.refl _) rfl rfl .nil))) ?_;refine At.keep [8,9,11,14,19] [8,9,11,14,89,21428] (s':=⟨[(8,.c (.ptr 8 0)),(9,.c (.ptr 9 0)),(11,.c (.ptr 11 0)),(14,.c (.ptr 14 0)),(19,.c (.ptr 89 0))],[(8,.box [.zero,.zero]),(9,.box [.zero,.zero]),(11,.box [.d (dU 0),.d (dU 0),.d (dU 0)]),(14,.box [.d (lD 3 z04 r20.1.since),.d (lD 10 z09 r20.1.levels),.d (lD 3 z04 r9.since),.d (lD 10 z09 r9.levels)]),(89,.box [.d (.bool r29.maker.fault.is),.d (dU r29.maker.fault.at_.epoch),.d (dU r29.maker.fault.at_.loop.1),.d (dU r29.maker.fault.at_.loop.2),oC 21428 6 r29.maker.list]),(21428,vL 6 z01 r29.maker.list)]⟩) (by kernel_rfl) ?_;refine At.done rfl ?_;exact⟨_,h,kr⟩
   ·rcases zhk h with⟨hs,h⟩|⟨hs,h⟩
    ·subst hs;refine z07 ?_;refine At.seg 4 [2,3,8,9,11,14,58,59] [8,9,11,14] (s':=⟨[(2,cD (dI 1)),(3,cD (lD 6 z01 p3)),(8,.c (.ptr 8 0)),(9,.c (.ptr 9 0)),(11,.c (.ptr 11 0)),(14,.c (.ptr 14 0)),(58,.agg (cSpine r9)),(59,cD (lD 6 z01 p3))],[(8,.box [.zero,.zero]),(9,.box [.zero,.zero]),(11,.box [.d (dU 0),.d (dU 0),.d (dU 0)]),(14,.box [.d (lD 3 z04 r8.since),.d (lD 10 z09 r8.levels),.d (lD 3 z04 r9.since),.d (lD 10 z09 r9.levels)])]⟩) (by kernel_rfl) (z00 4) ?_;refine At.one rfl (One.buildSlice (z:=[.zero]) (cells:=[.d (lD 6 z01 p3)]) (xs:=List.map ((fun xs=>[encL 6 z01 xs])) ([p3]:List (List Update))) rfl rfl rfl rfl (by kernel_rfl) rfl rfl (by kernel_rfl) rfl rfl rfl (by kernel_rfl) rfl ⟨⟨rfl,.refl _⟩,trivial⟩) ?_;refine At.l [60] ⟨[(60,cD (lD 1 (fun xs=>[encL 6 z01 xs]) ([p3]:List (List Update)))),(2,cD (dI 1)),(3,cD (lD 6 z01 p3)),(8,.c (.ptr 8 0)),(9,.c (.ptr 9 0)),(11,.c (.ptr 11 0)),(14,.c (.ptr 14 0)),(58,.agg (cSpine r9)),(59,cD (lD 6 z01 p3))],[(8,.box [.zero,.zero]),(9,.box [.zero,.zero]),(11,.box [.d (dU 0),.d (dU 0),.d (dU 0)]),(14,.box [.d (lD 3 z04 r8.since),.d (lD 10 z09 r8.levels),.d (lD 3 z04 r9.since),.d (lD 10 z09 r9.levels)])]⟩ ⟨⟨_,rfl,.c (.own rfl (zz9.2 rfl) (zz5 rfl) rfl (z22 ((fun xs=>[encL 6 z01 xs])) ([p3]:List (List Update))))⟩,⟨_,rfl,.refl _⟩,⟨_,rfl,.refl _⟩,⟨_,rfl,.refl _⟩,⟨_,rfl,.refl _⟩,⟨_,rfl,.refl _⟩,⟨_,rfl,.refl _⟩,⟨_,rfl,.refl _⟩,⟨_,rfl,.refl _⟩,trivial⟩ ⟨⟨_,rfl,.refl _,(by simp)⟩,⟨_,rfl,.refl _,(by simp)⟩,⟨_,rfl,.refl _,(by simp)⟩,⟨_,rfl,.refl _,(by simp)⟩,trivial⟩ ?_;obtain⟨r10,hr10,h⟩:=z05 h;refine At.cA [] [.agg (cSpine r9),cD (lD 1 (fun xs=>[encL 6 z01 xs]) ([p3]:List (List Update)))] (zbg hr10) (.cons (.refl _) (.cons (.refl _) .nil)) ?_;refine At.sg 6 [2,3,8,9,11,14,15,16] [8,9,11,14,15] (z00 6) ?_;refine At.done rfl ?_;refine z02 ?_;obtain⟨r11,hr11,h⟩:=z05 h;obtain⟨r12,hr12,h⟩:=z05 h;refine z0l [.a [2] [],.a [65] [],.a [14,66] [14],.a [67] [14],.a [3] [],.m ⟨[(69,cD (lD 6 z01 p3))],[]⟩ ⟨[(70,cD (lD 1 (fun xs=>[encL 3 z03 xs]) r11))],[]⟩ [] [] [],.m ⟨[(68,.agg (cSpine r8)),(70,cD (lD 1 (fun xs=>[encL 3 z03 xs]) r11))],[]⟩ ⟨[(71,.tup [(false,[.d (lD 6 z01 r12.1)]),(false,[.d (dI r12.2)])])],[]⟩ [] [] [],.a [71] [],.a [64] [],.a [64] [],.a [72] [],.a [73] []] [2,3,8,9,11,14,15,16,17,18] [8,9,11,14,15] (z00 10) (.a (.a (.a (.a (.a (.m ?_ (.m ?_ (.a (.a (.a (.a (.a .z)))))))))))) ?_
     ·exact DOk.cA [] [cD (lD 6 z01 p3)] (zea hr11) fun r=>(.cons (.refl _) .nil)
     ·exact DOk.cA [] [.agg (cSpine r8),cD (lD 1 (fun xs=>[encL 3 z03 xs]) r11)] (zc8 hr12) fun r=>(.cons (.refl _) (.cons (.refl _) .nil))
     refine z02 ?_;refine z02 ?_;refine z07 ?_;refine At.seg 2 [2,3,8,9,11,14,15,17,74,75] [8,9,11,14,15] (s':=⟨[(2,cD (dI 1)),(3,cD (lD 6 z01 p3)),(8,.c (.ptr 8 0)),(9,.c (.ptr 9 0)),(11,.c (.ptr 11 0)),(14,.c (.ptr 14 0)),(15,.c (.ptr 15 0)),(17,cD (lD 6 z01 r12.1)),(74,cD (dI r10.2)),(75,cD (dI r12.2))],[(8,.box [.zero,.zero]),(9,.box [.zero,.zero]),(11,.box [.d (dU 0),.d (dU 0),.d (dU 0)]),(14,.box [.d (lD 3 z04 r8.since),.d (lD 10 z09 r8.levels),.d (lD 3 z04 r9.since),.d (lD 10 z09 r9.levels)]),(15,.box (cSpine r10.1))]⟩) (by kernel_rfl) (z00 2) ?_;refine At.one rfl (One.buildSlice (z:=[.d (dI 0)]) (cells:=[.d (dI r10.2),.d (dI r12.2)]) (xs:=List.map (z13 .i64) ([r10.2,r12.2]:List Int)) rfl rfl rfl rfl (by kernel_rfl) rfl rfl (by kernel_rfl) rfl rfl rfl (by kernel_rfl) rfl ⟨⟨rfl,.refl _⟩,⟨rfl,.refl _⟩,trivial⟩) ?_;refine At.l [76] ⟨[(76,cD (lD 1 (z13 .i64) ([r10.2,r12.2]:List Int))),(2,cD (dI 1)),(3,cD (lD 6 z01 p3)),(8,.c (.ptr 8 0)),(9,.c (.ptr 9 0)),(11,.c (.ptr 11 0)),(14,.c (.ptr 14 0)),(15,.c (.ptr 15 0)),(17,cD (lD 6 z01 r12.1)),(74,cD (dI r10.2)),(75,cD (dI r12.2))],[(8,.box [.zero,.zero]),(9,.box [.zero,.zero]),(11,.box [.d (dU 0),.d (dU 0),.d (dU 0)]),(14,.box [.d (lD 3 z04 r8.since),.d (lD 10 z09 r8.levels),.d (lD 3 z04 r9.since),.d (lD 10 z09 r9.levels)]),(15,.box (cSpine r10.1))]⟩ ⟨⟨_,rfl,.c (.own rfl (zz9.2 rfl) (zz5 rfl) rfl (z22 (z13 .i64) ([r10.2,r12.2]:List Int)))⟩,⟨_,rfl,.refl _⟩,⟨_,rfl,.refl _⟩,⟨_,rfl,.refl _⟩,⟨_,rfl,.refl _⟩,⟨_,rfl,.refl _⟩,⟨_,rfl,.refl _⟩,⟨_,rfl,.refl _⟩,⟨_,rfl,.refl _⟩,⟨_,rfl,.refl _⟩,⟨_,rfl,.refl _⟩,trivial⟩ ⟨⟨_,rfl,.refl _,(by simp)⟩,⟨_,rfl,.refl _,(by simp)⟩,⟨_,rfl,.refl _,(by simp)⟩,⟨_,rfl,.refl _,(by simp)⟩,⟨_,rfl,.refl _,(by simp)⟩,trivial⟩ ?_;obtain⟨r13,hr13,h⟩:=z05 h;refine At.cA [] [cD (lD 1 (z13 .i64) ([r10.2,r12.2]:List Int))] (z5t hr13) (.cons (.refl _) .nil) ?_;refine At.sg 1 [2,3,8,9,11,14,15,17,78] [8,9,11,14,15] (z00 1) ?_;refine At.done rfl ?_;refine z08 h (fun h=>?_) (fun h=>?_)
     ·refine z02 ?_;obtain⟨r14,hr14,h⟩:=z05 h;refine z0l [.a [14] [14],.a [79] [14],.a [14] [14],.a [81] [14],.a [3] [],.m ⟨[(83,cD (lD 6 z01 p3))],[]⟩ ⟨[(84,.agg (cTime r14))],[]⟩ [] [] [],.m ⟨[(8,.c (.ptr 8 0)),(80,.agg (cSpine r8))],[(8,.box [.zero,.zero])]⟩ ⟨[],[(8,.box (cSpine r8))]⟩ [] [] [],.m ⟨[(9,.c (.ptr 9 0)),(82,.agg (cSpine r9))],[(9,.box [.zero,.zero])]⟩ ⟨[],[(9,.box (cSpine r9))]⟩ [] [] [],.a [] [],.m ⟨[(11,.c (.ptr 11 0)),(84,.agg (cTime r14))],[(11,.box [.d (dU 0),.d (dU 0),.d (dU 0)])]⟩ ⟨[],[(11,.box (cTime r14))]⟩ [] [] [],.a [] []] [8,9,10,11,12] [8,9,11] (z00 7) (.a (.a (.a (.a (.a (.m ?_ (.m ?_ (.m ?_ (.a (.m ?_ (.a .z))))))))))) ?_
      ·exact DOk.cA [] [cD (lD 6 z01 p3)] (zdf hr14) fun r=>(.cons (.refl _) .nil)
      ·exact DOk.step (.turn 8 (.box (cSpine r8))) (fun r=>by kernel_rfl) (fun r=>by kernel_rfl) trivial (by kernel_rfl) (by kernel_rfl) (fun r=>rfl)
      ·exact DOk.step (.turn 9 (.box (cSpine r9))) (fun r=>by kernel_rfl) (fun r=>by kernel_rfl) trivial (by kernel_rfl) (by kernel_rfl) (fun r=>rfl)
      ·exact DOk.step (.turn 11 (.box (cTime r14))) (fun r=>by kernel_rfl) (fun r=>by kernel_rfl) trivial (by kernel_rfl) (by kernel_rfl) (fun r=>rfl)
      refine Tri.keep [8,9,10,11,12] [8,9,11] (s':=⟨[(8,.c (.ptr 8 0)),(9,.c (.ptr 9 0)),(10,.c (.zero)),(11,.c (.ptr 11 0)),(12,cD (dI 10))],[(8,.box (cSpine r8)),(9,.box (cSpine r9)),(11,.box (cTime r14))]⟩) (by kernel_rfl) ?_;refine Tri.l [] ⟨[(8,.c (.ptr 8 0)),(9,.c (.ptr 9 0)),(10,cD (lD 6 z01 ([]:List Update))),(11,.c (.ptr 11 0)),(12,cD (dI 10))],[(8,.box (cSpine r8)),(9,.box (cSpine r9)),(11,.box (cTime r14))]⟩ ⟨⟨_,rfl,.refl _⟩,⟨_,rfl,.refl _⟩,⟨_,rfl,.c (.zero _ _)⟩,⟨_,rfl,.refl _⟩,⟨_,rfl,.refl _⟩,trivial⟩ ⟨⟨_,rfl,.refl _,(by simp)⟩,⟨_,rfl,.refl _,(by simp)⟩,⟨_,rfl,.refl _,(by simp)⟩,trivial⟩ ?_;refine Tri.ret ?_;cases h;exact RetAt.k
     ·refine Tri.skip ?_;refine Tri.sg [2,3,8,9,11,14,17] [8,9,11,14] (z00 4) ?_;refine Tri.sg [2,3,8,9,11,14,17,19] [8,9,11,14,89] (z00 3) ?_;refine z0k (fun(a15:JoinMaker)=>⟨[(8,.c (.ptr 8 0)),(9,.c (.ptr 9 0)),(11,.c (.ptr 11 0)),(14,.c (.ptr 14 0)),(19,.c (.ptr 89 0))],[(8,.box [.zero,.zero]),(9,.box [.zero,.zero]),(11,.box [.d (dU 0),.d (dU 0),.d (dU 0)]),(14,.box [.d (lD 3 z04 r8.since),.d (lD 10 z09 r8.levels),.d (lD 3 z04 r10.1.since),.d (lD 10 z09 r10.1.levels)]),(89,.box [.d (.bool a15.maker.fault.is),.d (dU a15.maker.fault.at_.epoch),.d (dU a15.maker.fault.at_.loop.1),.d (dU a15.maker.fault.at_.loop.2),oC 21428 6 a15.maker.list]),(21428,vL 6 z01 a15.maker.list)]⟩) h (fun a15 h=>?_) (fun j16 h=>?_)
      ·refine z02 ?_;refine z07 ?_;refine At.seg 3 [8,9,11,14,103] [8,9,11,14,89,21428] (s':=⟨[(8,.c (.ptr 8 0)),(9,.c (.ptr 9 0)),(11,.c (.ptr 11 0)),(14,.c (.ptr 14 0)),(103,.c (.ptr 89 0))],[(8,.box [.zero,.zero]),(9,.box [.zero,.zero]),(11,.box [.d (dU 0),.d (dU 0),.d (dU 0)]),(14,.box [.d (lD 3 z04 r8.since),.d (lD 10 z09 r8.levels),.d (lD 3 z04 r10.1.since),.d (lD 10 z09 r10.1.levels)]),(89,.box [.d (.bool a15.maker.fault.is),.d (dU a15.maker.fault.at_.epoch),.d (dU a15.maker.fault.at_.loop.1),.d (dU a15.maker.fault.at_.loop.2),oC 21428 6 a15.maker.list]),(21428,vL 6 z01 a15.maker.list)]⟩) (by kernel_rfl) (z00 3) ?_;obtain⟨r17,hr17,h⟩:=z05 h;refine At.l [21428] ⟨[(8,.c (.ptr 8 0)),(9,.c (.ptr 9 0)),(11,.c (.ptr 11 0)),(14,.c (.ptr 14 0)),(103,.c (.ptr 89 0))],[(8,.box [.zero,.zero]),(9,.box [.zero,.zero]),(11,.box [.d (dU 0),.d (dU 0),.d (dU 0)]),(14,.box [.d (lD 3 z04 r8.since),.d (lD 10 z09 r8.levels),.d (lD 3 z04 r10.1.since),.d (lD 10 z09 r10.1.levels)]),(89,.box (cJoinMaker a15))]⟩ ⟨⟨_,rfl,.refl _⟩,⟨_,rfl,.refl _⟩,⟨_,rfl,.refl _⟩,⟨_,rfl,.refl _⟩,⟨_,rfl,.refl _⟩,trivial⟩ ⟨⟨_,rfl,.refl _,(by simp)⟩,⟨_,rfl,.refl _,(by simp)⟩,⟨_,rfl,.refl _,(by simp)⟩,⟨_,rfl,.refl _,(by simp)⟩,⟨_,rfl,.box (.cons (.refl _) (.cons (.refl _) (.cons (.refl _) (.cons (.refl _) (.cons (CLe.frozen (z01) a15.maker.list rfl (by simp)) .nil))))),(by simp)⟩,trivial⟩ ?_;refine z2k 0 [] [.c (.ptr 89 0)] [(5000,89)] [8,9,11,14] [8,9,11,14] (z3e hr17) (.ren rfl rfl .nil) ?_;refine At.sg 8 [8,9,11,14,20,21,22] [8,9,11,14,21] (z00 8) ?_;refine At.done rfl ?_;refine z02 ?_;refine z0l [.a [14] [14],.a [108] [14],.a [14] [14],.a [110] [14],.a [20] [],.a [21] [21],.a [22] [],.m ⟨[(8,.c (.ptr 8 0)),(109,.agg (cSpine r8))],[(8,.box [.zero,.zero])]⟩ ⟨[],[(8,.box (cSpine r8))]⟩ [] [] [],.m ⟨[(9,.c (.ptr 9 0)),(111,.agg (cSpine r10.1))],[(9,.box [.zero,.zero])]⟩ ⟨[],[(9,.box (cSpine r10.1))]⟩ [] [] [],.a [112] [],.m ⟨[(11,.c (.ptr 11 0)),(113,.agg (cTime r17.2.1))],[(11,.box [.d (dU 0),.d (dU 0),.d (dU 0)])]⟩ ⟨[],[(11,.box (cTime r17.2.1))]⟩ [] [] [],.a [114] []] [8,9,10,11,12] [8,9,11] (z00 9) (.a (.a (.a (.a (.a (.a (.a (.m ?_ (.m ?_ (.a (.m ?_ (.a .z)))))))))))) ?_
       ·exact DOk.step (.turn 8 (.box (cSpine r8))) (fun r=>by kernel_rfl) (fun r=>by kernel_rfl) trivial (by kernel_rfl) (by kernel_rfl) (fun r=>rfl)
       ·exact DOk.step (.turn 9 (.box (cSpine r10.1))) (fun r=>by kernel_rfl) (fun r=>by kernel_rfl) trivial (by kernel_rfl) (by kernel_rfl) (fun r=>rfl)
       ·exact DOk.step (.turn 11 (.box (cTime r17.2.1))) (fun r=>by kernel_rfl) (fun r=>by kernel_rfl) trivial (by kernel_rfl) (by kernel_rfl) (fun r=>rfl)
       refine Tri.ret ?_;cases h;exact RetAt.k
      ·refine Tri.sg [3,8,9,11,14,17,19,91] [8,9,11,14,89] (z00 2) ?_;refine z08 h (fun h=>?_) (fun h=>?_)
       ·refine z07 ?_;refine At.seg 3 [8,9,11,14,19,92,93,94] [8,9,11,14,89] (s':=⟨[(8,.c (.ptr 8 0)),(9,.c (.ptr 9 0)),(11,.c (.ptr 11 0)),(14,.c (.ptr 14 0)),(19,.c (.ptr 89 0)),(92,.c (.ptr 89 0)),(93,cD (lD 6 z01 p3)),(94,cD (lD 6 z01 r12.1))],[(8,.box [.zero,.zero]),(9,.box [.zero,.zero]),(11,.box [.d (dU 0),.d (dU 0),.d (dU 0)]),(14,.box [.d (lD 3 z04 r8.since),.d (lD 10 z09 r8.levels),.d (lD 3 z04 r10.1.since),.d (lD 10 z09 r10.1.levels)]),(89,.box [.d (.bool false),.d (dU 0),.d (dU 0),.d (dU 0),.zero])]⟩) (by kernel_rfl) (z00 3) ?_;obtain⟨r18,hr18,h⟩:=z05 h;refine At.newOwnB (j:=89) (i:=4) (k:=21428) (es:=6) (fun i=>z01 (([]:List Update).getD i zzd)) rfl rfl rfl rfl ?_;refine z2k 0 [] [.c (.ptr 89 0),cD (lD 6 z01 p3),cD (lD 6 z01 r12.1)] [(5000,89),(5100,21428),(5150,21428)] [8,9,11,14,19] [8,9,11,14] (z2t hr18) (.ren rfl rfl (.flat (.refl _) rfl rfl (.flat (.refl _) rfl rfl .nil))) ?_;refine At.keep [8,9,11,14,19] [8,9,11,14,89,21428] (s':=⟨[(8,.c (.ptr 8 0)),(9,.c (.ptr 9 0)),(11,.c (.ptr 11 0)),(14,.c (.ptr 14 0)),(19,.c (.ptr 89 0))],[(8,.box [.zero,.zero]),(9,.box [.zero,.zero]),(11,.box [.d (dU 0),.d (dU 0),.d (dU 0)]),(14,.box [.d (lD 3 z04 r8.since),.d (lD 10 z09 r8.levels),.d (lD 3 z04 r10.1.since),.d (lD 10 z09 r10.1.levels)]),(89,.box [.d (.bool r18.maker.fault.is),.d (dU r18.maker.fault.at_.epoch),.d (dU r18.maker.fault.at_.loop.1),.d (dU r18.maker.fault.at_.loop.2),oC 21428 6 r18.maker.list]),(21428,vL 6 z01 r18.maker.list)]⟩) (by kernel_rfl) ?_;refine At.done rfl ?_;exact⟨_,h,kr⟩
       ·refine z07 ?_;refine At.seg 3 [8,9,11,14,19,96,97,98] [8,9,11,14,89] (s':=⟨[(8,.c (.ptr 8 0)),(9,.c (.ptr 9 0)),(11,.c (.ptr 11 0)),(14,.c (.ptr 14 0)),(19,.c (.ptr 89 0)),(96,.c (.ptr 89 0)),(97,cD (lD 6 z01 r12.1)),(98,cD (lD 6 z01 p3))],[(8,.box [.zero,.zero]),(9,.box [.zero,.zero]),(11,.box [.d (dU 0),.d (dU 0),.d (dU 0)]),(14,.box [.d (lD 3 z04 r8.since),.d (lD 10 z09 r8.levels),.d (lD 3 z04 r10.1.since),.d (lD 10 z09 r10.1.levels)]),(89,.box [.d (.bool false),.d (dU 0),.d (dU 0),.d (dU 0),.zero])]⟩) (by kernel_rfl) (z00 3) ?_;obtain⟨r19,hr19,h⟩:=z05 h;refine At.newOwnB (j:=89) (i:=4) (k:=21428) (es:=6) (fun i=>z01 (([]:List Update).getD i zzd)) rfl rfl rfl rfl ?_;refine z2k 0 [] [.c (.ptr 89 0),cD (lD 6 z01 r12.1),cD (lD 6 z01 p3)] [(5000,89),(5100,21428),(5150,21428)] [8,9,11,14,19] [8,9,11,14] (z2t hr19) (.ren rfl rfl (.flat (.refl _) rfl rfl (.flat (.refl _) rfl rfl .nil))) ?_;refine At.keep [8,9,11,14,19] [8,9,11,14,89,21428] (s':=⟨[(8,.c (.ptr 8 0)),(9,.c (.ptr 9 0)),(11,.c (.ptr 11 0)),(14,.c (.ptr 14 0)),(19,.c (.ptr 89 0))],[(8,.box [.zero,.zero]),(9,.box [.zero,.zero]),(11,.box [.d (dU 0),.d (dU 0),.d (dU 0)]),(14,.box [.d (lD 3 z04 r8.since),.d (lD 10 z09 r8.levels),.d (lD 3 z04 r10.1.since),.d (lD 10 z09 r10.1.levels)]),(89,.box [.d (.bool r19.maker.fault.is),.d (dU r19.maker.fault.at_.epoch),.d (dU r19.maker.fault.at_.loop.1),.d (dU r19.maker.fault.at_.loop.2),oC 21428 6 r19.maker.list]),(21428,vL 6 z01 r19.maker.list)]⟩) (by kernel_rfl) ?_;refine At.done rfl ?_;exact⟨_,h,kr⟩
    ·cases h
 ·refine z0k (fun(a30:Bool)=>⟨[(2,cD (dI p2)),(3,cD (lD 6 z01 p3)),(4,.c (.ptr 4 0)),(5,.c (.ptr 5 0)),(8,.c (.ptr 8 0)),(9,.c (.ptr 9 0)),(11,.c (.ptr 11 0)),(13,cD (dI r3)),(38,cD (.bool a30))],[(4,.box (cSpine p0)),(5,.box (cSpine p1)),(8,.box [.zero,.zero]),(9,.box [.zero,.zero]),(11,.box [.d (dU 0),.d (dU 0),.d (dU 0)])]⟩) h (fun a30 h=>?_) (fun j31 h=>?_)
  ·refine z08 h (fun h=>?_) (fun h=>?_)
   ·refine z07 ?_;refine At.sg 1 [2,3,4,5,8,9,11,13] [4,5,8,9,11] (z00 1) ?_;refine At.done rfl ?_;exact⟨_,h,kr⟩
   ·refine Tri.kp [2,3,4,5,8,9,11,13] [4,5,8,9,11] ?_;refine Tri.skip ?_;exact⟨_,h,kr⟩
  ·refine z07 ?_;refine At.sg 3 [2,3,4,5,8,9,11,13,31] [4,5,8,9,11] (z00 3) ?_;refine At.cs [31] h (fun h=>?_) (fun h=>?_)
   ·refine At.sg 4 [2,3,4,5,8,9,11,13,35] [4,5,8,9,11] (z00 4) ?_;refine At.cs [35] h (fun h=>?_) (fun h=>?_)
    ·refine At.sg 3 [2,3,4,5,8,9,11,13,38] [4,5,8,9,11] (z00 3) ?_;refine At.done rfl ?_;exact⟨_,h,kr⟩
    ·refine At.sg 3 [2,3,4,5,8,9,11,13,38] [4,5,8,9,11] (z00 1) ?_;refine At.done rfl ?_;exact⟨_,h,kr⟩
   ·refine At.sg 7 [2,3,4,5,8,9,11,13,38] [4,5,8,9,11] (z00 3) ?_;refine At.done rfl ?_;exact⟨_,h,kr⟩
theorem z38 {p0:List Value}{p1:List Value}{q:Bool}(h:z45 p0 p1=some q):
 Summ Tryz.prog 30 [cD (lD 3 z03 p0),cD (lD 3 z03 p1)] [] (cD (.bool q)) []:=by
 refine Summ.i Tryz.func30 rfl [] fun w0 G0 V LL φ0 rd=>?_;unfold z45 at h;refine Tri.sg [0,1] [] (z00 1) ?_;refine z02 ?_;refine Tri.sg [0,1,10] [] (z00 5) ?_;refine z08 h (fun h=>?_) (fun h=>?_)
 ·refine Tri.sg [4] [] (z00 1) ?_;refine Tri.ret ?_;cases h;exact RetAt.k
 ·refine Tri.skip ?_;refine z02 ?_;refine Tri.sg [0,1,12,13] [] (z00 3) ?_;refine Tri.ln 0 p0.length fun hlena2=>?_;refine z1m 13 () (fun(x:Bool) s=>RetAt Tryz.prog Tryz.f30 (cD (.bool x)) [] s) (fun(a2:Unit)=>⟨[(0,cD (lD 3 z03 p0)),(1,cD (lD 3 z03 p1)),(12,cD (dI (p0.length:Int)))],[]⟩) [13,0,1,12] [] [14,13,0,1,12] [] [0,1,12] [] [13,0,1,12] [] h hlena2 ?_ ?_ ?_
  ·intro i1 a2 c hii1 h;refine Tri.sg [0,1,5,12,13] [] (z00 2) ?_;refine z02 ?_;obtain⟨hc4,h⟩:=z06 h;refine z0l [.a [0] [],.a [5] [],.a [16,17] [],.a [18] [],.a [1] [],.a [5] [],.a [20,21] [],.a [22] [],.m ⟨[(19,.agg (cValue (p0.getD i1 zzd))),(23,.agg (cValue (p1.getD i1 zzd)))],[]⟩ ⟨[(24,cD (.bool (!(z8k (p0.getD i1 zzd) (p1.getD i1 zzd)))))],[]⟩ [] [] []] [0,1,12,13,24] [] (tN 2 (ai (show((0:Int)≤((i1:Nat):Int)∧((i1:Nat):Int)<(p0.length:Int))from⟨by omega,by omega⟩) (tN 3 (ai hc4 (z00 1))))) (.a (.a (.a (.a (.a (.a (.a (.a (.m ?_ .z))))))))) ?_
   ·exact DOk.one fun r _=>One.eql (b:=(z8k (p0.getD i1 zzd) (p1.getD i1 zzd))) (d:=9) rfl (by kernel_rfl) rfl (.inr rfl) rfl rfl (by kernel_rfl) rfl (by kernel_rfl)
   refine z08 h (fun h=>?_) (fun h=>?_)
   ·refine Tri.sg [4] [] (z00 1) ?_;refine Tri.ret ?_;cases h;exact RetAt.k
   ·refine Tri.kp [13,0,1,12] [] ?_;refine Tri.skip ?_;cases h;exact kr
  ·intro a3 h;refine Tri.sg [4] [] (z00 1) ?_;refine Tri.ret ?_;cases h;exact RetAt.k
  ·exact fun x s hx hr=>by cases hx;exact hr
theorem z90 {p0:List Update}{p1:List Update}{q:Bool}(h:z56 p0 p1=some q):
 Summ Tryz.prog 12 [cD (lD 6 z01 p0),cD (lD 6 z01 p1)] [] (cD (.bool q)) []:=by
 refine Summ.i Tryz.func12 rfl [] fun w0 G0 V LL φ0 rd=>?_;unfold z56 at h;refine Tri.sg [0,1] [] (z00 1) ?_;refine z02 ?_;refine Tri.sg [0,1,10] [] (z00 5) ?_;refine z08 h (fun h=>?_) (fun h=>?_)
 ·refine Tri.sg [4] [] (z00 1) ?_;refine Tri.ret ?_;cases h;exact RetAt.k
 ·refine Tri.skip ?_;refine z02 ?_;refine Tri.sg [0,1,12,13] [] (z00 3) ?_;refine Tri.ln 0 p0.length fun hlena2=>?_;refine z1m 13 () (fun(x:Bool) s=>RetAt Tryz.prog Tryz.f12 (cD (.bool x)) [] s) (fun(a2:Unit)=>⟨[(0,cD (lD 6 z01 p0)),(1,cD (lD 6 z01 p1)),(12,cD (dI (p0.length:Int)))],[]⟩) [13,0,1,12] [] [14,13,0,1,12] [] [0,1,12] [] [13,0,1,12] [] h hlena2 ?_ ?_ ?_
  ·intro i1 a2 c hii1 h;refine z1u [0,1,5,12,13] [] ⟨[(0,cD (lD 6 z01 p0)),(1,cD (lD 6 z01 p1)),(5,cD (dI ((i1:Nat):Int))),(12,cD (dI (p0.length:Int))),(13,cD (dI ((i1:Nat):Int)))],[]⟩ _ (by kernel_rfl) (z00 2) ?_;refine z0k (fun(a4:Bool)=>⟨[(0,cD (lD 6 z01 p0)),(1,cD (lD 6 z01 p1)),(12,cD (dI (p0.length:Int))),(13,cD (dI ((i1:Nat):Int))),(67,cD (.bool a4))],[]⟩) h (fun a4 h=>?_) (fun j5 h=>?_)
   ·refine z08 h (fun h=>?_) (fun h=>?_)
    ·refine Tri.sg [4] [] (z00 1) ?_;refine Tri.ret ?_;cases h;exact RetAt.k
    ·refine Tri.kp [13,0,1,12] [] ?_;refine Tri.skip ?_;cases h;exact kr
   ·obtain⟨hc6,h⟩:=z06 h;obtain⟨r7,hr7,h⟩:=z05 h;rcases z2x h with⟨hp8,h⟩|⟨hp8,h⟩
    ·refine z0l [.a [0] [],.a [5] [],.a [16,17] [],.a [18] [],.a [19] [],.a [1] [],.a [5] [],.a [21,22] [],.a [23] [],.a [24] [],.m ⟨[(20,cD (lD 3 z03 ((p0.getD i1 zzd).key))),(25,cD (lD 3 z03 ((p1.getD i1 zzd).key)))],[]⟩ ⟨[(26,cD (.bool r7))],[]⟩ [] [] [],.a [26] [],.m ⟨[(27,cD (.bool (!r7)))],[]⟩ ⟨[(28,.c (.d (.bool true)))],[]⟩ [] [] [],.a [0,28] [],.a [5,28] [],.a [28,29,30] [],.a [28,31] [],.a [28,32] [],.a [1,28] [],.a [5,28] [],.a [28,34,35] [],.a [28,36] [],.a [28,37] [],.a [28,33,38] [],.a [28,39] [],.a [28,40] [],.a [41] [],.a [0,42] [],.a [5,42] [],.a [42,43,44] [],.a [42,45] [],.a [42,46] [],.a [1,42] [],.a [5,42] [],.a [42,48,49] [],.a [42,50] [],.a [42,51] [],.a [42,47,52] [],.a [42,53] [],.a [54] [],.a [0,55] [],.a [5,55] [],.a [55,56,57] [],.a [55,58] [],.a [55,59] [],.a [1,55] [],.a [5,55] [],.a [55,61,62] [],.a [55,63] [],.a [55,64] [],.a [55,60,65] [],.a [55,66] []] [0,1,12,13,67] [] (tN 2 (ai (show((0:Int)≤((i1:Nat):Int)∧((i1:Nat):Int)<(p0.length:Int))from⟨by omega,by omega⟩) (tN 4 (ai hc6 (z00 8))))) (.a (.a (.a (.a (.a (.a (.a (.a (.a (.a (.m ?_ (.a (.m ?_ (.a (.a (.a (.a (.a (.a (.a (.a (.a (.a (.a (.a (.a (.a (.a (.a (.a (.a (.a (.a (.a (.a (.a (.a (.a (.a (.a (.a (.a (.a (.a (.a (.a (.a (.a (.a (.a (.a (.a .z)))))))))))))))))))))))))))))))))))))))))))))))))))) ?_
     ·exact DOk.cA [] [cD (lD 3 z03 ((p0.getD i1 zzd).key)),cD (lD 3 z03 ((p1.getD i1 zzd).key))] (z38 hr7) fun r=>(.cons (.refl _) (.cons (.refl _) .nil))
     ·exact DOk.stepP (fun b=> .val (.c (.d (.bool b))) (True)) (p:=(!r7)) hp8 (fun r=>by kernel_rfl) (fun r=>by kernel_rfl) trivial (by kernel_rfl) (by kernel_rfl) (fun r=>rfl)
     exact⟨_,h,kr⟩
    ·obtain⟨hc9,h⟩:=z06 h;obtain⟨r10,hr10,h⟩:=z05 h;rcases z2x h with⟨hp11,h⟩|⟨hp11,h⟩
     ·refine z0l [.a [0] [],.a [5] [],.a [16,17] [],.a [18] [],.a [19] [],.a [1] [],.a [5] [],.a [21,22] [],.a [23] [],.a [24] [],.m ⟨[(20,cD (lD 3 z03 ((p0.getD i1 zzd).key))),(25,cD (lD 3 z03 ((p1.getD i1 zzd).key)))],[]⟩ ⟨[(26,cD (.bool r7))],[]⟩ [] [] [],.a [26] [],.m ⟨[(27,cD (.bool (!r7)))],[]⟩ ⟨[(28,.c (.d (.bool false)))],[]⟩ [] [] [],.a [0,28] [],.a [5,28] [],.a [28,29,30] [],.a [28,31] [],.a [28,32] [],.a [1,28] [],.a [5,28] [],.a [28,34,35] [],.a [28,36] [],.a [28,37] [],.m ⟨[(28,cD (.bool false)),(33,cD (lD 3 z03 ((p0.getD i1 zzd).row))),(38,cD (lD 3 z03 ((p1.getD i1 zzd).row)))],[]⟩ ⟨[(39,cD (.bool r10))],[]⟩ [] [] [],.a [28,39] [],.a [28,40] [],.m ⟨[(41,cD (.bool (!r10)))],[]⟩ ⟨[(42,.c (.d (.bool true)))],[]⟩ [] [] [],.a [0,42] [],.a [5,42] [],.a [42,43,44] [],.a [42,45] [],.a [42,46] [],.a [1,42] [],.a [5,42] [],.a [42,48,49] [],.a [42,50] [],.a [42,51] [],.a [42,47,52] [],.a [42,53] [],.a [54] [],.a [0,55] [],.a [5,55] [],.a [55,56,57] [],.a [55,58] [],.a [55,59] [],.a [1,55] [],.a [5,55] [],.a [55,61,62] [],.a [55,63] [],.a [55,64] [],.a [55,60,65] [],.a [55,66] []] [0,1,12,13,67] [] (tN 2 (ai (show((0:Int)≤((i1:Nat):Int)∧((i1:Nat):Int)<(p0.length:Int))from⟨by omega,by omega⟩) (tN 4 (ai hc6 (tN 5 (ai (show((0:Int)≤((i1:Nat):Int)∧((i1:Nat):Int)<(p0.length:Int))from⟨by omega,by omega⟩) (tN 4 (ai hc9 (z00 7))))))))) (.a (.a (.a (.a (.a (.a (.a (.a (.a (.a (.m ?_ (.a (.m ?_ (.a (.a (.a (.a (.a (.a (.a (.a (.a (.a (.m ?_ (.a (.a (.m ?_ (.a (.a (.a (.a (.a (.a (.a (.a (.a (.a (.a (.a (.a (.a (.a (.a (.a (.a (.a (.a (.a (.a (.a (.a (.a .z)))))))))))))))))))))))))))))))))))))))))))))))))))) ?_
      ·exact DOk.cA [] [cD (lD 3 z03 ((p0.getD i1 zzd).key)),cD (lD 3 z03 ((p1.getD i1 zzd).key))] (z38 hr7) fun r=>(.cons (.refl _) (.cons (.refl _) .nil))
      ·exact DOk.stepP (fun b=> .val (.c (.d (.bool b))) (True)) (p:=(!r7)) hp8 (fun r=>by kernel_rfl) (fun r=>by kernel_rfl) trivial (by kernel_rfl) (by kernel_rfl) (fun r=>rfl)
      ·exact DOk.cA [] [cD (lD 3 z03 ((p0.getD i1 zzd).row)),cD (lD 3 z03 ((p1.getD i1 zzd).row))] (z38 hr10) fun r=>(.cons (.refl _) (.cons (.refl _) .nil))
      ·exact DOk.stepP (fun b=> .val (.c (.d (.bool b))) (True)) (p:=(!r10)) hp11 (fun r=>by kernel_rfl) (fun r=>by kernel_rfl) trivial (by kernel_rfl) (by kernel_rfl) (fun r=>rfl)
      exact⟨_,h,kr⟩
     ·obtain⟨hc12,h⟩:=z06 h;rcases z2x h with⟨hp13,h⟩|⟨hp13,h⟩
      ·refine z0l [.a [0] [],.a [5] [],.a [16,17] [],.a [18] [],.a [19] [],.a [1] [],.a [5] [],.a [21,22] [],.a [23] [],.a [24] [],.m ⟨[(20,cD (lD 3 z03 ((p0.getD i1 zzd).key))),(25,cD (lD 3 z03 ((p1.getD i1 zzd).key)))],[]⟩ ⟨[(26,cD (.bool r7))],[]⟩ [] [] [],.a [26] [],.m ⟨[(27,cD (.bool (!r7)))],[]⟩ ⟨[(28,.c (.d (.bool false)))],[]⟩ [] [] [],.a [0,28] [],.a [5,28] [],.a [28,29,30] [],.a [28,31] [],.a [28,32] [],.a [1,28] [],.a [5,28] [],.a [28,34,35] [],.a [28,36] [],.a [28,37] [],.m ⟨[(28,cD (.bool false)),(33,cD (lD 3 z03 ((p0.getD i1 zzd).row))),(38,cD (lD 3 z03 ((p1.getD i1 zzd).row)))],[]⟩ ⟨[(39,cD (.bool r10))],[]⟩ [] [] [],.a [28,39] [],.a [28,40] [],.m ⟨[(41,cD (.bool (!r10)))],[]⟩ ⟨[(42,.c (.d (.bool false)))],[]⟩ [] [] [],.a [0,42] [],.a [5,42] [],.a [42,43,44] [],.a [42,45] [],.a [42,46] [],.a [1,42] [],.a [5,42] [],.a [42,48,49] [],.a [42,50] [],.a [42,51] [],.m ⟨[(42,cD (.bool false)),(47,.agg [.d (dU ((p0.getD i1 zzd).time.epoch)),.d (dU ((p0.getD i1 zzd).time.loop.1)),.d (dU ((p0.getD i1 zzd).time.loop.2))]),(52,.agg [.d (dU ((p1.getD i1 zzd).time.epoch)),.d (dU ((p1.getD i1 zzd).time.loop.1)),.d (dU ((p1.getD i1 zzd).time.loop.2))])],[]⟩ ⟨[(53,cD (.bool (!(z36 ((p0.getD i1 zzd).time) ((p1.getD i1 zzd).time)))))],[]⟩ [] [] [],.a [42,53] [],.m ⟨[(54,cD (.bool (!(z36 ((p0.getD i1 zzd).time) ((p1.getD i1 zzd).time)))))],[]⟩ ⟨[(55,.c (.d (.bool true)))],[]⟩ [] [] [],.a [0,55] [],.a [5,55] [],.a [55,56,57] [],.a [55,58] [],.a [55,59] [],.a [1,55] [],.a [5,55] [],.a [55,61,62] [],.a [55,63] [],.a [55,64] [],.a [55,60,65] [],.a [55,66] []] [0,1,12,13,67] [] (tN 2 (ai (show((0:Int)≤((i1:Nat):Int)∧((i1:Nat):Int)<(p0.length:Int))from⟨by omega,by omega⟩) (tN 4 (ai hc6 (tN 5 (ai (show((0:Int)≤((i1:Nat):Int)∧((i1:Nat):Int)<(p0.length:Int))from⟨by omega,by omega⟩) (tN 4 (ai hc9 (tN 6 (ai (show((0:Int)≤((i1:Nat):Int)∧((i1:Nat):Int)<(p0.length:Int))from⟨by omega,by omega⟩) (tN 4 (ai hc12 (z00 4))))))))))))) (.a (.a (.a (.a (.a (.a (.a (.a (.a (.a (.m ?_ (.a (.m ?_ (.a (.a (.a (.a (.a (.a (.a (.a (.a (.a (.m ?_ (.a (.a (.m ?_ (.a (.a (.a (.a (.a (.a (.a (.a (.a (.a (.m ?_ (.a (.m ?_ (.a (.a (.a (.a (.a (.a (.a (.a (.a (.a (.a (.a .z)))))))))))))))))))))))))))))))))))))))))))))))))))) ?_
       ·exact DOk.cA [] [cD (lD 3 z03 ((p0.getD i1 zzd).key)),cD (lD 3 z03 ((p1.getD i1 zzd).key))] (z38 hr7) fun r=>(.cons (.refl _) (.cons (.refl _) .nil))
       ·exact DOk.stepP (fun b=> .val (.c (.d (.bool b))) (True)) (p:=(!r7)) hp8 (fun r=>by kernel_rfl) (fun r=>by kernel_rfl) trivial (by kernel_rfl) (by kernel_rfl) (fun r=>rfl)
       ·exact DOk.cA [] [cD (lD 3 z03 ((p0.getD i1 zzd).row)),cD (lD 3 z03 ((p1.getD i1 zzd).row))] (z38 hr10) fun r=>(.cons (.refl _) (.cons (.refl _) .nil))
       ·exact DOk.stepP (fun b=> .val (.c (.d (.bool b))) (True)) (p:=(!r10)) hp11 (fun r=>by kernel_rfl) (fun r=>by kernel_rfl) trivial (by kernel_rfl) (by kernel_rfl) (fun r=>rfl)
       ·exact DOk.one fun r _=>One.eql (b:=(z36 ((p0.getD i1 zzd).time) ((p1.getD i1 zzd).time))) (d:=9) rfl (by kernel_rfl) rfl (.inr rfl) rfl rfl (by kernel_rfl) rfl (by kernel_rfl)
       ·exact DOk.stepP (fun b=> .val (.c (.d (.bool b))) (True)) (p:=(!(z36 ((p0.getD i1 zzd).time) ((p1.getD i1 zzd).time)))) hp13 (fun r=>by kernel_rfl) (fun r=>by kernel_rfl) trivial (by kernel_rfl) (by kernel_rfl) (fun r=>rfl)
       exact⟨_,h,kr⟩
      ·obtain⟨hc14,h⟩:=z06 h;refine z0l [.a [0] [],.a [5] [],.a [16,17] [],.a [18] [],.a [19] [],.a [1] [],.a [5] [],.a [21,22] [],.a [23] [],.a [24] [],.m ⟨[(20,cD (lD 3 z03 ((p0.getD i1 zzd).key))),(25,cD (lD 3 z03 ((p1.getD i1 zzd).key)))],[]⟩ ⟨[(26,cD (.bool r7))],[]⟩ [] [] [],.a [26] [],.m ⟨[(27,cD (.bool (!r7)))],[]⟩ ⟨[(28,.c (.d (.bool false)))],[]⟩ [] [] [],.a [0,28] [],.a [5,28] [],.a [28,29,30] [],.a [28,31] [],.a [28,32] [],.a [1,28] [],.a [5,28] [],.a [28,34,35] [],.a [28,36] [],.a [28,37] [],.m ⟨[(28,cD (.bool false)),(33,cD (lD 3 z03 ((p0.getD i1 zzd).row))),(38,cD (lD 3 z03 ((p1.getD i1 zzd).row)))],[]⟩ ⟨[(39,cD (.bool r10))],[]⟩ [] [] [],.a [28,39] [],.a [28,40] [],.m ⟨[(41,cD (.bool (!r10)))],[]⟩ ⟨[(42,.c (.d (.bool false)))],[]⟩ [] [] [],.a [0,42] [],.a [5,42] [],.a [42,43,44] [],.a [42,45] [],.a [42,46] [],.a [1,42] [],.a [5,42] [],.a [42,48,49] [],.a [42,50] [],.a [42,51] [],.m ⟨[(42,cD (.bool false)),(47,.agg [.d (dU ((p0.getD i1 zzd).time.epoch)),.d (dU ((p0.getD i1 zzd).time.loop.1)),.d (dU ((p0.getD i1 zzd).time.loop.2))]),(52,.agg [.d (dU ((p1.getD i1 zzd).time.epoch)),.d (dU ((p1.getD i1 zzd).time.loop.1)),.d (dU ((p1.getD i1 zzd).time.loop.2))])],[]⟩ ⟨[(53,cD (.bool (!(z36 ((p0.getD i1 zzd).time) ((p1.getD i1 zzd).time)))))],[]⟩ [] [] [],.a [42,53] [],.m ⟨[(54,cD (.bool (!(z36 ((p0.getD i1 zzd).time) ((p1.getD i1 zzd).time)))))],[]⟩ ⟨[(55,.c (.d (.bool false)))],[]⟩ [] [] [],.a [0,55] [],.a [5,55] [],.a [55,56,57] [],.a [55,58] [],.a [55,59] [],.a [1,55] [],.a [5,55] [],.a [55,61,62] [],.a [55,63] [],.a [55,64] [],.a [55,60,65] [],.a [55,66] []] [0,1,12,13,67] [] (tN 2 (ai (show((0:Int)≤((i1:Nat):Int)∧((i1:Nat):Int)<(p0.length:Int))from⟨by omega,by omega⟩) (tN 4 (ai hc6 (tN 5 (ai (show((0:Int)≤((i1:Nat):Int)∧((i1:Nat):Int)<(p0.length:Int))from⟨by omega,by omega⟩) (tN 4 (ai hc9 (tN 6 (ai (show((0:Int)≤((i1:Nat):Int)∧((i1:Nat):Int)<(p0.length:Int))from⟨by omega,by omega⟩) (tN 4 (ai hc12 (tN 5 (ai (show((0:Int)≤((i1:Nat):Int)∧((i1:Nat):Int)<(p0.length:Int))from⟨by omega,by omega⟩) (tN 4 (ai hc14 (z00 4))))))))))))))))) (.a (.a (.a (.a (.a (.a (.a (.a (.a (.a (.m ?_ (.a (.m ?_ (.a (.a (.a (.a (.a (.a (.a (.a (.a (.a (.m ?_ (.a (.a (.m ?_ (.a (.a (.a (.a (.a (.a (.a (.a (.a (.a (.m ?_ (.a (.m ?_ (.a (.a (.a (.a (.a (.a (.a (.a (.a (.a (.a (.a .z)))))))))))))))))))))))))))))))))))))))))))))))))))) ?_
       ·exact DOk.cA [] [cD (lD 3 z03 ((p0.getD i1 zzd).key)),cD (lD 3 z03 ((p1.getD i1 zzd).key))] (z38 hr7) fun r=>(.cons (.refl _) (.cons (.refl _) .nil))
       ·exact DOk.stepP (fun b=> .val (.c (.d (.bool b))) (True)) (p:=(!r7)) hp8 (fun r=>by kernel_rfl) (fun r=>by kernel_rfl) trivial (by kernel_rfl) (by kernel_rfl) (fun r=>rfl)
       ·exact DOk.cA [] [cD (lD 3 z03 ((p0.getD i1 zzd).row)),cD (lD 3 z03 ((p1.getD i1 zzd).row))] (z38 hr10) fun r=>(.cons (.refl _) (.cons (.refl _) .nil))
       ·exact DOk.stepP (fun b=> .val (.c (.d (.bool b))) (True)) (p:=(!r10)) hp11 (fun r=>by kernel_rfl) (fun r=>by kernel_rfl) trivial (by kernel_rfl) (by kernel_rfl) (fun r=>rfl)
       ·exact DOk.one fun r _=>One.eql (b:=(z36 ((p0.getD i1 zzd).time) ((p1.getD i1 zzd).time))) (d:=9) rfl (by kernel_rfl) rfl (.inr rfl) rfl rfl (by kernel_rfl) rfl (by kernel_rfl)
       ·exact DOk.stepP (fun b=> .val (.c (.d (.bool b))) (True)) (p:=(!(z36 ((p0.getD i1 zzd).time) ((p1.getD i1 zzd).time)))) hp13 (fun r=>by kernel_rfl) (fun r=>by kernel_rfl) trivial (by kernel_rfl) (by kernel_rfl) (fun r=>rfl)
       exact⟨_,h,kr⟩
  ·intro a3 h;refine Tri.sg [4] [] (z00 1) ?_;refine Tri.ret ?_;cases h;exact RetAt.k
  ·exact fun x s hx hr=>by cases hx;exact hr
theorem zc6 {fuel:Nat}{q:Bool}(h:z5n fuel=some q):
 Summ Tryz.prog 11 [] [] (cD (.bool q)) []:=by
 refine Summ.i Tryz.func11 rfl [] fun w0 G0 V LL φ0 rd=>?_;unfold z5n at h;refine Tri.sg [] [] (z00 1) ?_;refine z02 ?_;refine z07 ?_;obtain⟨r1,hr1,h⟩:=z05 h;refine At.cA [] [cD (dI 1)] (z65 hr1) (.cons (.refl _) .nil) ?_;obtain⟨r2,hr2,h⟩:=z05 h;refine At.cA [] [cD (dI 1)] (z65 hr2) (.cons (.refl _) .nil) ?_;refine At.seg 2 [24] [] (s':=⟨[(24,.agg [.d (lD 3 z03 r1),.d (lD 3 z03 r2),.d (dU 1),.d (dU 0),.d (dU 0),.d (dI 2)])],[]⟩) (by kernel_rfl) (z00 2) ?_;refine At.one rfl (One.buildSlice (z:=[.zero,.zero,.d (dU 0),.d (dU 0),.d (dU 0),.d (dI 0)]) (cells:=[.d (lD 3 z03 r1),.d (lD 3 z03 r2),.d (dU 1),.d (dU 0),.d (dU 0),.d (dI 2)]) (xs:=List.map (z01) ([(⟨r1,r2,(⟨1,(0,0)⟩:Time),2⟩:Update)]:List Update)) rfl rfl rfl rfl (by kernel_rfl) rfl rfl (by kernel_rfl) rfl rfl rfl (by kernel_rfl) rfl ⟨⟨rfl,.refl _⟩,trivial⟩) ?_;refine At.l [25] ⟨[(25,cD (lD 6 z01 ([(⟨r1,r2,(⟨1,(0,0)⟩:Time),2⟩:Update)]:List Update))),(24,.agg [.d (lD 3 z03 r1),.d (lD 3 z03 r2),.d (dU 1),.d (dU 0),.d (dU 0),.d (dI 2)])],[]⟩ ⟨⟨_,rfl,.c (.own rfl (zz9.2 rfl) (zz5 rfl) rfl (z22 (z01) ([(⟨r1,r2,(⟨1,(0,0)⟩:Time),2⟩:Update)]:List Update)))⟩,⟨_,rfl,.refl _⟩,trivial⟩ trivial ?_;refine At.sg 1 [1] [] (z00 1) ?_;refine At.done rfl ?_;refine z02 ?_;refine z07 ?_;obtain⟨r3,hr3,h⟩:=z05 h;refine At.cA [] [cD (dI 1)] (z65 hr3) (.cons (.refl _) .nil) ?_;obtain⟨r4,hr4,h⟩:=z05 h;refine At.cA [] [cD (dI 5)] (z65 hr4) (.cons (.refl _) .nil) ?_;refine At.seg 2 [1,29] [] (s':=⟨[(1,cD (lD 6 z01 ([(⟨r1,r2,(⟨1,(0,0)⟩:Time),2⟩:Update)]:List Update))),(29,.agg [.d (lD 3 z03 r3),.d (lD 3 z03 r4),.d (dU 2),.d (dU 0),.d (dU 0),.d (dI 3)])],[]⟩) (by kernel_rfl) (z00 2) ?_;refine At.one rfl (One.buildSlice (z:=[.zero,.zero,.d (dU 0),.d (dU 0),.d (dU 0),.d (dI 0)]) (cells:=[.d (lD 3 z03 r3),.d (lD 3 z03 r4),.d (dU 2),.d (dU 0),.d (dU 0),.d (dI 3)]) (xs:=List.map (z01) ([(⟨r3,r4,(⟨2,(0,0)⟩:Time),3⟩:Update)]:List Update)) rfl rfl rfl rfl (by kernel_rfl) rfl rfl (by kernel_rfl) rfl rfl rfl (by kernel_rfl) rfl ⟨⟨rfl,.refl _⟩,trivial⟩) ?_;refine At.l [30] ⟨[(30,cD (lD 6 z01 ([(⟨r3,r4,(⟨2,(0,0)⟩:Time),3⟩:Update)]:List Update))),(1,cD (lD 6 z01 ([(⟨r1,r2,(⟨1,(0,0)⟩:Time),2⟩:Update)]:List Update))),(29,.agg [.d (lD 3 z03 r3),.d (lD 3 z03 r4),.d (dU 2),.d (dU 0),.d (dU 0),.d (dI 3)])],[]⟩ ⟨⟨_,rfl,.c (.own rfl (zz9.2 rfl) (zz5 rfl) rfl (z22 (z01) ([(⟨r3,r4,(⟨2,(0,0)⟩:Time),3⟩:Update)]:List Update)))⟩,⟨_,rfl,.refl _⟩,⟨_,rfl,.refl _⟩,trivial⟩ trivial ?_;refine At.sg 1 [1,2] [] (z00 1) ?_;refine At.done rfl ?_;refine z02 ?_;refine z07 ?_;refine At.sg 2 [1,2,32,33] [] (z00 2) ?_;obtain⟨r5,hr5,h⟩:=z05 h;refine At.cA [] [cD (lD 6 z01 ([(⟨r1,r2,(⟨1,(0,0)⟩:Time),2⟩:Update)]:List Update)),cD (lD 6 z01 ([(⟨r3,r4,(⟨2,(0,0)⟩:Time),3⟩:Update)]:List Update))] (za7 hr5) (.cons (.refl _) (.cons (.refl _) .nil)) ?_;refine At.sg 8 [1,2,3,5] [] (z00 8) ?_;refine At.done rfl ?_;refine z02 ?_;refine z07 ?_;refine At.sg 3 [2,3,5,39,40,41] [] (z00 3) ?_;obtain⟨r6,hr6,h⟩:=z05 h;refine At.cA [] [.agg [.zero,.zero],.agg [.zero,.zero],cD (dI 0),cD (lD 6 z01 ([(⟨r1,r2,(⟨1,(0,0)⟩:Time),2⟩:Update)]:List Update))] (zaz hr6) (.cons (.agg (.cons (.le (.zero _ _)) (.cons (.le (.zero _ _)) .nil))) (.cons (.agg (.cons (.le (.zero _ _)) (.cons (.le (.zero _ _)) .nil))) (.cons (.refl _) (.cons (.refl _) .nil)))) ?_;refine At.sg 14 [2,3,5,6,7,8,10] [6,7] (z00 14) ?_;refine At.done rfl ?_;refine z02 ?_;refine z07 ?_;refine At.sg 3 [2,3,5,6,7,8,10,49,50,51] [6,7] (z00 3) ?_;obtain⟨r7,hr7,h⟩:=z05 h;refine At.cA [] [.agg (cSpine r6.1),.agg (cSpine r6.2.1),cD (dI 1),cD (lD 6 z01 ([(⟨r3,r4,(⟨2,(0,0)⟩:Time),3⟩:Update)]:List Update))] (zaz hr7) (.cons (.refl _) (.cons (.refl _) (.cons (.refl _) (.cons (.refl _) .nil)))) ?_;refine At.sg 14 [2,3,5,6,7,8,10,13,15] [6,7] (z00 14) ?_;refine At.done rfl ?_;refine z02 ?_;refine z07 ?_;refine At.sg 3 [3,5,8,10,13,15,59,60,61] [] (z00 3) ?_;obtain⟨r8,hr8,h⟩:=z05 h;refine At.cA [] [.agg (cSpine r6.1),.agg (cSpine r6.2.1),cD (dI 2),cD (lD 6 z01 ([(⟨r3,r4,(⟨2,(0,0)⟩:Time),3⟩:Update)]:List Update))] (zaz hr8) (.cons (.refl _) (.cons (.refl _) (.cons (.refl _) (.cons (.refl _) .nil)))) ?_;refine At.sg 14 [3,5,8,10,13,15,20] [] (z00 14) ?_;refine At.done rfl ?_;refine z0k (fun(a9:Bool)=>⟨[(0,cD (.bool a9))],[]⟩) h (fun a9 h=>?_) (fun j10 h=>?_)
 ·refine Tri.ret ?_;cases h;exact RetAt.k
 ·refine z07 ?_;refine At.sg 3 [3,8,10,13,15,20,70] [] (z00 3) ?_;refine At.cs [70] h (fun h=>?_) (fun h=>?_)
  ·refine At.sg 5 [3,8,10,13,15,20,75] [] (z00 5) ?_;refine At.cs [75] h (fun h=>?_) (fun h=>?_)
   ·obtain⟨hc11,h⟩:=z06 h;refine At.sg 7 [3,8,10,13,15,20,82] [] (tN 1 (ai hc11 (z00 5))) ?_;refine At.cs [82] h (fun h=>?_) (fun h=>?_)
    ·obtain⟨hc12,h⟩:=z06 h;refine At.sg 8 [3,8,10,13,15,20,90] [] (tN 1 (ai hc12 (z00 6))) ?_;refine At.cs [90] h (fun h=>?_) (fun h=>?_)
     ·obtain⟨hc13,h⟩:=z06 h;refine At.sg 8 [3,8,10,13,15,20,98] [] (tN 1 (ai hc13 (z00 6))) ?_;refine At.cs [98] h (fun h=>?_) (fun h=>?_)
      ·refine At.sg 4 [3,8,13,15,20,102] [] (z00 4) ?_;refine At.cs [102] h (fun h=>?_) (fun h=>?_)
       ·refine At.sg 5 [3,13,15,20,107] [] (z00 5) ?_;refine At.cs [107] h (fun h=>?_) (fun h=>?_)
        ·refine At.sg 4 [3,13,20,111] [] (z00 4) ?_;refine At.cs [111] h (fun h=>?_) (fun h=>?_)
         ·refine At.sg 2 [20,111,112,113] [] (z00 2) ?_;obtain⟨r14,hr14,h⟩:=z05 h;refine At.cA [] [cD (lD 6 z01 r7.2.2.1),cD (lD 6 z01 r5.1)] (z90 hr14) (.cons (.refl _) (.cons (.refl _) .nil)) ?_;refine At.sg 2 [20,116] [] (z00 2) ?_;refine At.cs [116] h (fun h=>?_) (fun h=>?_)
          ·refine At.sg 4 [0] [] (z00 4) ?_;refine At.done rfl ?_;exact⟨_,h,kr⟩
          ·refine At.sg 4 [0] [] (z00 2) ?_;refine At.done rfl ?_;exact⟨_,h,kr⟩
         ·refine At.sg 9 [0] [] (z00 4) ?_;refine At.done rfl ?_;exact⟨_,h,kr⟩
        ·refine At.sg 13 [0] [] (z00 6) ?_;refine At.done rfl ?_;exact⟨_,h,kr⟩
       ·refine At.sg 18 [0] [] (z00 8) ?_;refine At.done rfl ?_;exact⟨_,h,kr⟩
      ·refine At.sg 22 [0] [] (z00 10) ?_;refine At.done rfl ?_;exact⟨_,h,kr⟩
     ·refine At.sg 30 [0] [] (z00 12) ?_;refine At.done rfl ?_;exact⟨_,h,kr⟩
    ·refine At.sg 38 [0] [] (z00 14) ?_;refine At.done rfl ?_;exact⟨_,h,kr⟩
   ·refine At.sg 45 [0] [] (z00 16) ?_;refine At.done rfl ?_;exact⟨_,h,kr⟩
  ·refine At.sg 50 [0] [] (z00 18) ?_;refine At.done rfl ?_;exact⟨_,h,kr⟩
end Go.Av
namespace Go.Av
open Go Go.Proofs
theorem z8e {fuel:Nat}{p1:List Update}{p2:List Update}{l0:JoinMaker}{q:JoinMaker}(h:z15 fuel p1 p2 l0=some q):
 Summ Tryz.prog 25 [.c (.ptr 5000 0),.c (wC 6 z01 p1),cD (lD 6 z01 p2)] [(5000,.box [.d (.bool l0.maker.fault.is),.d (dU l0.maker.fault.at_.epoch),.d (dU l0.maker.fault.at_.loop.1),.d (dU l0.maker.fault.at_.loop.2),oC 5100 6 l0.maker.list]),(5100,vL 6 z01 l0.maker.list)] (.tup []) [(5150,vL 6 z01 q.maker.list),(5000,.box [.d (.bool q.maker.fault.is),.d (dU q.maker.fault.at_.epoch),.d (dU q.maker.fault.at_.loop.1),.d (dU q.maker.fault.at_.loop.2),oC 5150 6 q.maker.list])]:=by
 refine Summ.i Tryz.func25 rfl [5150] fun w0 G0 V LL φ0 rd=>?_;unfold z15 at h;refine Tri.rename 5100 5150 ⟨[(0,.c (.ptr 5000 0)),(1,.c (wC 6 z01 p1)),(2,cD (lD 6 z01 p2))],[(5000,.box [.d (.bool l0.maker.fault.is),.d (dU l0.maker.fault.at_.epoch),.d (dU l0.maker.fault.at_.loop.1),.d (dU l0.maker.fault.at_.loop.2),oC 5150 6 l0.maker.list]),(5150,vL 6 z01 l0.maker.list)]⟩ (by kernel_rfl) rfl rfl rfl ?_;refine Tri.scope ?_;refine z02 ?_;refine z07 ?_;refine At.sg 1 [0,1,12] [5000,5150] (z00 1) ?_;obtain⟨r1,hr1,h⟩:=z05 h;refine z2k 0 [] [cD (lD 6 z01 p2)] [(6000,30208)] [0,1] [5000,5150] (z1v hr1) (.flat (.refl _) rfl rfl .nil) ?_;refine At.sg 1 [0,1,2] [5000,5150,30208] (z00 1) ?_;refine At.done rfl ?_;refine z02 ?_;refine z07 ?_;refine At.sg 1 [0,1,2,14] [5000,5150,30208] (z00 1) ?_;obtain⟨r2,hr2,h⟩:=z05 h;refine At.callL (nf:=0) (caps:=[]) (xs:=[.c (oC 30208 6 r1),cD (.fn 66 [])]) [(5000,30208)] [0,1,2] [5000,5150] (s0:=⟨[(0,.c (.ptr 5000 0)),(1,.c (wC 6 z01 p1)),(2,.c (oC 30208 6 r1))],[(5000,.box [.d (.bool l0.maker.fault.is),.d (dU l0.maker.fault.at_.epoch),.d (dU l0.maker.fault.at_.loop.1),.d (dU l0.maker.fault.at_.loop.2),oC 5150 6 l0.maker.list]),(5150,vL 6 z01 l0.maker.list)]⟩) (z1e hr2) rfl rfl (by kernel_rfl) rfl (by kernel_rfl) (by kernel_rfl) (.ren rfl rfl (.flat (.refl _) rfl rfl .nil)) ⟨⟨by kernel_rfl,by kernel_rfl⟩,trivial⟩ (by kernel_rfl) (by kernel_rfl) (by kernel_rfl) (by kernel_rfl) (by kernel_rfl) (by kernel_rfl) (by kernel_rfl) (by kernel_rfl) (by kernel_rfl) ⟨[(15,.tup []),(0,.c (.ptr 5000 0)),(1,.c (wC 6 z01 p1)),(2,.c (oC 30208 6 r1))],[(30208,vL 6 z01 r2),(5000,.box [.d (.bool l0.maker.fault.is),.d (dU l0.maker.fault.at_.epoch),.d (dU l0.maker.fault.at_.loop.1),.d (dU l0.maker.fault.at_.loop.2),oC 5150 6 l0.maker.list]),(5150,vL 6 z01 l0.maker.list)]⟩ (by kernel_rfl) ?_;obtain⟨hc3,h⟩:=z06 h;refine At.eqS ⟨[(15,.tup []),(0,.c (.ptr 5000 0)),(1,.c (wC 6 z01 p1)),(2,.c (oC 30208 6 r2))],[(30208,vL 6 z01 r2),(5000,.box [.d (.bool l0.maker.fault.is),.d (dU l0.maker.fault.at_.epoch),.d (dU l0.maker.fault.at_.loop.1),.d (dU l0.maker.fault.at_.loop.2),oC 5150 6 l0.maker.list]),(5150,vL 6 z01 l0.maker.list)]⟩ (by simp only[oC,vL,hc3]) ?_;refine At.done rfl ?_;refine z02 ?_;refine Tri.label ?_;refine Tri.sg [0,2,16,17,18] [5000,5150,30208] (z00 3) ?_;refine Tri.ln 16 p1.length fun hlena5=>?_;refine z1m 18 (l0) (fun(x:Empty) s=>False) (fun(a5:JoinMaker)=>⟨[(0,.c (.ptr 5000 0)),(2,.c (oC 30208 6 r2)),(16,.c (wC 6 z01 p1)),(17,cD (dI (p1.length:Int)))],[(5000,.box [.d (.bool a5.maker.fault.is),.d (dU a5.maker.fault.at_.epoch),.d (dU a5.maker.fault.at_.loop.1),.d (dU a5.maker.fault.at_.loop.2),oC 5150 6 a5.maker.list]),(5150,vL 6 z01 a5.maker.list),(30208,vL 6 z01 r2)]⟩) [18,0,2,16,17] [5000,5150,30208] [19,18,0,2,16,17] [5000,5150,30208] [] [5000,5150] [18,0,2,16,17] [5000,5150,30208] h hlena5 ?_ ?_ ?_
 ·intro i4 a5 c hii4 h;refine Tri.sg [0,2,7,16,17,18] [7,5000,5150,30208] (ai (show((0:Int)≤((i4:Nat):Int)∧((i4:Nat):Int)<(p1.length:Int))from⟨by omega,by omega⟩) (z00 3)) ?_;refine z02 ?_;refine z07 ?_;refine At.seg 3 [0,2,7,16,17,18,23,25] [7,5000,5150,30208] (s':=⟨[(0,.c (.ptr 5000 0)),(2,.c (oC 30208 6 r2)),(7,.c (.ptr 7 0)),(16,.c (wC 6 z01 p1)),(17,cD (dI (p1.length:Int))),(18,cD (dI ((i4:Nat):Int))),(23,.c (oC 30208 6 r2)),(25,cD (lD 3 z03 ((p1.getD i4 zzd).key)))],[(7,.box (cUpdate (p1.getD i4 zzd))),(5000,.box [.d (.bool a5.maker.fault.is),.d (dU a5.maker.fault.at_.epoch),.d (dU a5.maker.fault.at_.loop.1),.d (dU a5.maker.fault.at_.loop.2),oC 5150 6 a5.maker.list]),(5150,vL 6 z01 a5.maker.list),(30208,vL 6 z01 r2)]⟩) (by kernel_rfl) (z00 3) ?_;obtain⟨r7,hr7,h⟩:=z05 h;refine At.cA [] [.c (oC 30208 6 r2),cD (lD 3 z03 ((p1.getD i4 zzd).key)),cD (.fn 69 [])] (z12 hr7) (.cons (AVArg.view (z01) r2 rfl) (.cons (.refl _) (.cons (.refl _) .nil))) ?_;refine At.sg 5 [0,2,7,8,16,17,18] [7,5000,5150,30208] (z00 5) ?_;refine At.done rfl ?_;obtain⟨hc8,h⟩:=z06 h;refine Tri.sg [0,2,7,16,17,18,31,32,33] [7,5000,5150,30208] (tN 2 (ai hc8 (z00 2))) ?_;refine Tri.keep [0,2,7,16,17,18,31,32,33] [7,5000,5150,30208] (s':=⟨[(0,.c (.ptr 5000 0)),(2,.c (oC 30208 6 r2)),(7,.c (.ptr 7 0)),(16,.c (wC 6 z01 p1)),(17,cD (dI (p1.length:Int))),(18,cD (dI ((i4:Nat):Int))),(31,.c (.own 30208 6 (0+r7.1.toNat) ((r2.length:Int).toNat-r7.1.toNat))),(32,cD (dI (((r2.length:Int).toNat-r7.1.toNat:Nat):Int))),(33,cD (dI 0))],[(7,.box (cUpdate (p1.getD i4 zzd))),(5000,.box [.d (.bool a5.maker.fault.is),.d (dU a5.maker.fault.at_.epoch),.d (dU a5.maker.fault.at_.loop.1),.d (dU a5.maker.fault.at_.loop.2),oC 5150 6 a5.maker.list]),(5150,vL 6 z01 a5.maker.list),(30208,vL 6 z01 r2)]⟩) (by kernel_rfl) ?_;refine zft (fuel:=fuel) (st0:=(0,a5)) 1 (fun(x10:Int×JoinMaker) s=>s=⟨[(18,cD (dI ((i4:Nat):Int))),(0,.c (.ptr 5000 0)),(2,.c (oC 30208 6 r2)),(16,.c (wC 6 z01 p1)),(17,cD (dI (p1.length:Int)))],[(5000,.box [.d (.bool x10.2.maker.fault.is),.d (dU x10.2.maker.fault.at_.epoch),.d (dU x10.2.maker.fault.at_.loop.1),.d (dU x10.2.maker.fault.at_.loop.2),oC 5150 6 x10.2.maker.list]),(5150,vL 6 z01 x10.2.maker.list),(30208,vL 6 z01 r2)]⟩) (fun(a9:Int×JoinMaker)=>⟨[(0,.c (.ptr 5000 0)),(2,.c (oC 30208 6 r2)),(7,.c (.ptr 7 0)),(16,.c (wC 6 z01 p1)),(17,cD (dI (p1.length:Int))),(18,cD (dI ((i4:Nat):Int))),(31,.c (.own 30208 6 (0+r7.1.toNat) ((r2.length:Int).toNat-r7.1.toNat))),(32,cD (dI (((r2.length:Int).toNat-r7.1.toNat:Nat):Int))),(33,cD (dI a9.1))],[(7,.box (cUpdate (p1.getD i4 zzd))),(5000,.box [.d (.bool a9.2.maker.fault.is),.d (dU a9.2.maker.fault.at_.epoch),.d (dU a9.2.maker.fault.at_.loop.1),.d (dU a9.2.maker.fault.at_.loop.2),oC 5150 6 a9.2.maker.list]),(5150,vL 6 z01 a9.2.maker.list),(30208,vL 6 z01 r2)]⟩) (fun(a9:Int×JoinMaker)=>⟨[(18,cD (dI ((i4:Nat):Int))),(0,.c (.ptr 5000 0)),(2,.c (oC 30208 6 r2)),(16,.c (wC 6 z01 p1)),(17,cD (dI (p1.length:Int)))],[(5000,.box [.d (.bool a9.2.maker.fault.is),.d (dU a9.2.maker.fault.at_.epoch),.d (dU a9.2.maker.fault.at_.loop.1),.d (dU a9.2.maker.fault.at_.loop.2),oC 5150 6 a9.2.maker.list]),(5150,vL 6 z01 a9.2.maker.list),(30208,vL 6 z01 r2)]⟩) h rfl ?_ ?_ ?_
  ·intro a9 c h;refine Tri.sg [0,2,7,16,17,18,31,32,33,34] [7,5000,5150,30208] (z00 1) ?_;refine z02 ?_;refine z08 h (fun h=>?_) (fun h=>?_)
   ·refine Tri.skip ?_;refine z02 ?_;refine z0s ?_;obtain⟨hc12,h⟩:=z06 h;obtain⟨hc13,h⟩:=z06 h;refine Tri.sg [0,2,7,11,16,17,18,31,32,33] [7,11,5000,5150,30208] (ai hc12 (ai hc13 (z00 2))) ?_;refine z02 ?_;refine z02 ?_;refine z07 ?_;refine At.sg 4 [0,2,7,11,16,17,18,31,32,33,38,40] [7,11,5000,5150,30208] (z00 4) ?_;obtain⟨r14,hr14,h⟩:=z05 h;refine At.cA [] [cD (lD 3 z03 ((p1.getD i4 zzd).key)),cD (lD 3 z03 ((r2.getD ((0+r7.1.toNat)+a9.1.toNat) zzd).key))] (z4h hr14) (.cons (.refl _) (.cons (.refl _) .nil)) ?_;refine At.sg 1 [0,2,7,11,16,17,18,31,32,33,42] [7,11,5000,5150,30208] (z00 1) ?_;refine At.done rfl ?_;refine z08 h (fun h=>?_) (fun h=>?_)
    ·refine Tri.kp [18,0,2,16,17] [5000,5150,30208] ?_;refine Tri.exit ?_;cases h;exact⟨rfl,kr⟩
    ·refine Tri.skip ?_;refine z07 ?_;refine At.sg 3 [0,2,7,16,17,18,31,32,33,43,44,45] [7,5000,5150,30208] (z00 3) ?_;obtain⟨r15,hr15,h⟩:=z05 h;refine z2k 0 [] [.c (.ptr 5000 0),.agg (cUpdate (p1.getD i4 zzd)),.agg (cUpdate (r2.getD ((0+r7.1.toNat)+a9.1.toNat) zzd))] [(5000,5000),(5100,5150),(5150,5150)] [0,2,7,16,17,18,31,32,33] [7,30208] (z6z hr15) (.ren rfl rfl (.flat (.refl _) rfl rfl (.flat (.refl _) rfl rfl .nil))) ?_;refine At.done rfl ?_;refine z07 ?_;refine At.sg 2 [0,2,7,16,17,18,31,32,33] [7,5000,5150,30208] (z00 2) ?_;refine At.done rfl ?_;cases h;exact kr
   ·refine Tri.kp [18,0,2,16,17] [5000,5150,30208] ?_;refine Tri.exit ?_;cases h;exact⟨rfl,kr⟩
  ·intro a11 h;cases h;exact kr
  ·intro x10 s h hr;subst hr;cases h;exact⟨rfl,kr⟩
 ·intro a6 h;cases h;exact RetAt.k
 ·exact fun x=>x.elim
theorem zfe {fuel:Nat}{p0:List Update}{p1:List Update}{q:(List Update)×Time×Int}(h:z5j fuel p0 p1=some q):
 Summ Tryz.prog 9 [.c (wC 6 z01 p0),cD (lD 6 z01 p1)] [] (.tup [(false,[.d (lD 6 z01 q.1)]),(true,[.d (dU q.2.1.epoch),.d (dU q.2.1.loop.1),.d (dU q.2.1.loop.2)]),(false,[.d (dI q.2.2)])]) []:=by
 refine Summ.i Tryz.func9 rfl [] fun w0 G0 V LL φ0 rd=>?_;unfold z5j at h;refine Tri.sg [0,1,5] [5] (z00 3) ?_;refine z02 ?_;refine z02 ?_;refine z07 ?_;refine At.sg 1 [0,1,5,9] [5] (z00 1) ?_;obtain⟨r1,hr1,h⟩:=z05 h;refine At.cA [] [.c (wC 6 z01 p0)] (zau hr1) (.cons (.refl _) .nil) ?_;refine At.seg 1 [0,1,5,10,11] [5] (s':=⟨[(0,.c (wC 6 z01 p0)),(1,cD (lD 6 z01 p1)),(5,.c (.ptr 5 0)),(10,cD (dI r1)),(11,cD (lD 6 z01 p1))],[(5,.box [.d (dU 0),.d (dU 0),.d (dU 0)])]⟩) (by kernel_rfl) (z00 1) ?_;obtain⟨r2,hr2,h⟩:=z05 h;refine At.cA [] [cD (lD 6 z01 p1)] (z69 hr2) (.cons (.refl _) .nil) ?_;refine At.one rfl (One.buildSlice (z:=[.d (dI 0)]) (cells:=[.d (dI r1),.d (dI r2)]) (xs:=List.map (z13 .i64) ([r1,r2]:List Int)) rfl rfl rfl rfl (by kernel_rfl) rfl rfl (by kernel_rfl) rfl rfl rfl (by kernel_rfl) rfl ⟨⟨rfl,.refl _⟩,⟨rfl,.refl _⟩,trivial⟩) ?_;refine At.l [13] ⟨[(13,cD (lD 1 (z13 .i64) ([r1,r2]:List Int))),(0,.c (wC 6 z01 p0)),(1,cD (lD 6 z01 p1)),(5,.c (.ptr 5 0)),(10,cD (dI r1)),(12,cD (dI r2))],[(5,.box [.d (dU 0),.d (dU 0),.d (dU 0)])]⟩ ⟨⟨_,rfl,.c (.own rfl (zz9.2 rfl) (zz5 rfl) rfl (z22 (z13 .i64) ([r1,r2]:List Int)))⟩,⟨_,rfl,.refl _⟩,⟨_,rfl,.refl _⟩,⟨_,rfl,.refl _⟩,⟨_,rfl,.refl _⟩,⟨_,rfl,.refl _⟩,trivial⟩ ⟨⟨_,rfl,.refl _,(by simp)⟩,trivial⟩ ?_;obtain⟨r3,hr3,h⟩:=z05 h;refine At.cA [] [cD (lD 1 (z13 .i64) ([r1,r2]:List Int))] (z5t hr3) (.cons (.refl _) .nil) ?_;refine At.sg 1 [0,1,5,7] [5] (z00 1) ?_;refine At.done rfl ?_;refine Tri.sg [0,1,5,7,16] [5] (z00 2) ?_;refine z08 h (fun h=>?_) (fun h=>?_)
 ·refine Tri.sg [4,5,6] [5] (z00 5) ?_;refine Tri.keep [4,5,6] [5] (s':=⟨[(4,.c (.zero)),(5,.c (.ptr 5 0)),(6,cD (dI r3))],[(5,.box [.d (dU 0),.d (dU 0),.d (dU 0)])]⟩) (by kernel_rfl) ?_;refine Tri.l [] ⟨[(4,cD (lD 6 z01 ([]:List Update))),(5,.c (.ptr 5 0)),(6,cD (dI r3))],[(5,.box [.d (dU 0),.d (dU 0),.d (dU 0)])]⟩ ⟨⟨_,rfl,.c (.zero _ _)⟩,⟨_,rfl,.refl _⟩,⟨_,rfl,.refl _⟩,trivial⟩ ⟨⟨_,rfl,.refl _,(by simp)⟩,trivial⟩ ?_;refine Tri.ret ?_;cases h;exact RetAt.k
 ·refine Tri.skip ?_;refine Tri.sg [0,1,5,8] [5,20] (z00 3) ?_;refine z02 ?_;refine z07 ?_;refine At.seg 3 [5,8,21,22,23] [5,20] (s':=⟨[(5,.c (.ptr 5 0)),(8,.c (.ptr 20 0)),(21,.c (.ptr 20 0)),(22,.c (wC 6 z01 p0)),(23,cD (lD 6 z01 p1))],[(5,.box [.d (dU 0),.d (dU 0),.d (dU 0)]),(20,.box [.d (.bool false),.d (dU 0),.d (dU 0),.d (dU 0),.zero])]⟩) (by kernel_rfl) (z00 3) ?_;obtain⟨r4,hr4,h⟩:=z05 h;refine At.newOwnB (j:=20) (i:=4) (k:=20324) (es:=6) (fun i=>z01 (([]:List Update).getD i zzd)) rfl rfl rfl rfl ?_;refine z2k 0 [] [.c (.ptr 20 0),.c (wC 6 z01 p0),cD (lD 6 z01 p1)] [(5000,20),(5100,20324),(5150,20324)] [5,8] [5] (z8e hr4) (.ren rfl rfl (.flat (.refl _) rfl rfl (.flat (.refl _) rfl rfl .nil))) ?_;refine At.done rfl ?_;refine z02 ?_;refine z07 ?_;refine At.seg 3 [5,27] [5,20,20324] (s':=⟨[(5,.c (.ptr 5 0)),(27,.c (.ptr 20 0))],[(5,.box [.d (dU 0),.d (dU 0),.d (dU 0)]),(20,.box [.d (.bool r4.maker.fault.is),.d (dU r4.maker.fault.at_.epoch),.d (dU r4.maker.fault.at_.loop.1),.d (dU r4.maker.fault.at_.loop.2),oC 20324 6 r4.maker.list]),(20324,vL 6 z01 r4.maker.list)]⟩) (by kernel_rfl) (z00 3) ?_;obtain⟨r5,hr5,h⟩:=z05 h;refine At.l [20324] ⟨[(5,.c (.ptr 5 0)),(27,.c (.ptr 20 0))],[(5,.box [.d (dU 0),.d (dU 0),.d (dU 0)]),(20,.box (cJoinMaker r4))]⟩ ⟨⟨_,rfl,.refl _⟩,⟨_,rfl,.refl _⟩,trivial⟩ ⟨⟨_,rfl,.refl _,(by simp)⟩,⟨_,rfl,.box (.cons (.refl _) (.cons (.refl _) (.cons (.refl _) (.cons (.refl _) (.cons (CLe.frozen (z01) r4.maker.list rfl (by simp)) .nil))))),(by simp)⟩,trivial⟩ ?_;refine z2k 0 [] [.c (.ptr 20 0)] [(5000,20)] [5] [5] (z3e hr5) (.ren rfl rfl .nil) ?_;refine At.sg 6 [4,5,6] [5] (z00 6) ?_;refine At.done rfl ?_;refine Tri.ret ?_;cases h;exact RetAt.k
theorem zab {fuel:Nat}{p0:List Update}{p1:List Update}{p2:List Update}{q:Bool}(h:z4c fuel p0 p1 p2=some q):
 Summ Tryz.prog 6 [cD (lD 6 z01 p0),cD (lD 6 z01 p1),cD (lD 6 z01 p2)] [] (cD (.bool q)) []:=by
 refine Summ.i Tryz.func6 rfl [] fun w0 G0 V LL φ0 rd=>?_;unfold z4c at h;refine Tri.sg [0,1,2] [] (z00 1) ?_;refine z02 ?_;refine z02 ?_;refine z07 ?_;obtain⟨r1,hr1,h⟩:=z05 h;refine At.cA [] [] (zc6 hr1) .nil ?_;refine At.sg 1 [0,1,2,19] [] (z00 1) ?_;refine At.done rfl ?_;refine z08 h (fun h=>?_) (fun h=>?_)
 ·refine Tri.sg [6] [] (z00 1) ?_;refine Tri.ret ?_;cases h;exact RetAt.k
 ·refine Tri.skip ?_;refine z02 ?_;refine z07 ?_;refine At.sg 2 [0,1,2,21,22] [] (z00 2) ?_;obtain⟨r2,hr2,h⟩:=z05 h;refine At.cA [] [cD (lD 6 z01 p0),cD (lD 6 z01 p2)] (za7 hr2) (.cons (.refl _) (.cons (.refl _) .nil)) ?_;refine At.sg 8 [0,1,2,7,9] [] (z00 8) ?_;refine At.done rfl ?_;refine z02 ?_;refine z07 ?_;refine At.sg 2 [0,1,2,7,9,28,29] [] (z00 2) ?_;obtain⟨r3,hr3,h⟩:=z05 h;refine At.cA [] [cD (lD 6 z01 p1),cD (lD 6 z01 p2)] (za7 hr3) (.cons (.refl _) (.cons (.refl _) .nil)) ?_;refine At.seg 8 [0,1,2,7,9,10,12] [] (s':=⟨[(0,cD (lD 6 z01 p0)),(1,cD (lD 6 z01 p1)),(2,cD (lD 6 z01 p2)),(7,cD (lD 6 z01 r2.1)),(9,cD (dI r2.2.2)),(10,cD (lD 6 z01 r3.1)),(12,cD (dI r3.2.2))],[]⟩) (by kernel_rfl) (z00 8) ?_;refine At.done rfl ?_;refine z02 ?_;refine z07 ?_;refine At.one rfl (z7t (e:=53) (es:=6) rfl rfl rfl rfl (by kernel_rfl) rfl) ?_;refine At.seg 1 [1,2,7,9,10,12,35,36] [] (s':=⟨[(1,cD (lD 6 z01 p1)),(2,cD (lD 6 z01 p2)),(7,cD (lD 6 z01 r2.1)),(9,cD (dI r2.2.2)),(10,cD (lD 6 z01 r3.1)),(12,cD (dI r3.2.2)),(35,.c (.zero)),(36,cD (lD 6 z01 p0))],[]⟩) (by kernel_rfl) (z00 1) ?_;obtain⟨hc4,h⟩:=z06 h;refine At.one rfl (z7e (e:=53) (es:=6) (m:=p0.length) (get:=fun i=>z01 (p0.getD i zzd)) rfl rfl rfl rfl (by kernel_rfl) (.of 53 80 [.zero,.zero,.d (dU 0),.d (dU 0),.d (dU 0),.d (dI 0)] (by kernel_rfl) (by kernel_rfl) (by kernel_rfl) (by kernel_rfl) rfl (by kernel_rfl) rfl) rfl rfl (.list rfl (fun _ _=>rfl)) hc4) ?_;refine At.seg 1 [2,7,9,10,12,37,38] [37] (s':=⟨[(2,cD (lD 6 z01 p2)),(7,cD (lD 6 z01 r2.1)),(9,cD (dI r2.2.2)),(10,cD (lD 6 z01 r3.1)),(12,cD (dI r3.2.2)),(37,.c (oC 37 6 p0)),(38,cD (lD 6 z01 p1))],[(37,vL 6 z01 p0)]⟩) (by kernel_rfl) (z00 1) ?_;obtain⟨hc5,h⟩:=z06 h;refine At.one rfl (z3f (e:=53) (es:=6) (z01) p0 p1 rfl rfl rfl rfl rfl (.of 53 80 [.zero,.zero,.d (dU 0),.d (dU 0),.d (dU 0),.d (dI 0)] (by kernel_rfl) (by kernel_rfl) (by kernel_rfl) (by kernel_rfl) rfl (by kernel_rfl) rfl) rfl rfl rfl (.list rfl (fun _ _=>rfl)) hc5) ?_;refine At.seg 1 [7,9,10,12,39,40] [37] (s':=⟨[(7,cD (lD 6 z01 r2.1)),(9,cD (dI r2.2.2)),(10,cD (lD 6 z01 r3.1)),(12,cD (dI r3.2.2)),(39,.c (oC 37 6 (p0++p1))),(40,cD (lD 6 z01 p2))],[(37,vL 6 z01 (p0++p1))]⟩) (by kernel_rfl) (z00 1) ?_;obtain⟨r6,hr6,h⟩:=z05 h;refine At.cA [] [.c (oC 37 6 (p0++p1)),cD (lD 6 z01 p2)] (zfe hr6) (.cons (AVArg.view (z01) (p0++p1) rfl) (.cons (.refl _) .nil)) ?_;refine At.sg 8 [7,9,10,12,13,15] [] (z00 8) ?_;refine At.done rfl ?_;refine z02 ?_;refine z0k (fun(a7:Bool)=>⟨[(7,cD (lD 6 z01 r2.1)),(10,cD (lD 6 z01 r3.1)),(13,cD (lD 6 z01 r6.1)),(54,cD (.bool a7))],[]⟩) h (fun a7 h=>?_) (fun j8 h=>?_)
  ·refine z08 h (fun h=>?_) (fun h=>?_)
   ·refine Tri.sg [6] [] (z00 1) ?_;refine Tri.ret ?_;cases h;exact RetAt.k
   ·refine Tri.skip ?_;refine z02 ?_;refine z07 ?_;refine At.seg 2 [13,56,57] [] (s':=⟨[(13,cD (lD 6 z01 r6.1)),(56,cD (lD 6 z01 r2.1)),(57,cD (lD 6 z01 r3.1))],[]⟩) (by kernel_rfl) (z00 2) ?_;refine At.one rfl (One.buildSlice (z:=[.zero]) (cells:=[.d (lD 6 z01 r2.1),.d (lD 6 z01 r3.1)]) (xs:=List.map ((fun xs=>[encL 6 z01 xs])) ([r2.1,r3.1]:List (List Update))) rfl rfl rfl rfl (by kernel_rfl) rfl rfl (by kernel_rfl) rfl rfl rfl (by kernel_rfl) rfl ⟨⟨rfl,.refl _⟩,⟨rfl,.refl _⟩,trivial⟩) ?_;refine At.l [58] ⟨[(58,cD (lD 1 (fun xs=>[encL 6 z01 xs]) ([r2.1,r3.1]:List (List Update)))),(13,cD (lD 6 z01 r6.1)),(56,cD (lD 6 z01 r2.1)),(57,cD (lD 6 z01 r3.1))],[]⟩ ⟨⟨_,rfl,.c (.own rfl (zz9.2 rfl) (zz5 rfl) rfl (z22 ((fun xs=>[encL 6 z01 xs])) ([r2.1,r3.1]:List (List Update))))⟩,⟨_,rfl,.refl _⟩,⟨_,rfl,.refl _⟩,⟨_,rfl,.refl _⟩,trivial⟩ trivial ?_;obtain⟨r9,hr9,h⟩:=z05 h;refine At.cA [] [cD (lD 1 (fun xs=>[encL 6 z01 xs]) ([r2.1,r3.1]:List (List Update)))] (z5b hr9) (.cons (.refl _) .nil) ?_;refine At.sg 5 [13,16,17] [] (z00 5) ?_;refine At.done rfl ?_;refine z0k (fun(a10:Bool)=>⟨[(6,cD (.bool a10))],[]⟩) h (fun a10 h=>?_) (fun j11 h=>?_)
    ·refine Tri.ret ?_;cases h;exact RetAt.k
    ·refine z07 ?_;refine At.sg 3 [13,16,64] [] (z00 3) ?_;refine At.cs [64] h (fun h=>?_) (fun h=>?_)
     ·refine At.sg 2 [64,65,66] [] (z00 2) ?_;obtain⟨r12,hr12,h⟩:=z05 h;refine At.cA [] [cD (lD 6 z01 r9.1),cD (lD 6 z01 r6.1)] (z90 hr12) (.cons (.refl _) (.cons (.refl _) .nil)) ?_;refine At.sg 2 [6] [] (z00 2) ?_;refine At.done rfl ?_;exact⟨_,h,kr⟩
     ·refine At.sg 5 [6] [] (z00 2) ?_;refine At.done rfl ?_;exact⟨_,h,kr⟩
  ·refine z07 ?_;refine At.sg 3 [7,10,12,13,15,47] [] (z00 3) ?_;refine At.cs [47] h (fun h=>?_) (fun h=>?_)
   ·refine At.sg 7 [7,10,13,54] [] (z00 3) ?_;refine At.done rfl ?_;exact⟨_,h,kr⟩
   ·refine At.sg 4 [7,10,13,15,51] [] (z00 4) ?_;refine At.cs [51] h (fun h=>?_) (fun h=>?_)
    ·refine At.sg 3 [7,10,13,54] [] (z00 1) ?_;refine At.done rfl ?_;exact⟨_,h,kr⟩
    ·refine At.sg 3 [7,10,13,54] [] (z00 3) ?_;refine At.done rfl ?_;exact⟨_,h,kr⟩
end Go.Av
namespace Go.Av
open Go Go.Proofs
def zgb (x:Time):Prop:=(okInt .u64) x.epoch∧(fun p=>(okInt .u64) p.1∧(okInt .u64) p.2) x.loop∧True
def zfd (x:Time):Nat:=((fun _=>1) x.epoch+((fun p=>(fun _=>1) p.1+(fun _=>1) p.2+1) x.loop+0))+1
def zcb (x:Value):Prop:=(fun _=>True) x.isText∧(okInt .i64) x.n∧(fun s=>s.size≤maxN) x.s∧True
def z9s (x:Value):Nat:=((fun _=>1) x.isText+((fun _=>1) x.n+((fun s=>s.size+1) x.s+0)))+1
def zb7 (x:Update):Prop:=(fun xs=>xs.length≤maxN∧ ∀x∈xs,(zcb) x) x.key∧(fun xs=>xs.length≤maxN∧ ∀x∈xs,(zcb) x) x.row∧(zgb) x.time∧(okInt .i64) x.diff∧True
def z5h (x:Update):Nat:=((fun xs=>(xs.map (z9s)).sum+1) x.key+((fun xs=>(xs.map (z9s)).sum+1) x.row+((zfd) x.time+((fun _=>1) x.diff+0))))+1
def okWide (x:Wide):Prop:=(okInt .i64) x.high∧(okInt .u64) x.low∧True
theorem zm2 {H:Type}{enc:TypeId×Go.Value→H}{W:World}{Z:TypeId→DataW H→Prop}{B:DataW H→Nat}(hZ:Fine Tryz.prog Z)(hB:BulkOk B):Reads enc Tryz.prog W Z B 26 z04 zgb zfd:=fun n=>by
 have h:=z1j.struct (n:=n) (enc:=enc) (W:=W) (tot:=3) hZ hB Tryz.underlying26 (by kernel_rfl) (fun m _=>(z59.cons (k:=1) (z1j.int hB Tryz.underlying23) rfl (by kernel_rfl) (z59.cons (k:=2) (zih hZ hB Tryz.underlying24 (k:=1) (by kernel_rfl) (by kernel_rfl) (fun m _=>(z1j.int hB Tryz.underlying23))) rfl (by kernel_rfl) (z59.nil (off:=3)))));exact h.map (fun(p:Int×(Int×Int)×Unit)=>(⟨p.1,p.2.1⟩:Time)) (fun _ _=>rfl) (fun _ h=>h) (fun _ _=>zzc _)
theorem zgj {H:Type}{enc:TypeId×Go.Value→H}{W:World}{Z:TypeId→DataW H→Prop}{B:DataW H→Nat}(hZ:Fine Tryz.prog Z)(hB:BulkOk B):Reads enc Tryz.prog W Z B 135 z03 zcb z9s:=fun n=>by
 have h:=z1j.struct (n:=n) (enc:=enc) (W:=W) (tot:=3) hZ hB Tryz.underlying135 (by kernel_rfl) (fun m _=>(z59.cons (k:=1) (z1j.bool hB Tryz.underlying4) rfl (by kernel_rfl) (z59.cons (k:=1) (z1j.int hB Tryz.underlying2) rfl (by kernel_rfl) (z59.cons (k:=1) (z1j.string hZ hB Tryz.underlying9) rfl (by kernel_rfl) (z59.nil (off:=3))))));exact h.map (fun(p:Bool×Int×ByteArray×Unit)=>(⟨p.1,p.2.1,p.2.2.1⟩:Value)) (fun _ _=>rfl) (fun _ h=>h) (fun _ _=>zzc _)
theorem zbt {H:Type}{enc:TypeId×Go.Value→H}{W:World}{Z:TypeId→DataW H→Prop}{B:DataW H→Nat}(hZ:Fine Tryz.prog Z)(hB:BulkOk B):Reads enc Tryz.prog W Z B 53 z01 zb7 z5h:=fun n=>by
 have h:=z1j.struct (n:=n) (enc:=enc) (W:=W) (tot:=6) hZ hB Tryz.underlying53 (by kernel_rfl) (fun m _=>(z59.cons (k:=1) (z1j.slice (es:=3) (e:=z03) (ok:=zcb) (bulk:=z9s) hZ hB Tryz.underlying51 (by kernel_rfl) (by kernel_rfl) rfl (fun _ _=>rfl) (fun m _=>(zgj hZ hB m))) rfl (by kernel_rfl) (z59.cons (k:=1) (z1j.slice (es:=3) (e:=z03) (ok:=zcb) (bulk:=z9s) hZ hB Tryz.underlying51 (by kernel_rfl) (by kernel_rfl) rfl (fun _ _=>rfl) (fun m _=>(zgj hZ hB m))) rfl (by kernel_rfl) (z59.cons (k:=3) (zm2 hZ hB m) rfl (by kernel_rfl) (z59.cons (k:=1) (z1j.int hB Tryz.underlying2) rfl (by kernel_rfl) (z59.nil (off:=6)))))));exact h.map (fun(p:(List Value)×(List Value)×Time×Int×Unit)=>(⟨p.1,p.2.1,p.2.2.1,p.2.2.2.1⟩:Update)) (fun _ _=>rfl) (fun _ h=>h) (fun _ _=>zzc _)
end Go.Av
namespace Go.Av
open Go
section
variable {α:Type} {c:α→α→Int}
def sm (c:α→α→Int):List (α×Int)→α→Int
 |[],_=>0
 |p::l,y=>(if c y p.1=0 then p.2 else 0)+sm c l y
theorem z6o (l l':List (α×Int))(y:α):sm c (l++l') y=sm c l y+sm c l' y:=by
 induction l with
 |nil=>simp[sm]
 |cons p l ih=>simp only[List.cons_append,sm,ih];omega
theorem zkk {l l':List (α×Int)}(h:l.Perm l')(y:α):sm c l y=sm c l' y:=by
 induction h with
 |nil=>rfl
 |cons p _ ih=>simp only[sm,ih]
 |swap p q l=>simp only[sm];omega
 |trans _ _ h1 h2=>exact h1.trans h2
theorem z53 (hC:IsCmp c){y z:α}(h:c y z=0): ∀l:List (α×Int),sm c l y=sm c l z
 |[]=>rfl
 |p::l=>by simp only[sm,z53 hC h l,hC.eqL p.1 h]
theorem z8l {y:α}: ∀{l:List (α×Int)},(∀p∈l,c y p.1≠0)→sm c l y=0
 |[],_=>rfl
 |p::l,h=>by simp only[sm,if_neg (h p (zz4 ..)),z8l fun q hq=>h q (zz7 _ hq)];omega
theorem zcf {y:α}{l:List (α×Int)}(h:sm c l y≠0): ∃p∈l,c y p.1=0:=by
 apply Classical.byContradiction;intro hn;exact h (z8l fun p hp e=>hn ⟨p,hp,e⟩)
structure SS (c:α→α→Int) (l S:List (α×Int)):Prop where
 strict:S.Pairwise fun a b=>c a.1 b.1<0
 sum: ∀p∈S,p.2=sm c l p.1
 mem: ∀p∈S,∃y∈l,y.1=p.1
 all: ∀y∈l,∃p∈S,c p.1 y.1=0
theorem zop:SS c [] []:=⟨List.Pairwise.nil,fun p h=>(by cases h),fun p h=>(by cases h),fun p h=>(by cases h)⟩
theorem zm7 (x y:α)(n:Int):sm c [(x,n)] y=if c y x=0 then n else 0:=by simp[sm]
theorem zm8 (hC:IsCmp c){l A B:List (α×Int)}{x:α}{n:Int}(h:SS c l (A++B))(hA: ∀p∈A,c p.1 x<0)(hB: ∀p∈B,c x p.1<0):SS c (l++[(x,n)]) (A++(x,n)::B):=by
 have hne: ∀p∈A++B,c p.1 x≠0:=fun p hp=>by
  rcases zz2.1 hp with hp|hp
  ·have:=hA p hp;omega
  ·have:=hB p hp;have:=hC.anti x p.1;omega
 have hs:=h.strict;rw[List.pairwise_append]at hs;refine⟨?_,?_,?_,?_⟩
 ·rw[List.pairwise_append];refine⟨hs.1,List.pairwise_cons.2 ⟨hB,hs.2.1⟩,fun a ha b hb=>?_⟩;rcases zze.1 hb with rfl|hb
  ·exact hA a ha
  ·exact hs.2.2 a ha b hb
 ·intro p hp;rw[z6o,zm7];have hp':p=(x,n)∨p∈A++B:=by
   rcases zz2.1 hp with hp|hp
   ·exact .inr (zz2.2 (.inl hp))
   ·rcases zze.1 hp with hp|hp
    ·exact .inl hp
    ·exact .inr (zz2.2 (.inr hp))
  rcases hp' with rfl|hp'
  ·simp only[hC.refl];rw[z8l fun q hq e=>?_]
   ·simp
   ·obtain⟨p,hp,e2⟩:=h.all q hq;exact hne p hp (by rw[hC.eqL x e2];exact hC.symm0 e)
  ·rw[if_neg (hne p hp'),←h.sum p hp'];omega
 ·intro p hp;rcases zz2.1 hp with hp|hp
  ·obtain⟨y,h1,h2⟩:=h.mem p (zz2.2 (.inl hp));exact⟨y,zz2.2 (.inl h1),h2⟩
  ·rcases zze.1 hp with rfl|hp
   ·exact⟨(x,n),zz2.2 (.inr (zz9.2 rfl)),rfl⟩
   ·obtain⟨y,h1,h2⟩:=h.mem p (zz2.2 (.inr hp));exact⟨y,zz2.2 (.inl h1),h2⟩
 ·intro y hy;rcases zz2.1 hy with hy|hy
  ·obtain⟨p,h1,h2⟩:=h.all y hy;refine⟨p,?_,h2⟩;rcases zz2.1 h1 with h1|h1
   ·exact zz2.2 (.inl h1)
   ·exact zz2.2 (.inr (zz7 _ h1))
  ·rw[zz9.1 hy];exact⟨(x,n),zz2.2 (.inr (zz4 ..)),hC.refl x⟩
theorem zoo (hC:IsCmp c){l A B:List (α×Int)}{x:α}{p:α×Int}{n:Int}(h:SS c l (A++p::B))(hp:c p.1 x=0):SS c (l++[(x,n)]) (A++(p.1,p.2+n)::B):=by
 have hs:=h.strict;rw[List.pairwise_append,List.pairwise_cons]at hs;have hx:=hC.symm0 hp
 have hA: ∀q∈A,c q.1 x≠0:=fun q hq e=>by
  have:=hs.2.2 q hq p (zz4 ..);rw[hC.eqR q.1 hp]at this;omega
 have hB: ∀q∈B,c q.1 x≠0:=fun q hq e=>by
  have:=hs.2.1.1 q hq;rw[hC.eqL q.1 hp,hC.symm0 e]at this;omega
 refine⟨?_,?_,?_,?_⟩
 ·rw[List.pairwise_append,List.pairwise_cons];refine⟨hs.1,⟨hs.2.1.1,hs.2.1.2⟩,fun a ha b hb=>?_⟩;rcases zze.1 hb with rfl|hb
  ·exact hs.2.2 a ha p (zz4 ..)
  ·exact hs.2.2 a ha b (zz7 _ hb)
 ·intro q hq;rw[z6o,zm7];rcases zz2.1 hq with hq|hq
  ·rw[if_neg (hA q hq),h.sum q (zz2.2 (.inl hq))];omega
  ·rcases zze.1 hq with rfl|hq
   ·simp only;rw[if_pos hp,h.sum p (zz2.2 (.inr (zz4 ..)))]
   ·rw[if_neg (hB q hq),h.sum q (zz2.2 (.inr (zz7 _ hq)))];omega
 ·intro q hq;have: ∃q'∈A++p::B,q'.1=q.1:=by
   rcases zz2.1 hq with hq|hq
   ·exact⟨q,zz2.2 (.inl hq),rfl⟩
   ·rcases zze.1 hq with rfl|hq
    ·exact⟨p,zz2.2 (.inr (zz4 ..)),rfl⟩
    ·exact⟨q,zz2.2 (.inr (zz7 _ hq)),rfl⟩
  obtain⟨q',h1,h2⟩:=this;obtain⟨y,h3,h4⟩:=h.mem q' h1;exact⟨y,zz2.2 (.inl h3),h4.trans h2⟩
 ·intro y hy;rcases zz2.1 hy with hy|hy
  ·obtain⟨q,h1,h2⟩:=h.all y hy;rcases zz2.1 h1 with h1|h1
   ·exact⟨q,zz2.2 (.inl h1),h2⟩
   ·rcases zze.1 h1 with rfl|h1
    ·exact⟨(q.1,q.2+n),zz2.2 (.inr (zz4 ..)),h2⟩
    ·exact⟨q,zz2.2 (.inr (zz7 _ h1)),h2⟩
  ·rw[zz9.1 hy];exact⟨(p.1,p.2+n),zz2.2 (.inr (zz4 ..)),hp⟩
def Fits (c:α→α→Int)(l:List (α×Int)):Prop:= ∀y,in64 (sm c l y)
theorem zkl (hC:IsCmp c){l S:List (α×Int)}(h:SS c l S):Fits c l↔ ∀p∈S,in64 p.2:=by
 constructor
 ·intro hf p hp;rw[h.sum p hp];exact hf p.1
 ·intro hf y;by_cases e:sm c l y=0
  ·rw[e];unfold in64;omega
  ·obtain⟨q,h1,h2⟩:=zcf e;obtain⟨p,h3,h4⟩:=h.all q h1;have e2:c p.1 y=0:=by rw[hC.eqL y h4];exact hC.symm0 h2
   rw[←z53 hC e2,←h.sum p h3];exact hf p h3
structure Res (c:α→α→Int) (num:α→Int) (put:α→Int→α) (l:List (α×Int)) (R:List α):Prop where
 strict:R.Pairwise fun a b=>c a b<0
 sum: ∀r∈R,num r=sm c l r∧num r≠0
 mem: ∀r∈R,∃y∈l,r=put y.1 (num r)
 all: ∀y∈l,sm c l y.1≠0→ ∃r∈R,c r y.1=0
def Tot (c:α→α→Int)(num:α→Int)(put:α→Int→α)(l:List (α×Int))(R:List α)(e:Int):Prop:=(e=0∧Res c num put l R∧Fits c l)∨(e=10∧R=[]∧ ¬Fits c l)
def left0 (put:α→Int→α)(S:List (α×Int)):List α:=(S.filter fun p=> !decide (p.2=0)).map fun p=>put p.1 p.2
theorem zok (hC:IsCmp c){num:α→Int}{put:α→Int→α}(h1: ∀x n,num (put x n)=n)(h2: ∀x n y,c (put x n) y=c x y){l S:List (α×Int)}(h:SS c l S):Res c num put l (left0 put S):=by
 have h3: ∀x n y,c y (put x n)=c y x:=fun x n y=>by have:=hC.anti y (put x n);have:=hC.anti y x;have:=h2 x n y;omega
 unfold left0;refine⟨?_,?_,?_,?_⟩
 ·rw[List.pairwise_map];refine List.Pairwise.imp (fun{a b} hab=>?_) (h.strict.filter _);rw[h2,h3];exact hab
 ·intro r hr;obtain⟨p,hp,rfl⟩:=List.mem_map.1 hr;obtain⟨hp,hz⟩:=List.mem_filter.1 hp;rw[h1];refine⟨?_,by simpa using hz⟩;rw[z53 hC (show c (put p.1 p.2) p.1=0 by rw[h2];exact hC.refl _)];exact h.sum p hp
 ·intro r hr;obtain⟨p,hp,rfl⟩:=List.mem_map.1 hr;obtain⟨hp,hz⟩:=List.mem_filter.1 hp;obtain⟨y,g1,g2⟩:=h.mem p hp;exact⟨y,g1,by rw[h1,g2]⟩
 ·intro y hy hn;obtain⟨p,g1,g2⟩:=h.all y hy;refine⟨put p.1 p.2,List.mem_map.2 ⟨p,List.mem_filter.2 ⟨g1,?_⟩,rfl⟩,by rw[h2];exact g2⟩;have:=h.sum p g1
  rw[z53 hC g2]at this;simp only[Bool.not_eq_eq_eq_not,Bool.not_true,decide_eq_false_iff_not];omega
theorem zgv (hC:IsCmp c): ∀{R R':List α},R.Pairwise (fun a b=>c a b<0)→R'.Pairwise (fun a b=>c a b<0)→(∀x,x∈R↔x∈R')→R=R'
 |[],[],_,_,_=>rfl
 |[],x::_,_,_,h=>by cases (h x).2 (zz4 ..)
 |x::_,[],_,_,h=>by cases (h x).1 (zz4 ..)
 |a::R,b::R',h1,h2,h=>by
  rw[List.pairwise_cons]at h1 h2;have hab:a=b:=by
   rcases zze.1 ((h a).1 (zz4 ..))with e|e
   ·exact e
   ·rcases zze.1 ((h b).2 (zz4 ..))with e2|e2
    ·exact e2.symm
    ·have:=h2.1 a e;have:=h1.1 b e2;have:=hC.anti a b;omega
  subst hab;have ne1:a∉R:=fun g=>by have:=h1.1 a g;rw[hC.refl]at this;omega
  have ne2:a∉R':=fun g=>by have:=h2.1 a g;rw[hC.refl]at this;omega
  rw[zgv hC h1.2 h2.2 fun x=>?_];constructor
  ·intro hx;rcases zze.1 ((h x).1 (zz7 _ hx))with rfl|g
   ·exact absurd hx ne1
   ·exact g
  ·intro hx;rcases zze.1 ((h x).2 (zz7 _ hx))with rfl|g
   ·exact absurd hx ne2
   ·exact g
theorem zl4 (hC:IsCmp c){num:α→Int}{put:α→Int→α}{l l':List (α×Int)}{R R':List α}(h:Res c num put l R)(h':Res c num put l' R')(hs: ∀y,sm c l y=sm c l' y)
 (hV: ∀r∈R,∀r'∈R',c r r'=0→num r=num r'→r=r'):R=R':=by
 refine zgv hC h.strict h'.strict fun x=>⟨fun hx=>?_,fun hx=>?_⟩
 ·obtain⟨e1,e2⟩:=h.sum x hx;rw[hs]at e1;obtain⟨y,hy,e3⟩:=zcf (c:=c) (l:=l') (y:=x) (by omega);obtain⟨r,hr,e4⟩:=h'.all y hy (by rw[←z53 hC e3];omega);have e5:c x r=0:=by rw[hC.eqL r e3];exact hC.symm0 e4
  rw[hV x hx r hr e5 (by rw[(h'.sum r hr).1,←z53 hC e5];exact e1)];exact hr
 ·obtain⟨e1,e2⟩:=h'.sum x hx;rw[←hs]at e1;obtain⟨y,hy,e3⟩:=zcf (c:=c) (l:=l) (y:=x) (by omega);obtain⟨r,hr,e4⟩:=h.all y hy (by rw[←z53 hC e3];omega);have e5:c r x=0:=by rw[hC.eqL x e4];exact hC.symm0 e3
  rw[←hV r hr x hx e5 (by rw[(h.sum r hr).1,z53 hC e5];omega)];exact hr
theorem zl7 (hC:IsCmp c){num:α→Int}{put:α→Int→α}{l l':List (α×Int)}{R R':List α}{e e':Int}(h:Tot c num put l R e)(h':Tot c num put l' R' e')(hs: ∀y,sm c l y=sm c l' y)
 (hV: ∀r∈R,∀r'∈R',c r r'=0→num r=num r'→r=r'):R=R'∧e=e':=by
 have hf:Fits c l↔Fits c l':=by unfold Fits;simp only[hs]
 rcases h with⟨rfl,h1,h2⟩|⟨rfl,rfl,h2⟩
 ·rcases h' with⟨rfl,g1,g2⟩|⟨rfl,rfl,g2⟩
  ·exact⟨zl4 hC h1 g1 hs hV,rfl⟩
  ·exact absurd (hf.1 h2) g2
 ·rcases h' with⟨rfl,g1,g2⟩|⟨rfl,rfl,g2⟩
  ·exact absurd (hf.2 g2) h2
  ·exact⟨rfl,rfl⟩
theorem zol (hC:IsCmp c){num:α→Int}{put:α→Int→α}{l:List (α×Int)}{R:List α}(h:Res c num put l R)(y:α):sm c (R.map fun r=>(r,num r)) y=sm c l y:=by
 by_cases e: ∃r∈R,c y r=0
 ·obtain⟨r,hr,e⟩:=e;rw[z53 hC e,z53 hC e,←(h.sum r hr).1];have hs:=h.strict
  clear h e;induction R with
  |nil=>cases hr
  |cons a R ih=>
   rw[List.pairwise_cons]at hs;simp only[List.map_cons,sm];rcases zze.1 hr with rfl|hr
   ·rw[if_pos (hC.refl _),z8l fun p hp=>?_]
    ·omega
    ·obtain⟨q,hq,rfl⟩:=List.mem_map.1 hp;have:=hs.1 q hq
     simp only;omega
   ·rw[if_neg (by have:=hs.1 r hr;have:=hC.anti r a;omega),ih hr hs.2];omega
 ·rw[z8l fun p hp=>?_]
  ·apply Classical.byContradiction;intro hn;obtain⟨q,h1,h2⟩:=zcf (c:=c) (l:=l) (y:=y) (fun h=>hn h.symm);obtain⟨r,h3,h4⟩:=h.all q h1 (by rw[←z53 hC h2];exact fun h=>hn h.symm);exact e ⟨r,h3,by rw[hC.eqL r h2];exact hC.symm0 h4⟩
  ·obtain⟨q,hq,rfl⟩:=List.mem_map.1 hp;exact fun h=>e ⟨q,hq,h⟩
end
end Go.Av
namespace Go.Av
open Go
section
variable {α:Type} [Inhabited α]
def insG (cmp:α→α→Option Int)(fuel:Nat)(p1:Int)(p2:Int)(l0:List α):Option (List α):=
 outK (loopN (S:=Int×(List α)) (R:=Empty) (fun(a1:Int×(List α))=>bf (decide (a1.1<p2)) (outK (loopN (S:=Int×(List α)) (R:=Empty) (fun(a3:Int×(List α))=>jn (fun(a5:Bool)=>bf a5 (need ((0:Int)≤(zzi.wrap (a3.1-1))∧(zzi.wrap (a3.1-1))<(a3.2.length:Int))<|need ((0+(zzi.wrap (a3.1-1)).toNat)<a3.2.length)<|need ((0:Int)≤a3.1∧a3.1<(a3.2.length:Int))<|need ((0+a3.1.toNat)<a3.2.length)<|need ((0:Int)≤a3.1∧a3.1<(a3.2.length:Int))<|need ((0+a3.1.toNat)<a3.2.length)<|need ((0:Int)≤(zzi.wrap (a3.1-1))∧(zzi.wrap (a3.1-1))<(a3.2.length:Int))<|need ((0+(zzi.wrap (a3.1-1)).toNat)<(a3.2.set (0+a3.1.toNat) (a3.2.getD (0+(zzi.wrap (a3.1-1)).toNat) zzd)).length)<|some (.next ((zzi.wrap (a3.1-1)),((a3.2.set (0+a3.1.toNat) (a3.2.getD (0+(zzi.wrap (a3.1-1)).toNat) zzd)).set (0+(zzi.wrap (a3.1-1)).toNat) (a3.2.getD (0+a3.1.toNat) zzd))))) (some (.brk (a3.1,a3.2)))) fun j6=>bf (decide (p1<a3.1)) (need ((0:Int)≤a3.1∧a3.1<(a3.2.length:Int))<|need ((0+a3.1.toNat)<a3.2.length)<|need ((0:Int)≤(zzi.wrap (a3.1-1))∧(zzi.wrap (a3.1-1))<(a3.2.length:Int))<|need ((0+(zzi.wrap (a3.1-1)).toNat)<a3.2.length)<|(cmp (a3.2.getD (0+a3.1.toNat) zzd) (a3.2.getD (0+(zzi.wrap (a3.1-1)).toNat) zzd)).bind fun r20=>j6 (decide (r20<0))) (j6 false)) fuel (a1.1,a1.2)) (fun(a4:Int×(List α))=>some (.next ((zzi.wrap (a1.1+1)),a4.2))) (fun(x:Empty)=>x.elim)) (some (.brk (a1.1,a1.2)))) fuel ((zzi.wrap (p1+1)),l0)) (fun(a2:Int×(List α))=>some a2.2) (fun(x:Empty)=>x.elim)
def swapG (fuel:Nat)(p1:Int)(p2:Int)(p3:Int)(l0:List α):Option (List α):=
 outK (loopN (S:=Int×(List α)) (R:=Empty) (fun(a1:Int×(List α))=>bf (decide (a1.1<p3)) (need ((0:Int)≤(zzi.wrap (p2+a1.1))∧(zzi.wrap (p2+a1.1))<(a1.2.length:Int))<|need ((0+(zzi.wrap (p2+a1.1)).toNat)<a1.2.length)<|need ((0:Int)≤(zzi.wrap (p1+a1.1))∧(zzi.wrap (p1+a1.1))<(a1.2.length:Int))<|need ((0+(zzi.wrap (p1+a1.1)).toNat)<a1.2.length)<|need ((0:Int)≤(zzi.wrap (p1+a1.1))∧(zzi.wrap (p1+a1.1))<(a1.2.length:Int))<|need ((0+(zzi.wrap (p1+a1.1)).toNat)<a1.2.length)<|need ((0:Int)≤(zzi.wrap (p2+a1.1))∧(zzi.wrap (p2+a1.1))<(a1.2.length:Int))<|need ((0+(zzi.wrap (p2+a1.1)).toNat)<(a1.2.set (0+(zzi.wrap (p1+a1.1)).toNat) (a1.2.getD (0+(zzi.wrap (p2+a1.1)).toNat) zzd)).length)<|some (.next ((zzi.wrap (a1.1+1)),((a1.2.set (0+(zzi.wrap (p1+a1.1)).toNat) (a1.2.getD (0+(zzi.wrap (p2+a1.1)).toNat) zzd)).set (0+(zzi.wrap (p2+a1.1)).toNat) (a1.2.getD (0+(zzi.wrap (p1+a1.1)).toNat) zzd))))) (some (.brk (a1.1,a1.2)))) fuel (0,l0)) (fun(a2:Int×(List α))=>some a2.2) (fun(x:Empty)=>x.elim)
def rotG (fuel:Nat)(p1:Int)(p2:Int)(p3:Int)(l0:List α):Option (List α):=
 outK (loopN (S:=Int×Int×(List α)) (R:=Empty) (fun(a1:Int×Int×(List α))=>bf (!decide (a1.1=a1.2.1)) (bf (decide (a1.2.1<a1.1)) ((swapG fuel (zzi.wrap (p2-a1.1)) p2 a1.2.1 a1.2.2).bind fun r4=>need (r4.length=a1.2.2.length)<|some (.next ((zzi.wrap (a1.1-a1.2.1)),a1.2.1,r4))) ((swapG fuel (zzi.wrap (p2-a1.1)) (zzi.wrap ((zzi.wrap (p2+a1.2.1))-a1.1)) a1.1 a1.2.2).bind fun r6=>need (r6.length=a1.2.2.length)<|some (.next (a1.1,(zzi.wrap (a1.2.1-a1.1)),r6)))) (some (.brk (a1.1,a1.2.1,a1.2.2)))) fuel ((zzi.wrap (p2-p1)),(zzi.wrap (p3-p2)),l0)) (fun(a2:Int×Int×(List α))=>(swapG fuel (zzi.wrap (p2-a2.1)) p2 a2.1 a2.2.2).bind fun r3=>some r3) (fun(x:Empty)=>x.elim)
def symG (cmp:α→α→Option Int):Nat→Int→Int→Int→(List α)→Option (List α)
 |0,_,_,_,_=>none
 |fuel+1,p1,p2,p3,l0=>
 bf (decide ((zzi.wrap (p2-p1))=1)) (outK (loopN (S:=Int×Int) (R:=Empty) (fun(a1:Int×Int)=>bf (decide (a1.1<a1.2)) (need ((0:Int)≤(zzi.wrap (shrOp .u64 (zzu.wrap (zzi.wrap (a1.1+a1.2))) 1))∧(zzi.wrap (shrOp .u64 (zzu.wrap (zzi.wrap (a1.1+a1.2))) 1))<(l0.length:Int))<|need ((0+(zzi.wrap (shrOp .u64 (zzu.wrap (zzi.wrap (a1.1+a1.2))) 1)).toNat)<l0.length)<|need ((0:Int)≤p1∧p1<(l0.length:Int))<|need ((0+p1.toNat)<l0.length)<|(cmp (l0.getD (0+(zzi.wrap (shrOp .u64 (zzu.wrap (zzi.wrap (a1.1+a1.2))) 1)).toNat) zzd) (l0.getD (0+p1.toNat) zzd)).bind fun r17=>bf (decide (r17<0)) (some (.next ((zzi.wrap ((zzi.wrap (shrOp .u64 (zzu.wrap (zzi.wrap (a1.1+a1.2))) 1))+1)),a1.2))) (some (.next (a1.1,(zzi.wrap (shrOp .u64 (zzu.wrap (zzi.wrap (a1.1+a1.2))) 1)))))) (some (.brk (a1.1,a1.2)))) fuel (p2,p3)) (fun(a2:Int×Int)=>outK (loopN (S:=Int×(List α)) (R:=Empty) (fun(a3:Int×(List α))=>bf (decide (a3.1<(zzi.wrap (a2.1-1)))) (need ((0:Int)≤(zzi.wrap (a3.1+1))∧(zzi.wrap (a3.1+1))<(a3.2.length:Int))<|need ((0+(zzi.wrap (a3.1+1)).toNat)<a3.2.length)<|need ((0:Int)≤a3.1∧a3.1<(a3.2.length:Int))<|need ((0+a3.1.toNat)<a3.2.length)<|need ((0:Int)≤a3.1∧a3.1<(a3.2.length:Int))<|need ((0+a3.1.toNat)<a3.2.length)<|need ((0:Int)≤(zzi.wrap (a3.1+1))∧(zzi.wrap (a3.1+1))<(a3.2.length:Int))<|need ((0+(zzi.wrap (a3.1+1)).toNat)<(a3.2.set (0+a3.1.toNat) (a3.2.getD (0+(zzi.wrap (a3.1+1)).toNat) zzd)).length)<|some (.next ((zzi.wrap (a3.1+1)),((a3.2.set (0+a3.1.toNat) (a3.2.getD (0+(zzi.wrap (a3.1+1)).toNat) zzd)).set (0+(zzi.wrap (a3.1+1)).toNat) (a3.2.getD (0+a3.1.toNat) zzd))))) (some (.brk (a3.1,a3.2)))) fuel (p1,l0)) (fun(a4:Int×(List α))=>some a4.2) (fun(x:Empty)=>x.elim)) (fun(x:Empty)=>x.elim)) (bf (decide ((zzi.wrap (p3-p2))=1)) (outK (loopN (S:=Int×Int) (R:=Empty) (fun(a18:Int×Int)=>bf (decide (a18.1<a18.2)) (need ((0:Int)≤p2∧p2<(l0.length:Int))<|need ((0+p2.toNat)<l0.length)<|need ((0:Int)≤(zzi.wrap (shrOp .u64 (zzu.wrap (zzi.wrap (a18.1+a18.2))) 1))∧(zzi.wrap (shrOp .u64 (zzu.wrap (zzi.wrap (a18.1+a18.2))) 1))<(l0.length:Int))<|need ((0+(zzi.wrap (shrOp .u64 (zzu.wrap (zzi.wrap (a18.1+a18.2))) 1)).toNat)<l0.length)<|(cmp (l0.getD (0+p2.toNat) zzd) (l0.getD (0+(zzi.wrap (shrOp .u64 (zzu.wrap (zzi.wrap (a18.1+a18.2))) 1)).toNat) zzd)).bind fun r34=>bf (!(decide (r34<0))) (some (.next ((zzi.wrap ((zzi.wrap (shrOp .u64 (zzu.wrap (zzi.wrap (a18.1+a18.2))) 1))+1)),a18.2))) (some (.next (a18.1,(zzi.wrap (shrOp .u64 (zzu.wrap (zzi.wrap (a18.1+a18.2))) 1)))))) (some (.brk (a18.1,a18.2)))) fuel (p1,p2)) (fun(a19:Int×Int)=>outK (loopN (S:=Int×(List α)) (R:=Empty) (fun(a20:Int×(List α))=>bf (decide (a19.1<a20.1)) (need ((0:Int)≤(zzi.wrap (a20.1-1))∧(zzi.wrap (a20.1-1))<(a20.2.length:Int))<|need ((0+(zzi.wrap (a20.1-1)).toNat)<a20.2.length)<|need ((0:Int)≤a20.1∧a20.1<(a20.2.length:Int))<|need ((0+a20.1.toNat)<a20.2.length)<|need ((0:Int)≤a20.1∧a20.1<(a20.2.length:Int))<|need ((0+a20.1.toNat)<a20.2.length)<|need ((0:Int)≤(zzi.wrap (a20.1-1))∧(zzi.wrap (a20.1-1))<(a20.2.length:Int))<|need ((0+(zzi.wrap (a20.1-1)).toNat)<(a20.2.set (0+a20.1.toNat) (a20.2.getD (0+(zzi.wrap (a20.1-1)).toNat) zzd)).length)<|some (.next ((zzi.wrap (a20.1-1)),((a20.2.set (0+a20.1.toNat) (a20.2.getD (0+(zzi.wrap (a20.1-1)).toNat) zzd)).set (0+(zzi.wrap (a20.1-1)).toNat) (a20.2.getD (0+a20.1.toNat) zzd))))) (some (.brk (a20.1,a20.2)))) fuel (p2,l0)) (fun(a21:Int×(List α))=>some a21.2) (fun(x:Empty)=>x.elim)) (fun(x:Empty)=>x.elim)) (jn (fun(a35:Int×Int×Int×Int)=>outK (loopN (S:=Int×Int) (R:=Empty) (fun(a37:Int×Int)=>bf (decide (a37.1<a37.2)) (need ((0:Int)≤(zzi.wrap ((zzi.wrap (a35.2.1-1))-(zzi.wrap (shrOp .u64 (zzu.wrap (zzi.wrap (a37.1+a37.2))) 1))))∧(zzi.wrap ((zzi.wrap (a35.2.1-1))-(zzi.wrap (shrOp .u64 (zzu.wrap (zzi.wrap (a37.1+a37.2))) 1))))<(l0.length:Int))<|need ((0+(zzi.wrap ((zzi.wrap (a35.2.1-1))-(zzi.wrap (shrOp .u64 (zzu.wrap (zzi.wrap (a37.1+a37.2))) 1)))).toNat)<l0.length)<|need ((0:Int)≤(zzi.wrap (shrOp .u64 (zzu.wrap (zzi.wrap (a37.1+a37.2))) 1))∧(zzi.wrap (shrOp .u64 (zzu.wrap (zzi.wrap (a37.1+a37.2))) 1))<(l0.length:Int))<|need ((0+(zzi.wrap (shrOp .u64 (zzu.wrap (zzi.wrap (a37.1+a37.2))) 1)).toNat)<l0.length)<|(cmp (l0.getD (0+(zzi.wrap ((zzi.wrap (a35.2.1-1))-(zzi.wrap (shrOp .u64 (zzu.wrap (zzi.wrap (a37.1+a37.2))) 1)))).toNat) zzd) (l0.getD (0+(zzi.wrap (shrOp .u64 (zzu.wrap (zzi.wrap (a37.1+a37.2))) 1)).toNat) zzd)).bind fun r58=>bf (!(decide (r58<0))) (some (.next ((zzi.wrap ((zzi.wrap (shrOp .u64 (zzu.wrap (zzi.wrap (a37.1+a37.2))) 1))+1)),a37.2))) (some (.next (a37.1,(zzi.wrap (shrOp .u64 (zzu.wrap (zzi.wrap (a37.1+a37.2))) 1)))))) (some (.brk (a37.1,a37.2)))) fuel (a35.2.2.1,a35.2.2.2)) (fun(a38:Int×Int)=>jn (fun(a39:Int×(List α))=>jn (fun(a41:List α)=>jn (fun(a43:Bool)=>bf a43 ((symG cmp fuel a35.1 a39.1 p3 a41).bind fun r45=>some r45) (some a41)) fun j44=>bf (decide (a35.1<a39.1)) (j44 (decide (a39.1<p3))) (j44 false)) fun j42=>jn (fun(a46:Bool)=>bf a46 ((symG cmp fuel p1 a38.1 a35.1 a39.2).bind fun r48=>need (r48.length=a39.2.length)<|j42 r48) (j42 a39.2)) fun j47=>bf (decide (p1<a38.1)) (j47 (decide (a38.1<a35.1))) (j47 false)) fun j40=>jn (fun(a50:Int×Bool)=>bf a50.2 ((rotG fuel a38.1 p2 a50.1 l0).bind fun r52=>need (r52.length=l0.length)<|j40 (a50.1,r52)) (j40 (a50.1,l0))) fun j51=>bf (decide (a38.1<p2)) (j51 ((zzi.wrap (a35.2.1-a38.1)),(decide (p2<(zzi.wrap (a35.2.1-a38.1)))))) (j51 ((zzi.wrap (a35.2.1-a38.1)),false))) (fun(x:Empty)=>x.elim)) fun j36=>bf (decide ((zzi.wrap (shrOp .u64 (zzu.wrap (zzi.wrap (p1+p3))) 1))<p2)) (j36 ((zzi.wrap (shrOp .u64 (zzu.wrap (zzi.wrap (p1+p3))) 1)),(zzi.wrap ((zzi.wrap (shrOp .u64 (zzu.wrap (zzi.wrap (p1+p3))) 1))+p2)),(zzi.wrap ((zzi.wrap ((zzi.wrap (shrOp .u64 (zzu.wrap (zzi.wrap (p1+p3))) 1))+p2))-p3)),(zzi.wrap (shrOp .u64 (zzu.wrap (zzi.wrap (p1+p3))) 1)))) (j36 ((zzi.wrap (shrOp .u64 (zzu.wrap (zzi.wrap (p1+p3))) 1)),(zzi.wrap ((zzi.wrap (shrOp .u64 (zzu.wrap (zzi.wrap (p1+p3))) 1))+p2)),p1,p2))))
def stabG (cmp:α→α→Option Int)(fuel:Nat)(p1:Int)(l0:List α):Option (List α):=
 outK (loopN (S:=Int×Int×(List α)) (R:=Empty) (fun(a1:Int×Int×(List α))=>bf (decide (a1.2.1≤p1)) ((insG cmp fuel a1.1 a1.2.1 a1.2.2).bind fun r15=>need (r15.length=a1.2.2.length)<|some (.next (a1.2.1,(zzi.wrap (a1.2.1+20)),r15))) (some (.brk (a1.1,a1.2.1,a1.2.2)))) fuel (0,20,l0)) (fun(a2:Int×Int×(List α))=>(insG cmp fuel a2.1 p1 a2.2.2).bind fun r3=>need (r3.length=a2.2.2.length)<|outK (loopN (S:=Int×(List α)) (R:=Empty) (fun(a5:Int×(List α))=>bf (decide (a5.1<p1)) (outK (loopN (S:=Int×Int×(List α)) (R:=Empty) (fun(a7:Int×Int×(List α))=>bf (decide (a7.2.1≤p1)) ((symG cmp fuel a7.1 (zzi.wrap (a7.1+a5.1)) a7.2.1 a7.2.2).bind fun r13=>need (r13.length=a7.2.2.length)<|some (.next (a7.2.1,(zzi.wrap (a7.2.1+(zzi.wrap ((2:Int)*a5.1)))),r13))) (some (.brk (a7.1,a7.2.1,a7.2.2)))) fuel (0,(zzi.wrap ((2:Int)*a5.1)),a5.2)) (fun(a8:Int×Int×(List α))=>jn (fun(a9:List α)=>some (.next ((zzi.wrap (a5.1*2)),a9))) fun j10=>bf (decide ((zzi.wrap (a8.1+a5.1))<p1)) ((symG cmp fuel a8.1 (zzi.wrap (a8.1+a5.1)) p1 a8.2.2).bind fun r11=>need (r11.length=a8.2.2.length)<|j10 r11) (j10 a8.2.2)) (fun(x:Empty)=>x.elim)) (some (.brk (a5.1,a5.2)))) fuel (20,r3)) (fun(a6:Int×(List α))=>some a6.2) (fun(x:Empty)=>x.elim)) (fun(x:Empty)=>x.elim)
end
end Go.Av
namespace Go.Av
open Go
section
variable {α:Type} [Inhabited α]
theorem z7u (d:Array α)(j:Nat):d.toList.getD j zzd=d[j]! :=by
 rw[List.getD_eq_getElem?_getD,Array.getElem?_toList,getElem!_def];cases d[j]?<;>rfl
theorem zep (d:Array α)(i j:Nat):(d.toList.set i d[j]!).set j d[i]! =(Sort.swp d i j).toList:=by
 unfold Sort.swp;rw[Array.toList_setIfInBounds,Array.toList_setIfInBounds]
theorem zci (d:Array α)(i j:Nat):(Sort.swp d i j).size=d.size:=by unfold Sort.swp;simp
theorem wsub1 {j:Nat}(h1:1≤j)(h:j<4611686018427387904):zzi.wrap ((j:Int)-1)=((j-1:Nat):Int):=by
 rw[z3a (by omega) (by omega)];omega
theorem wadd1 {j:Nat}(h:j<4611686018427387904):zzi.wrap ((j:Int)+1)=((j+1:Nat):Int):=by
 rw[z3a (by omega) (by omega)];omega
theorem wsub {i j:Nat}(h1:j≤i)(h:i<4611686018427387904):zzi.wrap ((i:Int)-(j:Int))=((i-j:Nat):Int):=by
 rw[z3a (by omega) (by omega)];omega
theorem wadd {i j:Nat}(h:i+j<4611686018427387904):zzi.wrap ((i:Int)+(j:Int))=((i+j:Nat):Int):=by
 rw[z3a (by omega) (by omega)];omega
theorem wtwo {i:Nat}(h:2*i<4611686018427387904):zzi.wrap ((2:Int)*(i:Int))=((2*i:Nat):Int):=by
 rw[z3a (by omega) (by omega)];omega
theorem intle {i j:Nat}:((i:Int)≤(j:Int))=(i≤j):=propext (by omega)
theorem intlt {i j:Nat}:((i:Int)<(j:Int))=(i<j):=propext (by omega)
theorem z4y {S R:Type}{B:S→Option (Ctl S R)}{fuel:Nat}{s s':S}(h:B s=some (.next s')):loopN B (fuel+1) s=loopN B fuel s':=by rw[loopN,h]
theorem z57 {S R:Type}{B:S→Option (Ctl S R)}{fuel:Nat}{s s':S}(h:B s=some (.brk s')):loopN B (fuel+1) s=some (.done s'):=by rw[loopN,h]
theorem zls {S R:Type}{B:S→Option (Ctl S R)}{fuel:Nat}{s:S}{r:R}(h:B s=some (.ret r)):loopN B (fuel+1) s=some (.ret r):=by rw[loopN,h]
theorem zcc {X Y R Q:Type}{o:Option (Out (X×Y) R)}{kn:X×Y→Option Q}{kr:R→Option Q}{r:Y}{q:Option Q}(h: ∃x:X,o=some (.done (x,r)))(hk: ∀x,kn (x,r)=q):outK o kn kr=q:=by
 obtain⟨x,h⟩:=h;rw[h];exact hk x
end
end Go.Av
namespace Go.Av
open Go
section
variable {α:Type} [Inhabited α]
theorem zjh (d:Array α){i j:Nat}(hi:i<d.size)(hj:j<d.size)(k:Nat):(Sort.swp d i j)[k]! =if k=j then d[i]! else if k=i then d[j]! else d[k]! :=Sort.swp_get d hi hj k
def swpN (p q:Nat):Nat→Array α→Array α
 |0,d=>d
 |k+1,d=>Sort.swp (swpN p q k d) (p+k) (q+k)
theorem z6d (p q:Nat): ∀(n:Nat) (d:Array α),(swpN p q n d).size=d.size
 |0,d=>rfl
 |k+1,d=>by unfold swpN;rw[zci,z6d p q k]
def srF (p q n:Nat)(d:Array α)(x:Nat):α:=if p≤x∧x<p+n then d[x-p+q]! else if q≤x∧x<q+n then d[x-q+p]! else d[x]!
theorem zd6 {p q:Nat}{d:Array α}: ∀{n:Nat},(p+n≤q∨q+n≤p)→p+n≤d.size→q+n≤d.size→ ∀x,(swpN p q n d)[x]! =srF p q n d x
 |0,_,_,_,x=>by
  unfold swpN srF;rw[if_neg (by omega),if_neg (by omega)]
 |k+1,h,hp,hq,x=>by
  have ih:=zd6 (p:=p) (q:=q) (d:=d) (n:=k) (by omega) (by omega) (by omega);unfold swpN;rw[zjh _ (by rw[z6d];omega) (by rw[z6d];omega),ih,ih,ih];unfold srF;by_cases h1:x=q+k
  ·subst h1;rw[if_pos rfl,if_neg (by omega),if_neg (by omega),if_neg (by omega),if_pos (by omega)];congr 1;omega
  ·rw[if_neg h1];by_cases h2:x=p+k
   ·subst h2;rw[if_pos rfl,if_neg (by omega),if_neg (by omega),if_pos (by omega)];congr 1;omega
   ·rw[if_neg h2];by_cases h3:p≤x∧x<p+k
    ·rw[if_pos h3,if_pos (by omega)]
    ·rw[if_neg h3,if_neg (show ¬(p≤x∧x<p+(k+1))by omega)];by_cases h4:q≤x∧x<q+k
     ·rw[if_pos h4,if_pos (by omega)]
     ·rw[if_neg h4,if_neg (by omega)]
theorem zbj {p q a b:Nat}{d:Array α}(hb:b≤d.size): ∀{n:Nat},a≤p→a≤q→p+n≤b→q+n≤b→Sort.PermIn a b d (swpN p q n d)
 |0,_,_,_,_=>Sort.permIn_refl d a b
 |k+1,h1,h2,h3,h4=>by
  unfold swpN;exact Sort.permIn_trans _ _ _ a b (zbj hb h1 h2 (by omega) (by omega)) (Sort.swp_permIn _ a b _ _ (by omega) (by omega) (by omega) (by omega) (by rw[z6d];exact hb))
theorem zmc {R:Type}{B:Int×List α→Option (Ctl (Int×List α) R)}{p q n fuel:Nat}{d:Array α}(hf:n<fuel)
 (hB: ∀(i:Nat) (d':Array α),d'.size=d.size→i≤n→B ((i:Int),d'.toList)=if i<n then some (.next (((i+1:Nat):Int),(Sort.swp d' (p+i) (q+i)).toList))else some (.brk ((i:Int),d'.toList))):
 ∃x:Int,loopN B fuel ((0:Int),d.toList)=some (.done (x,(swpN p q n d).toList)):=by
 have key: ∀k i fuel,i+k=n→k<fuel→ ∃x:Int,loopN B fuel ((i:Int),(swpN p q i d).toList)=some (.done (x,(swpN p q n d).toList)):=by
  intro k;induction k with
  |zero=>
   intro i fuel hi hf;cases fuel with
   |zero=>omega
   |succ fuel=>
    have h:=hB i (swpN p q i d) (z6d ..) (by omega);rw[if_neg (by omega)]at h;rw[z57 h,show i=n by omega];exact⟨_,rfl⟩
  |succ k ih=>
   intro i fuel hi hf;cases fuel with
   |zero=>omega
   |succ fuel=>
    have h:=hB i (swpN p q i d) (z6d ..) (by omega);rw[if_pos (by omega)]at h;rw[z4y h];exact ih (i+1) fuel (by omega) (by omega)
 exact key n 0 fuel (by omega) hf
def rotF (a m b:Nat)(d:Array α)(x:Nat):α:=if a≤x∧x<a+(b-m)then d[x-a+m]! else if a+(b-m)≤x∧x<b then d[x-(a+(b-m))+a]! else d[x]!
structure RotTo (a m b:Nat) (d d':Array α):Prop where
 perm:Sort.PermIn a b d d'
 get: ∀x,d'[x]! =rotF a m b d x
theorem zn0 {m i j:Nat}{d:Array α}(him:i≤m)(hij:j<i)(x:Nat)(d':Array α)(hd': ∀x,d'[x]! =srF (m-i) m j d x):rotF (m-i+j) m (m+j) d' x=rotF (m-i) m (m+j) d x:=by
 unfold rotF;rw[hd',hd',hd'];unfold srF
 repeat' split
 all_goals first|omega|(congr 1;done)|(congr 1;omega)
theorem zm5 {m i j:Nat}{d:Array α}(him:i≤m)(hij:i<j)(x:Nat)(d':Array α)(hd': ∀x,d'[x]! =srF (m-i) (m+j-i) i d x):rotF (m-i) m (m+j-i) d' x=rotF (m-i) m (m+j) d x:=by
 unfold rotF;rw[hd',hd',hd'];unfold srF
 repeat' split
 all_goals first|omega|(congr 1;done)|(congr 1;omega)
theorem zmz {m i:Nat}{d:Array α}(him:i≤m)(x:Nat):srF (m-i) m i d x=rotF (m-i) m (m+i) d x:=by
 unfold rotF srF
 repeat' split
 all_goals first|omega|(congr 1;done)|(congr 1;omega)
theorem zn1 {R:Type}{B:Int×Int×List α→Option (Ctl (Int×Int×List α) R)}{m a b:Nat}{d0:Array α}(hb:b≤d0.size): ∀(n i j fuel:Nat) (d:Array α),i+j≤n→n<fuel→1≤i→1≤j→a≤m-i→i≤m→m+j≤b→d.size=d0.size→
 (∀(i j:Nat) (d':Array α),d'.size=d0.size→1≤i→1≤j→i≤m→m+j≤b→B ((i:Int),(j:Int),d'.toList)=if i=j then some (.brk ((i:Int),(j:Int),d'.toList))else if j<i then some (.next (((i-j:Nat):Int),(j:Int),(swpN (m-i) m j d').toList))else some (.next ((i:Int),((j-i:Nat):Int),(swpN (m-i) (m+j-i) i d').toList)))→
 ∃(k:Nat) (d':Array α),loopN B fuel ((i:Int),(j:Int),d.toList)=some (.done ((k:Int),(k:Int),d'.toList))∧1≤k∧k≤i∧k≤j∧d'.size=d.size∧Sort.PermIn a b d d'∧ ∀x,rotF (m-k) m (m+k) d' x=rotF (m-i) m (m+j) d x:=by
 intro n;induction n with
 |zero=>intro i j fuel d hn hf h1 h2;omega
 |succ n ih=>
  intro i j fuel d hn hf h1 h2 h3 h4 h5 h6 hB;cases fuel with
  |zero=>omega
  |succ fuel=>
   have h:=hB i j d h6 h1 h2 h4 h5;by_cases e:i=j
   ·rw[if_pos e]at h;subst e;exact⟨i,d,z57 h,h1,zzc _,zzc _,rfl,Sort.permIn_refl d a b,fun x=>rfl⟩
   ·rw[if_neg e]at h;by_cases hl:j<i
    ·rw[if_pos hl]at h;obtain⟨k,d',g1,g2,g3,g4,g5,g6,g7⟩:=ih (i-j) j fuel (swpN (m-i) m j d) (by omega) (by omega) (by omega) h2 (by omega) (by omega) h5 (by rw[z6d];exact h6) hB;refine⟨k,d',by rw[z4y h,g1],g2,by omega,g4,by rw[g5,z6d],Sort.permIn_trans _ _ _ a b (zbj (by omega) (by omega) (by omega) (by omega) (by omega)) g6,fun x=>?_⟩;rw[g7];have:=zn0 (m:=m) (i:=i) (j:=j) (d:=d) h4 hl x (swpN (m-i) m j d) (zd6 (by omega) (by omega) (by omega))
     rw[show m-(i-j)=m-i+j by omega];exact this
    ·rw[if_neg hl]at h;obtain⟨k,d',g1,g2,g3,g4,g5,g6,g7⟩:=ih i (j-i) fuel (swpN (m-i) (m+j-i) i d) (by omega) (by omega) h1 (by omega) h3 h4 (by omega) (by rw[z6d];exact h6) hB;refine⟨k,d',by rw[z4y h,g1],g2,g3,by omega,by rw[g5,z6d],Sort.permIn_trans _ _ _ a b (zbj (by omega) (by omega) (by omega) (by omega) (by omega)) g6,fun x=>?_⟩;rw[g7];have:=zm5 (m:=m) (i:=i) (j:=j) (d:=d) h4 (by omega) x (swpN (m-i) (m+j-i) i d) (zd6 (by omega) (by omega) (by omega))
     rw[show m+(j-i)=m+j-i by omega];exact this
end
end Go.Av
namespace Go.Av
open Go
section
variable {α:Type} [Inhabited α]
theorem zk7 {R:Type}{B:Int×Int→Option (Ctl (Int×Int) R)}{P:Nat→Bool}{i0 j0:Nat}: ∀(n i j fuel:Nat),j-i≤n→n<fuel→i0≤i→i≤j→j≤j0→(i=i0∨P (i-1)=true)→(j=j0∨P j=false)→
 (∀i j:Nat,i0≤i→i≤j→j≤j0→B ((i:Int),(j:Int))=if i<j then(if P ((i+j) / 2)=true then some (.next ((((i+j) / 2+1:Nat):Int),(j:Int)))else some (.next ((i:Int),(((i+j) / 2:Nat):Int))))else some (.brk ((i:Int),(j:Int))))→
 ∃r:Nat,loopN B fuel ((i:Int),(j:Int))=some (.done ((r:Int),(r:Int)))∧i0≤r∧r≤j0∧(r=i0∨P (r-1)=true)∧(r=j0∨P r=false):=by
 intro n;induction n with
 |zero=>
  intro i j fuel hn hf h1 h2 h3 h4 h5 hB;cases fuel with
  |zero=>omega
  |succ fuel=>
   have h:=hB i j h1 h2 h3;rw[if_neg (by omega)]at h;have:i=j:=by omega
   subst this;exact⟨i,z57 h,h1,h3,h4,h5⟩
 |succ n ih=>
  intro i j fuel hn hf h1 h2 h3 h4 h5 hB;cases fuel with
  |zero=>omega
  |succ fuel=>
   have h:=hB i j h1 h2 h3;by_cases hl:i<j
   ·rw[if_pos hl]at h;by_cases hp:P ((i+j) / 2)=true
    ·rw[if_pos hp]at h;rw[z4y h];exact ih _ j fuel (by omega) (by omega) (by omega) (by omega) h3 (.inr (by rw[Nat.add_sub_cancel];exact hp)) h5 hB
    ·rw[if_neg hp]at h;rw[z4y h];exact ih i _ fuel (by omega) (by omega) h1 (by omega) (by omega) h4 (.inr (by simpa using hp)) hB
   ·rw[if_neg hl]at h;have:i=j:=by omega
    subst this;exact⟨i,z57 h,h1,h3,h4,h5⟩
variable {lt:α→α→Bool}
theorem glue2 {a mid b:Nat}{d:Array α}(h1:Sort.SortedIn lt a mid d)(h2:Sort.SortedIn lt mid b d)(hx: ∀x y,a≤x→x<mid→mid≤y→y<b→lt d[y]! d[x]! =false):Sort.SortedIn lt a b d:=by
 intro i j hi hij hj;by_cases h3:j<mid
 ·exact h1 i j hi hij h3
 ·by_cases h4:mid≤i
  ·exact h2 i j h4 hij hj
  ·exact hx i j hi (by omega) (by omega) hj
theorem zef (hS:Sort.SWO lt){a m b s e:Nat}{d d':Array α}(h1:Sort.SortedIn lt a m d)(h2:Sort.SortedIn lt m b d)(hs:a≤s∧s≤m)(he:m≤e∧e≤b)(hr: ∀x,d'[x]! =rotF s m e d x)
 (hA:s=a∨e=b∨lt d[e]! d[s-1]! =false) (hB:s=m∨e=m∨lt d[e-1]! d[s]! =true):
 (∀x y,a≤x→x<s+(e-m)→s+(e-m)≤y→y<b→lt d'[y]! d'[x]! =false)∧Sort.SortedIn lt a s d'∧Sort.SortedIn lt s (s+(e-m)) d'∧Sort.SortedIn lt (s+(e-m)) e d'∧Sort.SortedIn lt e b d':=by
 --where each one comes from
 have f1: ∀x,x<s→d'[x]! =d[x]! :=fun x hx=>by rw[hr];unfold rotF;rw[if_neg (by omega),if_neg (by omega)]
 have f2: ∀x,s≤x→x<s+(e-m)→d'[x]! =d[x-s+m]! :=fun x hx hy=>by rw[hr];unfold rotF;rw[if_pos (by omega)]
 have f3: ∀x,s+(e-m)≤x→x<e→d'[x]! =d[x-(s+(e-m))+s]! :=fun x hx hy=>by rw[hr];unfold rotF;rw[if_neg (by omega),if_pos (by omega)]
 have f4: ∀x,e≤x→d'[x]! =d[x]! :=fun x hx=>by rw[hr];unfold rotF;rw[if_neg (by omega),if_neg (by omega)]
 have le1: ∀x y,a≤x→x≤y→y<m→lt d[y]! d[x]! =false:=fun x y g1 g2 g3=>by
  by_cases g:x=y
  ·subst g;exact hS.irrefl _
  ·exact h1 x y g1 (by omega) g3
 have le2: ∀x y,m≤x→x≤y→y<b→lt d[y]! d[x]! =false:=fun x y g1 g2 g3=>by
  by_cases g:x=y
  ·subst g;exact hS.irrefl _
  ·exact h2 x y g1 (by omega) g3
 refine⟨?_,?_,?_,?_,?_⟩
 ·intro x y hx1 hx2 hy1 hy2;by_cases c1:x<s
  ·rw[f1 x c1];by_cases c2:y<e
   ·rw[f3 y hy1 c2];exact le1 _ _ hx1 (by omega) (by omega)
   ·rw[f4 y (by omega)];rcases hA with h|h|h
    ·omega
    ·omega
    ·exact hS.ntrans _ _ _ (hS.ntrans _ _ _ (le2 e y (by omega) (by omega) hy2) h) (le1 x (s-1) hx1 (by omega) (by omega))
  ·rw[f2 x (by omega) hx2];by_cases c2:y<e
   ·rw[f3 y hy1 c2];rcases hB with h|h|h
    ·omega
    ·omega
    ·exact hS.ntrans _ _ _ (hS.ntrans _ _ _ (le1 s _ hs.1 (by omega) (by omega)) (hS.asymm h)) (le2 (x-s+m) (e-1) (by omega) (by omega) (by omega))
   ·rw[f4 y (by omega)];exact le2 _ _ (by omega) (by omega) hy2
 ·intro i j hi hij hj;rw[f1 i (by omega),f1 j hj];exact h1 i j hi hij (by omega)
 ·intro i j hi hij hj;rw[f2 i hi (by omega),f2 j (by omega) hj];exact h2 _ _ (by omega) (by omega) (by omega)
 ·intro i j hi hij hj;rw[f3 i hi (by omega),f3 j (by omega) hj];exact h1 _ _ (by omega) (by omega) (by omega)
 ·intro i j hi hij hj;rw[f4 i hi,f4 j (by omega)];exact h2 i j (by omega) hij hj
structure MergeTo (lt:α→α→Bool) (a b:Nat) (d d':Array α):Prop where
 perm:Sort.PermIn a b d d'
 sorted:Sort.SortedIn lt a b d'
theorem zj0 (hS:Sort.SWO lt){a mid b:Nat}{d d1 d2 d3:Array α}(hab:a≤mid∧mid≤b)(hb:b≤d.size)(hp:Sort.PermIn a b d d1)
 (hx: ∀x y,a≤x→x<mid→mid≤y→y<b→lt d1[y]! d1[x]! =false) (h2:MergeTo lt a mid d1 d2) (h3:MergeTo lt mid b d2 d3):MergeTo lt a b d d3:=by
 have s1:d1.size=d.size:=hp.1;have s2:d2.size=d1.size:=h2.perm.1
 have p2:Sort.PermIn a b d1 d2:=Sort.permIn_mono _ _ a mid a b (zzc _) hab.2 (by omega) h2.perm;have p3:Sort.PermIn a b d2 d3:=Sort.permIn_mono _ _ mid b a b hab.1 (zzc _) (by omega) h3.perm
 refine⟨Sort.permIn_trans _ _ _ a b hp (Sort.permIn_trans _ _ _ a b p2 p3),glue2 (mid:=mid) ?_ h3.sorted ?_⟩
 ·intro i j hi hij hj;rw[h3.perm.2.1 i (.inl (by omega)),h3.perm.2.1 j (.inl hj)];exact h2.sorted i j hi hij hj
 ·have c1: ∀x y,a≤x→x<mid→mid≤y→y<b→lt d2[y]! d2[x]! =false:=fun x y g1 g2 g3 g4=>by
   rw[h2.perm.2.1 y (.inr g3)];exact Sort.permIn_all d1 d2 a mid (fun z=>lt d1[y]! z=false) (by omega) h2.perm (fun i k1 k2=>hx i y k1 k2 g3 g4) x g1 g2
  intro x y g1 g2 g3 g4;rw[h3.perm.2.1 x (.inl g2)];exact Sort.permIn_all d2 d3 mid b (fun z=>lt z d2[x]! =false) (by omega) h3.perm (fun i k1 k2=>c1 x i g1 g2 k1 k2) y g3 g4
theorem zae {a b:Nat}{d:Array α}(h:Sort.SortedIn lt a b d):MergeTo lt a b d d:=⟨Sort.permIn_refl d a b,h⟩
theorem z7p {a b:Nat}{d:Array α}(h:b≤a+1):Sort.SortedIn lt a b d:=fun i j h1 h2 h3=>by omega
end
end Go.Av
namespace Go.Av
open Go
section
variable {α:Type} [Inhabited α] {cmp:α→α→Option Int} {c:α→α→Int}
def ltC (c:α→α→Int)(x y:α):Bool:=decide (c x y<0)
theorem zln {a fuel:Nat}{B:Int×List α→Option (Ctl (Int×List α) Empty)}{j:Nat}{d:Array α}(hj:j<d.size)(hf:j<fuel)
 (hB: ∀(j:Nat) (d':Array α),j<d'.size→d'.size=d.size→B ((j:Int),d'.toList)=if a<j∧ltC c d'[j]! d'[j-1]! =true then some (.next (((j-1:Nat):Int),(Sort.swp d' j (j-1)).toList))else some (.brk ((j:Int),d'.toList))):
 ∃x:Int,loopN B fuel ((j:Int),d.toList)=some (.done (x,(Sort.insInner (ltC c) a j d).toList)):=by
 induction j generalizing d fuel with
 |zero=>
  cases fuel with
  |zero=>omega
  |succ fuel=>
   refine⟨0,z57 (s':=(((0:Nat):Int),d.toList)) ?_⟩;rw[hB 0 d hj rfl,if_neg (by omega)]
 |succ j ih=>
  cases fuel with
  |zero=>omega
  |succ fuel=>
   have h:=hB (j+1) d hj rfl;rw[Nat.add_sub_cancel]at h;unfold Sort.insInner;by_cases hc:a<j+1∧ltC c d[j+1]! d[j]! =true
   ·rw[if_pos hc]at h;rw[z4y h,if_pos (by simp[hc.1,hc.2])];exact ih (by rw[zci];omega) (by omega) (fun k d' h1 h2=>hB k d' h1 (by rw[h2,zci]))
   ·rw[if_neg hc]at h;rw[z57 h,if_neg (by simpa using hc)];exact⟨_,rfl⟩
theorem zlo {a b fuel:Nat}{B:Int×List α→Option (Ctl (Int×List α) Empty)}{n i:Nat}{d:Array α}(hn:b-i=n)(hb:b≤d.size)(hf:b-i<fuel)
 (hB: ∀(i:Nat) (d':Array α),d'.size=d.size→B ((i:Int),d'.toList)=if i<b then some (.next (((i+1:Nat):Int),(Sort.insInner (ltC c) a i d').toList))else some (.brk ((i:Int),d'.toList)))
 (hs: ∀(i:Nat) (d':Array α),(Sort.insInner (ltC c) a i d').size=d'.size):
 ∃x:Int,loopN B fuel ((i:Int),d.toList)=some (.done (x,(Sort.insOuter (ltC c) a b i d).toList)):=by
 induction n generalizing i d fuel with
 |zero=>
  cases fuel with
  |zero=>omega
  |succ fuel=>
   have h:=hB i d rfl;rw[if_neg (by omega)]at h;rw[z57 h,Sort.insOuter,if_neg (by omega)];exact⟨_,rfl⟩
 |succ n ih=>
  cases fuel with
  |zero=>omega
  |succ fuel=>
   have h:=hB i d rfl;rw[if_pos (by omega)]at h;rw[z4y h,Sort.insOuter,if_pos (by omega)];exact ih (by omega) (by rw[hs];omega) (by omega) (fun k d' h1=>hB k d' (by rw[h1,hs]))
theorem ze8 (a:Nat): ∀(j:Nat) (d:Array α),(Sort.insInner (ltC c) a j d).size=d.size
 |0,d=>rfl
 |j+1,d=>by
  unfold Sort.insInner;split
  ·rw[ze8 a j,zci]
  ·rfl
theorem zkc (hc: ∀x y,cmp x y=some (c x y)){fuel a b:Nat}{d:Array α}(hb:b≤d.size)(hd:d.size<4611686018427387904)(ha:a<4611686018427387903)(hf:d.size<fuel):
 insG cmp fuel (a:Int) (b:Int) d.toList=some (Sort.insertionSort (ltC c) d a b).toList:=by
 unfold insG Sort.insertionSort;rw[wadd1 (by omega)];refine zcc (zlo (c:=c) (a:=a) (b:=b) (i:=a+1) (d:=d) rfl hb (by omega) ?_ (ze8 a)) (fun x=>rfl);intro i d' hd';simp only[z0i,intlt];by_cases hi:i<b
 ·rw[if_pos hi,if_pos hi];refine zcc (zln (c:=c) (a:=a) (j:=i) (d:=d') (by omega) (by omega) ?_) (fun x=>?_)
  ·intro j e hj he;simp only[jn_eq,z0i,intlt];by_cases h1:a<j
   ·simp(disch:=omega) only[h1,if_true,wsub1,z0a,zzk,zzb,zzh,zzf,hc,zz0,z7u,zep,true_and];unfold ltC;by_cases h2:c e[j]! e[j-1]! <0
    ·simp[h2]
    ·simp[h2]
   ·rw[if_neg h1,if_neg (fun h=>h1 h.1)];rfl
  ·rw[wadd1 (by omega)]
 ·rw[if_neg hi,if_neg hi]
theorem zfk {fuel p q n:Nat}{d:Array α}(hp:p+n≤d.size)(hq:q+n≤d.size)(hd:d.size<4611686018427387904)(hf:d.size<fuel):
 swapG fuel (p:Int) (q:Int) (n:Int) d.toList=some (swpN p q n d).toList:=by
 unfold swapG;refine zcc (zmc (p:=p) (q:=q) (n:=n) (d:=d) (by omega) ?_) (fun x=>rfl);intro i d' hd' hi;simp only[z0i,intlt];by_cases h:i<n
 ·rw[if_pos h,if_pos h];simp(disch:=omega) only[wadd,wadd1,z0a,zzk,zzb,zzh,zzf,z7u,zep]
 ·rw[if_neg h,if_neg h]
theorem zny {fuel s m e:Nat}{d:Array α}(h1:s<m)(h2:m<e)(he:e≤d.size)(hd:d.size<4611686018427387904)(hf:d.size<fuel):
 ∃d':Array α,rotG fuel (s:Int) (m:Int) (e:Int) d.toList=some d'.toList∧RotTo s m e d d':=by
 obtain⟨k,d1,g1,g2,g3,g4,g5,g6,g7⟩:=zn1 (R:=Empty) (m:=m) (a:=s) (b:=e) (d0:=d) he (m-s+(e-m)) (m-s) (e-m) fuel d (zzc _) (by omega) (by omega) (by omega) (by omega) (by omega) (by omega) rfl
  (B:=fun(a1:Int×Int×(List α))=>bf (!decide (a1.1=a1.2.1)) (bf (decide (a1.2.1<a1.1)) ((swapG fuel (zzi.wrap ((m:Int)-a1.1)) (m:Int) a1.2.1 a1.2.2).bind fun r4=>need (r4.length=a1.2.2.length)<|some (.next ((zzi.wrap (a1.1-a1.2.1)),a1.2.1,r4))) ((swapG fuel (zzi.wrap ((m:Int)-a1.1)) (zzi.wrap ((zzi.wrap ((m:Int)+a1.2.1))-a1.1)) a1.1 a1.2.2).bind fun r6=>need (r6.length=a1.2.2.length)<|some (.next (a1.1,(zzi.wrap (a1.2.1-a1.1)),r6)))) (some (.brk (a1.1,a1.2.1,a1.2.2))))
  (by
   intro i j d' hs hi hj him hjb;simp only[z4a,z0i,intlt];by_cases h:i=j
   ·subst h;rw[if_pos rfl,if_pos rfl]
   ·rw[if_neg (by omega),if_neg h];by_cases h3:j<i
    ·rw[if_pos h3,if_pos h3];rw[wsub (by omega) (by omega),wsub (by omega) (by omega),zfk (by omega) (by omega) (by omega) (by omega)];simp only[zz0];rw[z0a (by simp[z6d])]
    ·rw[if_neg h3,if_neg h3];rw[wsub (by omega) (by omega),wadd (by omega),wsub (by omega) (by omega),wsub (by omega) (by omega),zfk (by omega) (by omega) (by omega) (by omega)];simp only[zz0];rw[z0a (by simp[z6d])])
 refine⟨swpN (m-k) m k d1,?_,Sort.permIn_trans _ _ _ s e g6 (zbj (by omega) (by omega) (by omega) (by omega) (by omega)),fun x=>?_⟩
 ·unfold rotG;rw[wsub (by omega) (by omega),wsub (by omega) (by omega)];rw[g1];simp only[z78];rw[wsub (by omega) (by omega),zfk (by omega) (by omega) (by omega) (by omega)];rfl
 ·rw[zd6 (by omega) (by omega) (by omega),zmz (by omega),g7];congr 1<;>omega
end
end Go.Av
namespace Go.Av
open Go
section
variable {α:Type} [Inhabited α] {cmp:α→α→Option Int} {c:α→α→Int}
theorem zc7 {x y:Nat}(h:x+y<4611686018427387904):zzi.wrap (shrOp .u64 (zzu.wrap (zzi.wrap ((x:Int)+(y:Int)))) 1)=(((x+y) / 2:Nat):Int):=by
 rw[wadd h,z8h,Int.emod_eq_of_lt (by omega) (by omega),show(1:Int)=((1:Nat):Int)from rfl,zo2 .u64 (x+y) 1 (by decide),z3a (by omega) (by omega)]
def shR (a:Nat):Nat→Array α→Array α
 |0,d=>d
 |k+1,d=>Sort.swp (shR a k d) (a+k) (a+k+1)
def shL (m:Nat):Nat→Array α→Array α
 |0,d=>d
 |k+1,d=>Sort.swp (shL m k d) (m-k) (m-k-1)
theorem zce (a:Nat): ∀(k:Nat) (d:Array α),(shR a k d).size=d.size
 |0,d=>rfl
 |k+1,d=>by unfold shR;rw[zci,zce a k]
theorem zcd (m:Nat): ∀(k:Nat) (d:Array α),(shL m k d).size=d.size
 |0,d=>rfl
 |k+1,d=>by unfold shL;rw[zci,zcd m k]
theorem zki {a:Nat}{d:Array α}: ∀{k:Nat},a+k<d.size→ ∀x,(shR a k d)[x]! =rotF a (a+1) (a+1+k) d x
 |0,h,x=>by
  unfold shR rotF
  repeat' split
  all_goals first|omega|rfl|(congr 1;omega)
 |k+1,h,x=>by
  have ih:=zki (a:=a) (d:=d) (k:=k) (by omega);unfold shR;rw[zjh _ (by rw[zce];omega) (by rw[zce];omega),ih,ih,ih];unfold rotF
  repeat' split
  all_goals first|omega|rfl|(congr 1;omega)
theorem zkh {m:Nat}{d:Array α}(hm:m<d.size): ∀{k:Nat},k≤m→ ∀x,(shL m k d)[x]! =rotF (m-k) m (m+1) d x
 |0,h,x=>by
  unfold shL rotF
  repeat' split
  all_goals first|omega|rfl|(congr 1;omega)
 |k+1,h,x=>by
  have ih:=zkh (m:=m) (d:=d) hm (k:=k) (by omega);unfold shL;rw[zjh _ (by rw[zcd];omega) (by rw[zcd];omega),ih,ih,ih];unfold rotF
  repeat' split
  all_goals first|omega|rfl|(congr 1;omega)
theorem zje {a b:Nat}{d:Array α}(hb:b≤d.size): ∀{k:Nat},a+k<b→Sort.PermIn a b d (shR a k d)
 |0,_=>Sort.permIn_refl d a b
 |k+1,h=>by
  unfold shR;exact Sort.permIn_trans _ _ _ a b (zje hb (by omega)) (Sort.swp_permIn _ a b _ _ (by omega) (by omega) (by omega) (by omega) (by rw[zce];exact hb))
theorem zjd {a m b:Nat}{d:Array α}(hb:b≤d.size)(hm:m<b): ∀{k:Nat},a+k≤m→Sort.PermIn a b d (shL m k d)
 |0,_=>Sort.permIn_refl d a b
 |k+1,h=>by
  unfold shL;exact Sort.permIn_trans _ _ _ a b (zjd hb hm (by omega)) (Sort.swp_permIn _ a b _ _ (by omega) (by omega) (by omega) (by omega) (by rw[zcd];exact hb))
theorem zn3 {R:Type}{B:Int×List α→Option (Ctl (Int×List α) R)}{a n fuel:Nat}{d:Array α}(hf:n<fuel)
 (hB: ∀(i:Nat) (d':Array α),d'.size=d.size→i≤n→B (((a+i:Nat):Int),d'.toList)=if i<n then some (.next (((a+i+1:Nat):Int),(Sort.swp d' (a+i) (a+i+1)).toList))else some (.brk (((a+i:Nat):Int),d'.toList))):
 ∃x:Int,loopN B fuel ((a:Int),d.toList)=some (.done (x,(shR a n d).toList)):=by
 have key: ∀k i fuel,i+k=n→k<fuel→ ∃x:Int,loopN B fuel (((a+i:Nat):Int),(shR a i d).toList)=some (.done (x,(shR a n d).toList)):=by
  intro k;induction k with
  |zero=>
   intro i fuel hi hf;cases fuel with
   |zero=>omega
   |succ fuel=>
    have h:=hB i (shR a i d) (zce ..) (by omega);rw[if_neg (by omega)]at h;rw[z57 h,show i=n by omega];exact⟨_,rfl⟩
  |succ k ih=>
   intro i fuel hi hf;cases fuel with
   |zero=>omega
   |succ fuel=>
    have h:=hB i (shR a i d) (zce ..) (by omega);rw[if_pos (by omega)]at h;rw[z4y h];exact ih (i+1) fuel (by omega) (by omega)
 exact key n 0 fuel (by omega) hf
theorem zn2 {R:Type}{B:Int×List α→Option (Ctl (Int×List α) R)}{m n fuel:Nat}{d:Array α}(hn:n≤m)(hf:n<fuel)
 (hB: ∀(i:Nat) (d':Array α),d'.size=d.size→i≤n→B (((m-i:Nat):Int),d'.toList)=if i<n then some (.next (((m-i-1:Nat):Int),(Sort.swp d' (m-i) (m-i-1)).toList))else some (.brk (((m-i:Nat):Int),d'.toList))):
 ∃x:Int,loopN B fuel ((m:Int),d.toList)=some (.done (x,(shL m n d).toList)):=by
 have key: ∀k i fuel,i+k=n→k<fuel→ ∃x:Int,loopN B fuel (((m-i:Nat):Int),(shL m i d).toList)=some (.done (x,(shL m n d).toList)):=by
  intro k;induction k with
  |zero=>
   intro i fuel hi hf;cases fuel with
   |zero=>omega
   |succ fuel=>
    have h:=hB i (shL m i d) (zcd ..) (by omega);rw[if_neg (by omega)]at h;rw[z57 h,show i=n by omega];exact⟨_,rfl⟩
  |succ k ih=>
   intro i fuel hi hf;cases fuel with
   |zero=>omega
   |succ fuel=>
    have h:=hB i (shL m i d) (zcd ..) (by omega);rw[if_pos (by omega)]at h;rw[z4y h];have:=ih (i+1) fuel (by omega) (by omega)
    rwa[show m-(i+1)=m-i-1 by omega]at this
 exact key n 0 fuel (by omega) hf
omit [Inhabited α]in
theorem zmb (h:IsCmp c):Sort.SWO (ltC c) where
 irrefl x:=by unfold ltC;rw[h.refl];rfl
 trans x y z h1 h2:=by
  unfold ltC at*;simp only[decide_eq_true_eq]at*;exact h.lt_tr h1 (by omega)
 ntrans x y z h1 h2:=by
  unfold ltC at*;simp only[decide_eq_false_iff_not,Int.not_lt]at*;have a1:=h.anti x y;have a2:=h.anti y z;have a3:=h.anti x z
  by_cases g:0≤c x z
  ·exact g
  ·exfalso;have:=h.lt_tr (a:=x) (b:=z) (d:=y) (by omega) (by omega)
   omega
end
end Go.Av
namespace Go.Av
open Go
section
variable {α:Type} [Inhabited α] {cmp:α→α→Option Int} {c:α→α→Int}
theorem zmr {lt:α→α→Bool}(hS:Sort.SWO lt){a b r:Nat}{d:Array α}(hr:a+1≤r∧r≤b)(hb:b≤d.size)(h2:Sort.SortedIn lt (a+1) b d)
 (hA:r=a+1∨lt d[r-1]! d[a]! =true) (hB:r=b∨lt d[r]! d[a]! =false):MergeTo lt a b d (shR a (r-(a+1)) d):=by
 have hg: ∀x,(shR a (r-(a+1)) d)[x]! =rotF a (a+1) r d x:=fun x=>by
  rw[zki (by omega),show a+1+(r-(a+1))=r by omega]
 obtain⟨h3,_,h5,h6,h7⟩:=zef hS (d':=shR a (r-(a+1)) d) (a:=a) (m:=a+1) (b:=b) (s:=a) (e:=r) (z7p (by omega)) h2 ⟨by omega,by omega⟩ hr hg (.inl rfl) (.inr hA);refine⟨zje hb (by omega),glue2 (mid:=a+(r-(a+1))) h5 (glue2 (mid:=r) h6 h7 ?_) h3⟩;intro x y g1 g2 g3 g4;rw[hg,hg,show x=r-1 by omega];unfold rotF;rw[if_neg (by omega),if_neg (by omega),if_neg (by omega),if_pos (by omega)];rw[show r-1-(a+(r-(a+1)))+a=a by omega];rcases hB with h|h
 ·omega
 ·by_cases e:y=r
  ·subst e;exact h
  ·exact hS.ntrans _ _ _ (h2 r y (by omega) (by omega) g4) h
theorem      zmq {lt : α → α → Bool} (hS : Sort.SWO lt) {a m r : Nat} {d : Array α} (hr : a ≤ r ∧ r ≤ m) (hb : m + 1 ≤ d.size) (h1 : Sort.SortedIn lt a m d)
    (hA : r = a ∨ lt d[m]! d[r - 1]! = false) (hB : r = m ∨ lt d[m]! d[r]! = true) : MergeTo lt a (m + 1) d (shL m (m - r) d) := by
  have hg : ∀ x, (shL m (m - r) d)[x]! = rotF r m (m + 1) d x := fun x => by
    rw [    zkh (by omega) (by omega), show m - (m - r) = r by omega]
  obtain ⟨h3, h4, h5, h6, h7⟩ :=       zef hS (d' := shL m (m - r) d) (a := a) (m := m) (b := m + 1) (s := r) (e := m + 1) h1 (         z7p (by omega)) hr ⟨by omega, by omega⟩ hg (.inr (.inl rfl))
    (by rcases hB with h | h
        · exact .inl h
        · exact .inr (.inr (by rw [Nat.add_sub_cancel]; exact h)))
  refine ⟨     zjd hb (by omega) (by omega), glue2 (mid := r + (m + 1 - m)) (glue2 (mid := r) h4 h5 ?_) h6 h3⟩
  intro x y g1 g2 g3 g4
  rw [hg, hg, show y = r by omega]
  unfold rotF
  rw [if_pos (by omega), if_neg (by omega), if_neg (by omega)]
  rw [show r - r + m = m by omega]
  rcases hA with h | h
  · omega
  · by_cases e : x = r - 1
    · subst e; exact h
    · exact hS.ntrans _ _ _ h (h1 x (r - 1) g1 (by omega) (by omega))
theorem za1 {S R Q:Type}{G:Option Q→Prop}{P:S→Prop}{o:Option (Out S R)}{kn:S→Option Q}{kr:R→Option Q}(h: ∃s,o=some (.done s)∧P s)(hk: ∀s,P s→G (kn s)):G (outK o kn kr):=by
 obtain⟨s,h,hp⟩:=h;rw[h];exact hk s hp
theorem bs_ex {R:Type}{B:Int×Int→Option (Ctl (Int×Int) R)}{P:Nat→Bool}{Q:Int×Int→Prop}{i0 j0 fuel:Nat}(hf:j0-i0<fuel)(hij:i0≤j0)
 (hQ: ∀r:Nat,i0≤r→r≤j0→(r=i0∨P (r-1)=true)→(r=j0∨P r=false)→Q ((r:Int),(r:Int)))
 (hB: ∀i j:Nat,i0≤i→i≤j→j≤j0→B ((i:Int),(j:Int))=if i<j then(if P ((i+j) / 2)=true then some (.next ((((i+j) / 2+1:Nat):Int),(j:Int)))else some (.next ((i:Int),(((i+j) / 2:Nat):Int))))else some (.brk ((i:Int),(j:Int)))):
 ∃s,loopN B fuel ((i0:Int),(j0:Int))=some (.done s)∧Q s:=by
 obtain⟨r,g1,g2,g3,g4,g5⟩:=zk7 (P:=P) (j0-i0) i0 j0 fuel (zzc _) hf (zzc _) hij (zzc _) (.inl rfl) (.inl rfl) hB;exact⟨_,g1,hQ r g2 g3 g4 g5⟩
theorem jn_P {A Q:Type}{G:Option Q→Prop}{P:A→Prop}{K:A→Option Q}{f:(A→Option Q)→Option Q}(hK: ∀a,P a→G (K a))(hf: ∃a,P a∧f K=K a):G (jn K f):=by
 obtain⟨a,h1,h2⟩:=hf;rw[jn_eq,h2];exact hK a h1
theorem zeu (hc: ∀x y,cmp x y=some (c x y))(hC:IsCmp c): ∀(fuel a m b:Nat) (d:Array α),a<m→m<b→b≤d.size→d.size<1152921504606846976→d.size+(b-a)<fuel→
 Sort.SortedIn (ltC c) a m d→Sort.SortedIn (ltC c) m b d→ ∃d':Array α,symG cmp fuel (a:Int) (m:Int) (b:Int) d.toList=some d'.toList∧MergeTo (ltC c) a b d d'
 |0,a,m,b,d,_,_,_,_,hf,_,_=>by omega
 |fuel+1,a,m,b,d,ham,hmb,hb,hd,hf,h1,h2=>by
  have hS:=zmb hC;unfold symG;simp only[z0i];rw[wsub (by omega) (by omega),wsub (by omega) (by omega)];by_cases c1:m-a=1
  ·rw[if_pos (by omega)];have hm:m=a+1:=by omega
   subst hm;refine za1 (G:=fun q=> ∃d':Array α,q=some d'.toList∧MergeTo (ltC c) a b d d') (P:=fun s=> ∃r:Nat,s=((r:Int),(r:Int))∧a+1≤r∧r≤b∧(r=a+1∨ltC c d[r-1]! d[a]! =true)∧(r=b∨ltC c d[r]! d[a]! =false)) ?_ ?_
   ·refine bs_ex (P:=fun h=>ltC c d[h]! d[a]!) (by omega) (by omega) (fun r g2 g3 g4 g5=>⟨r,rfl,g2,g3,g4,g5⟩) ?_;intro i j hi hij hj;simp only[z0i,intlt];rw[zc7 (by omega)];by_cases h:i<j
    ·rw[if_pos h,if_pos h];simp(disch:=omega) only[z0a,wadd1,zzk,zzb,zzh,hc,zz0,z7u];unfold ltC;by_cases g:c d[(i+j) / 2]! d[a]! <0<;>simp[g]
    ·rw[if_neg h,if_neg h]
   ·rintro s ⟨r,rfl,g2,g3,g4,g5⟩;simp only;rw[wsub1 (by omega) (by omega)];refine⟨shR a (r-(a+1)) d,zcc (zn3 (a:=a) (n:=r-(a+1)) (by omega) ?_) (fun x=>rfl),zmr hS ⟨g2,g3⟩ hb h2 g4 g5⟩;intro i d' hs hi;simp only[z0i,intlt];by_cases h:i<r-(a+1)
    ·rw[if_pos (by omega),if_pos h];simp(disch:=omega) only[z0a,wadd1,zzk,zzb,zzh,zzf,z7u,zep]
    ·rw[if_neg (by omega),if_neg h]
  ·rw[if_neg (by omega)];by_cases c2:b-m=1
   ·rw[if_pos (by omega)];have hbm:b=m+1:=by omega
    subst hbm;refine za1 (G:=fun q=> ∃d':Array α,q=some d'.toList∧MergeTo (ltC c) a (m+1) d d') (P:=fun s=> ∃r:Nat,s=((r:Int),(r:Int))∧a≤r∧r≤m∧(r=a∨ltC c d[m]! d[r-1]! =false)∧(r=m∨ltC c d[m]! d[r]! =true)) ?_ ?_
    ·refine bs_ex (P:=fun h=> !ltC c d[m]! d[h]!) (by omega) (by omega) (fun r g2 g3 g4 g5=>⟨r,rfl,g2,g3,by simpa using g4,by simpa using g5⟩) ?_;intro i j hi hij hj;simp only[z0i,z4a,intlt];rw[zc7 (by omega)];by_cases h:i<j
     ·rw[if_pos h,if_pos h];simp(disch:=omega) only[z0a,wadd1,zzk,zzb,zzh,hc,zz0,z7u];unfold ltC;by_cases g:c d[m]! d[(i+j) / 2]! <0<;>simp[g]
     ·rw[if_neg h,if_neg h]
    ·rintro s ⟨r,rfl,g2,g3,g4,g5⟩;simp only;refine⟨shL m (m-r) d,zcc (zn2 (m:=m) (n:=m-r) (by omega) (by omega) ?_) (fun x=>rfl),zmq hS ⟨g2,g3⟩ hb h1 g4 g5⟩;intro i d' hs hi;simp only[z0i,intlt];by_cases h:i<m-r
     ·rw[if_pos (by omega),if_pos h];simp(disch:=omega) only[z0a,wsub1,zzk,zzb,zzh,zzf,z7u,zep]
     ·rw[if_neg (by omega),if_neg h]
   ·rw[if_neg (by omega)];rw[zc7 (by omega),wadd (by omega)]
    let G:Option (List α)→Prop:=fun q=> ∃d':Array α,q=some d'.toList∧MergeTo (ltC c) a b d d'
    refine jn_P (G:=G) (P:=fun x=> ∃st r0:Nat,x=((((a+b) / 2:Nat):Int),(((a+b) / 2+m:Nat):Int),(st:Int),(r0:Int))∧a≤st∧st≤r0∧r0≤m∧r0≤(a+b) / 2+m-m∧(st=a∨(a+b) / 2+m-st=b)∧(a+b) / 2+m-st≤b∧(r0=m∨r0=(a+b) / 2)) ?_ ?_
    ·rintro _ ⟨st,r0,rfl,k1,k2,k3,k4,k5,k6,k7⟩;refine za1 (G:=G) (P:=fun s=> ∃r:Nat,s=((r:Int),(r:Int))∧st≤r∧r≤r0∧(r=st∨ltC c d[(a+b) / 2+m-r]! d[r-1]! =false)∧(r=r0∨ltC c d[(a+b) / 2+m-r-1]! d[r]! =true)) ?_ ?_
     ·refine bs_ex (P:=fun h=> !ltC c d[(a+b) / 2+m-1-h]! d[h]!) (by omega) (by omega) (fun r g2 g3 g4 g5=>⟨r,rfl,g2,g3,?_,?_⟩) ?_
      ·rcases g4 with g4|g4
       ·exact .inl g4
       ·by_cases e:r=st
        ·exact .inl e
        ·right;rw[show(a+b) / 2+m-1-(r-1)=(a+b) / 2+m-r by omega]at g4
         simpa using g4
      ·rcases g5 with g5|g5
       ·exact .inl g5
       ·right;rw[show(a+b) / 2+m-1-r=(a+b) / 2+m-r-1 by omega]at g5
        simpa using g5
      ·intro i j hi hij hj;simp only[z0i,z4a,intlt];rw[zc7 (by omega),wsub1 (by omega) (by omega)];by_cases h:i<j
       ·rw[if_pos h,if_pos h,wsub (by omega) (by omega)];simp(disch:=omega) only[z0a,wadd1,zzk,zzb,zzh,hc,zz0,z7u];unfold ltC;by_cases g:c d[(a+b) / 2+m-1-(i+j) / 2]! d[(i+j) / 2]! <0<;>simp[g]
       ·rw[if_neg h,if_neg h]
     ·rintro s ⟨r,rfl,g2,g3,g4,g5⟩;simp only;rw[wsub (by omega) (by omega)];have hmid:r+((a+b) / 2+m-r-m)=(a+b) / 2:=by omega
      refine jn_P (G:=G) (P:=fun x=> ∃d1:Array α,x=((((a+b) / 2+m-r:Nat):Int),d1.toList)∧Sort.PermIn a b d d1∧ ∀x,d1[x]! =rotF r m ((a+b) / 2+m-r) d x) ?_ ?_
      ·rintro _ ⟨d1,rfl,p1,p2⟩;obtain⟨q1,q2,q3,q4,q5⟩:=zef hS h1 h2 ⟨by omega,by omega⟩ ⟨by omega,by omega⟩ p2 (by
        rcases g4 with g|g
        ·rcases k5 with k|k
         ·exact .inl (by omega)
         ·exact .inr (.inl (by omega))
        ·exact .inr (.inr g)) (by
        rcases g5 with g|g
        ·rcases k7 with k|k
         ·exact .inl (by omega)
         ·exact .inr (.inl (by omega))
        ·exact .inr (.inr g))
       rw[hmid]at q1 q3 q4;have s1:d1.size=d.size:=p1.1
       refine jn_P (G:=G) (P:=fun x=> ∃d2:Array α,x=d2.toList∧MergeTo (ltC c) a ((a+b) / 2) d1 d2) ?_ ?_
       ·rintro _ ⟨d2,rfl,m1⟩;have s2:d2.size=d1.size:=m1.perm.1
        have e1:Sort.SortedIn (ltC c) ((a+b) / 2) ((a+b) / 2+m-r) d2:=fun i j h1 h2 h3=>by
         rw[m1.perm.2.1 i (.inr (by omega)),m1.perm.2.1 j (.inr (by omega))];exact q4 i j h1 h2 h3
        have e2:Sort.SortedIn (ltC c) ((a+b) / 2+m-r) b d2:=fun i j h1 h2 h3=>by
         rw[m1.perm.2.1 i (.inr (by omega)),m1.perm.2.1 j (.inr (by omega))];exact q5 i j h1 h2 h3
        have fin: ∀d3:Array α,MergeTo (ltC c) ((a+b) / 2) b d2 d3→MergeTo (ltC c) a b d d3:=fun d3 m3=>zj0 hS ⟨by omega,by omega⟩ hb p1 q1 m1 m3;simp only[jn_eq,z0i,intlt];by_cases w1:(a+b) / 2<(a+b) / 2+m-r
        ·by_cases w2:(a+b) / 2+m-r<b
         ·rw[if_pos w1,if_pos w2];obtain⟨d3,t1,t2⟩:=zeu hc hC fuel ((a+b) / 2) ((a+b) / 2+m-r) b d2 w1 w2 (by omega) (by omega) (by omega) e1 e2;rw[t1];exact⟨d3,rfl,fin d3 t2⟩
         ·rw[if_pos w1,if_neg w2];rw[show(a+b) / 2+m-r=b by omega]at e1;exact⟨d2,rfl,fin d2 (zae e1)⟩
        ·rw[if_neg w1,z2y];rw[show(a+b) / 2+m-r=(a+b) / 2 by omega]at e2;exact⟨d2,rfl,fin d2 (zae e2)⟩
       ·simp only[jn_eq,z0i,intlt];by_cases w1:a<r
        ·by_cases w2:r<(a+b) / 2
         ·rw[if_pos w1,if_pos w2];obtain⟨d3,t1,t2⟩:=zeu hc hC fuel a r ((a+b) / 2) d1 w1 w2 (by omega) (by omega) (by omega) q2 q3;refine⟨_,⟨d3,rfl,t2⟩,?_⟩;rw[t1];simp only[zz0];rw[z0a (by have:=t2.perm.1;simp only[zzh];omega)]
         ·rw[if_pos w1,if_neg w2];rw[show r=(a+b) / 2 by omega]at q2;exact⟨_,⟨d1,rfl,zae q2⟩,rfl⟩
        ·rw[if_neg w1,z2y];rw[show r=a by omega]at q3;exact⟨_,⟨d1,rfl,zae q3⟩,rfl⟩
      ·simp only[jn_eq,z0i,intlt];by_cases w1:r<m
       ·by_cases w2:m<(a+b) / 2+m-r
        ·obtain⟨d1,t1,t2⟩:=zny (fuel:=fuel) (s:=r) (m:=m) (e:=(a+b) / 2+m-r) (d:=d) w1 w2 (by omega) (by omega) (by omega);refine⟨_,⟨d1,rfl,Sort.permIn_mono _ _ _ _ a b (by omega) (by omega) hb t2.perm,t2.get⟩,?_⟩;rw[if_pos w1,if_pos w2,t1,zz0];rw[z0a (by have:=t2.perm.1;simp only[zzh];omega)];simp only[intlt]
        ·rw[if_pos w1,if_neg w2];refine⟨_,⟨d,rfl,Sort.permIn_refl d a b,fun x=>?_⟩,by simp only[intlt]⟩;unfold rotF
         repeat' split
         all_goals first|omega|rfl|(congr 1;omega)
       ·rw[if_neg w1,z2y];refine⟨_,⟨d,rfl,Sort.permIn_refl d a b,fun x=>?_⟩,by simp only[intlt]⟩;unfold rotF
        repeat' split
        all_goals first|omega|rfl|(congr 1;omega)
    ·simp only[z0i,intlt];by_cases w:(a+b) / 2<m
     ·rw[if_pos w,wsub (by omega) (by omega)];exact⟨_,⟨(a+b) / 2+m-b,(a+b) / 2,rfl,by omega,by omega,by omega,by omega,by omega,by omega,.inr rfl⟩,rfl⟩
     ·rw[if_neg w];exact⟨_,⟨a,m,rfl,by omega,by omega,by omega,by omega,.inl rfl,by omega,.inl rfl⟩,rfl⟩
end
end Go.Av
namespace Go.Av
open Go
section
variable {α:Type} [Inhabited α] {cmp:α→α→Option Int} {c:α→α→Int}
theorem zad {S R:Type}{B:S→Option (Ctl S R)}(I:Nat→S→Prop)(Dn:S→Prop){n fuel:Nat}{s:S}(hf:n<fuel)(h0:I 0 s)
 (h: ∀i s,I i s→(∃s',B s=some (.next s')∧I (i+1) s'∧i<n)∨(∃s',B s=some (.brk s')∧Dn s')): ∃s',loopN B fuel s=some (.done s')∧Dn s':=by
 have key: ∀k i s fuel,i+k=n→k<fuel→I i s→ ∃s',loopN B fuel s=some (.done s')∧Dn s':=by
  intro k;induction k with
  |zero=>
   intro i s fuel hi hf hI;cases fuel with
   |zero=>omega
   |succ fuel=>
    rcases h i s hI with⟨s',_,_,g⟩|⟨s',g1,g2⟩
    ·omega
    ·exact⟨s',z57 g1,g2⟩
  |succ k ih=>
   intro i s fuel hi hf hI;cases fuel with
   |zero=>omega
   |succ fuel=>
    rcases h i s hI with⟨s',g1,g2,g⟩|⟨s',g1,g2⟩
    ·rw[z4y g1];exact ih (i+1) s' fuel (by omega) (by omega) g2
    ·exact⟨s',z57 g1,g2⟩
 exact key n 0 s fuel (by omega) hf h0
theorem z94 {lt:α→α→Bool}{a b x y:Nat}{d d':Array α}(h:Sort.SortedIn lt x y d)(hp:Sort.PermIn a b d d')(ho:y≤a∨b≤x):Sort.SortedIn lt x y d':=fun i j h1 h2 h3=>by
 rw[hp.2.1 i (by omega),hp.2.1 j (by omega)];exact h i j h1 h2 h3
theorem z9i {i j k:Nat}(h:i<j):i*k+k≤j*k:=by
 have:=Nat.mul_le_mul_right k (show i+1≤j by omega);rw[Nat.add_mul,Nat.one_mul]at this;exact this
theorem zn7 (hc: ∀x y,cmp x y=some (c x y))(hC:IsCmp c){fuel:Nat}{d:Array α}(hd:d.size<1152921504606846)(hf:4*d.size+100<fuel):
 ∃d':Array α,stabG cmp fuel (d.size:Int) d.toList=some d'.toList∧Sort.PermIn 0 d.size d d'∧Sort.SortedIn (ltC c) 0 d.size d':=by
 have hS:=zmb hC;generalize hn:d.size=n at*
 let G:Option (List α)→Prop:=fun q=> ∃d':Array α,q=some d'.toList∧Sort.PermIn 0 n d d'∧Sort.SortedIn (ltC c) 0 n d'
 unfold stabG;refine za1 (G:=G) (P:=fun s=> ∃(i:Nat) (d1:Array α),s=(((i*20:Nat):Int),((i*20+20:Nat):Int),d1.toList)∧i*20≤n∧n<i*20+20∧Sort.PermIn 0 n d d1∧ ∀j,j<i→Sort.SortedIn (ltC c) (j*20) (j*20+20) d1) ?_ ?_
 ·refine zad (I:=fun i s=> ∃d1:Array α,s=(((i*20:Nat):Int),((i*20+20:Nat):Int),d1.toList)∧i*20≤n∧Sort.PermIn 0 n d d1∧ ∀j,j<i→Sort.SortedIn (ltC c) (j*20) (j*20+20) d1) (n:=n) _ (by omega) ⟨d,by rfl,by omega,Sort.permIn_refl d 0 n,fun j hj=>by omega⟩ ?_;rintro i _ ⟨d1,rfl,k1,k2,k3⟩;have s1:d1.size=n:=k2.1.trans hn
  simp only[z0i,intle];by_cases h:i*20+20≤n
  ·left;obtain⟨p1,p2⟩:=Sort.insertionSort_holds hS d1 (i*20) (i*20+20) (by omega) (by omega);refine⟨_,?_,⟨Sort.insertionSort (ltC c) d1 (i*20) (i*20+20),rfl,by omega,Sort.permIn_trans _ _ _ 0 n k2 (Sort.permIn_mono _ _ _ _ 0 n (by omega) (by omega) (by omega) p1),?_⟩,by omega⟩
   ·rw[if_pos h,zkc hc (by omega) (by omega) (by omega) (by omega)];simp only[zz0];rw[z0a (by have:=p1.1;simp only[zzh];omega),show(20:Int)=((20:Nat):Int)from rfl,wadd (by omega)];rw[show(i+1)*20=i*20+20 by omega]
   ·intro j hj;by_cases e:j=i
    ·subst e;exact p2
    ·exact z94 (k3 j (by omega)) p1 (by have:=z9i (k:=20) (show j<i by omega);omega)
  ·right;rw[if_neg h];exact⟨_,rfl,i,d1,rfl,k1,by omega,k2,k3⟩
 ·rintro _ ⟨i,d1,rfl,k1,k2,k3,k4⟩;have s1:d1.size=n:=k3.1.trans hn
  simp only;obtain⟨p1,p2⟩:=Sort.insertionSort_holds hS d1 (i*20) n (by omega) (by omega);rw[zkc hc (by omega) (by omega) (by omega) (by omega)];simp only[zz0];rw[z0a (by have:=p1.1;simp only[zzh];omega)];generalize hd2:Sort.insertionSort (ltC c) d1 (i*20) n=d2 at p1 p2;have q1:Sort.PermIn 0 n d d2:=Sort.permIn_trans _ _ _ 0 n k3 (Sort.permIn_mono _ _ _ _ 0 n (by omega) (by omega) (by omega) p1)
  have q2: ∀j,Sort.SortedIn (ltC c) (j*20) (min (j*20+20) n) d2:=fun j=>by
   by_cases e:j<i
   ·have:=z9i (k:=20) e;rw[show min (j*20+20) n=j*20+20 by omega];exact z94 (k4 j e) p1 (by omega)
   ·by_cases e2:j=i
    ·subst e2;rw[show min (j*20+20) n=n by omega];exact p2
    ·exact z7p (by omega)
  refine za1 (G:=G) (P:=fun s=> ∃(x:Int) (d3:Array α),s=(x,d3.toList)∧Sort.PermIn 0 n d d3∧Sort.SortedIn (ltC c) 0 n d3) ?_ ?_
  ·refine zad (I:=fun r s=> ∃(k:Nat) (d3:Array α),s=((k:Int),d3.toList)∧r+20≤k∧k≤2*n+20∧Sort.PermIn 0 n d d3∧ ∀j,Sort.SortedIn (ltC c) (j*k) (min (j*k+k) n) d3) (n:=n) _ (by omega) ⟨20,d2,by rfl,by omega,by omega,q1,q2⟩ ?_;rintro r _ ⟨k,d3,rfl,g1,g2,g3,g4⟩;have s3:d3.size=n:=g3.1.trans hn
   simp only[z0i,intlt];by_cases h:k<n
   ·left;rw[if_pos h]
    let G2:Option (Ctl (Int×List α) Empty)→Prop:=fun q=> ∃s',q=some (.next s')∧(∃(k:Nat) (d3:Array α),s'=((k:Int),d3.toList)∧r+1+20≤k∧k≤2*n+20∧Sort.PermIn 0 n d d3∧ ∀j,Sort.SortedIn (ltC c) (j*k) (min (j*k+k) n) d3)∧r<n
    refine za1 (G:=G2) (P:=fun s=> ∃(i:Nat) (d4:Array α),s=(((i*(2*k):Nat):Int),((i*(2*k)+2*k:Nat):Int),d4.toList)∧i*(2*k)≤n∧n<i*(2*k)+2*k∧Sort.PermIn 0 n d d4∧(∀j,j<i→Sort.SortedIn (ltC c) (j*(2*k)) (j*(2*k)+2*k) d4)∧ ∀j,i*(2*k)≤j*k→Sort.SortedIn (ltC c) (j*k) (min (j*k+k) n) d4) ?_ ?_
    ·rw[wtwo (by omega)];refine zad (I:=fun i s=> ∃d4:Array α,s=(((i*(2*k):Nat):Int),((i*(2*k)+2*k:Nat):Int),d4.toList)∧i*(2*k)≤n∧i≤i*(2*k)∧Sort.PermIn 0 n d d4∧(∀j,j<i→Sort.SortedIn (ltC c) (j*(2*k)) (j*(2*k)+2*k) d4)∧ ∀j,i*(2*k)≤j*k→Sort.SortedIn (ltC c) (j*k) (min (j*k+k) n) d4) (n:=n) _ (by omega) ⟨d3,by simp,by omega,by omega,g3,fun j hj=>by omega,fun j _=>g4 j⟩ ?_;rintro i _ ⟨d4,rfl,f1,f0,f2,f3,f4⟩;have s4:d4.size=n:=f2.1.trans hn
     have e1:(2*i)*k=i*(2*k):=by rw[Nat.mul_comm 2 i,Nat.mul_assoc]
     have e2:(2*i+1)*k=i*(2*k)+k:=by rw[Nat.add_mul,Nat.one_mul,e1]
     have e3:(i+1)*(2*k)=i*(2*k)+2*k:=by rw[Nat.add_mul,Nat.one_mul]
     have t1:=f4 (2*i) (by omega);have t2:=f4 (2*i+1) (by omega)
     rw[e1]at t1;rw[e2]at t2;generalize hp:i*(2*k)=p at*;simp only[z0i,intle];by_cases h2:p+2*k≤n
     ·left;rw[if_pos h2,wadd (by omega)];rw[show min (p+k) n=p+k by omega]at t1;rw[show min (p+k+k) n=p+2*k by omega]at t2;obtain⟨d5,u1,u2⟩:=zeu hc hC fuel p (p+k) (p+2*k) d4 (by omega) (by omega) (by omega) (by omega) (by omega) t1 t2;refine⟨_,?_,⟨d5,rfl,by omega,by omega,Sort.permIn_trans _ _ _ 0 n f2 (Sort.permIn_mono _ _ _ _ 0 n (by omega) (by omega) (by omega) u2.perm),?_,?_⟩,by omega⟩
      ·rw[u1];simp only[zz0];rw[z0a (by have:=u2.perm.1;simp only[zzh];omega),wadd (by omega),e3]
      ·intro j hj;by_cases e:j=i
       ·subst e;rw[hp];exact u2.sorted
       ·have:=z9i (k:=2*k) (show j<i by omega);exact z94 (f3 j (by omega)) u2.perm (.inl (by omega))
      ·intro j hj;exact z94 (f4 j (by omega)) u2.perm (.inr (by omega))
     ·right;rw[if_neg h2];exact⟨_,rfl,i,d4,by rw[hp],by omega,by omega,f2,f3,by rw[hp];exact f4⟩
    ·rintro _ ⟨i,d4,rfl,f1,f1',f2,f3,f4⟩;have s4:d4.size=n:=f2.1.trans hn
     have e1:(2*i)*k=i*(2*k):=by rw[Nat.mul_comm 2 i,Nat.mul_assoc]
     have e2:(2*i+1)*k=i*(2*k)+k:=by rw[Nat.add_mul,Nat.one_mul,e1]
     have t1:=f4 (2*i) (by omega);have t2:=f4 (2*i+1) (by omega)
     rw[e1]at t1;rw[e2]at t2;have e4: ∀j,i<j→n≤j*(2*k):=fun j hj=>by have:=z9i (k:=2*k) hj;omega
     generalize hp:i*(2*k)=p at*;simp only;refine jn_P (G:=G2) (P:=fun l=> ∃d5:Array α,l=d5.toList∧Sort.PermIn 0 n d d5∧ ∀j,Sort.SortedIn (ltC c) (j*(2*k)) (min (j*(2*k)+2*k) n) d5) ?_ ?_
     ·rintro _ ⟨d5,rfl,u1,u2⟩;refine⟨_,rfl,⟨2*k,d5,?_,by omega,by omega,u1,u2⟩,by omega⟩;rw[show(k:Int)*2=2*(k:Int)by omega,wtwo (by omega)]
     ·simp only[z0i];rw[wadd (by omega)];simp only[intlt];by_cases h2:p+k<n
      ·rw[if_pos h2];rw[show min (p+k) n=p+k by omega]at t1;rw[show min (p+k+k) n=n by omega]at t2;obtain⟨d5,u1,u2⟩:=zeu hc hC fuel p (p+k) n d4 (by omega) (by omega) (by omega) (by omega) (by omega) t1 t2;refine⟨_,⟨d5,rfl,Sort.permIn_trans _ _ _ 0 n f2 (Sort.permIn_mono _ _ _ _ 0 n (by omega) (by omega) (by omega) u2.perm),fun j=>?_⟩,?_⟩
       ·by_cases e:j<i
        ·have:=z9i (k:=2*k) e;rw[show min (j*(2*k)+2*k) n=j*(2*k)+2*k by omega];exact z94 (f3 j e) u2.perm (.inl (by omega))
        ·by_cases e5:j=i
         ·subst e5;rw[hp,show min (p+2*k) n=n by omega];exact u2.sorted
         ·have:=e4 j (by omega);exact z7p (by omega)
       ·rw[u1];simp only[zz0];rw[z0a (by have:=u2.perm.1;simp only[zzh];omega)]
      ·rw[if_neg h2];refine⟨_,⟨d4,rfl,f2,fun j=>?_⟩,rfl⟩;by_cases e:j<i
       ·have:=z9i (k:=2*k) e;rw[show min (j*(2*k)+2*k) n=j*(2*k)+2*k by omega];exact f3 j e
       ·by_cases e5:j=i
        ·subst e5;rw[hp,show min (p+2*k) n=n by omega];rw[show min (p+k) n=n by omega]at t1;exact t1
        ·have:=e4 j (by omega);exact z7p (by omega)
   ·right;rw[if_neg h];have:=g4 0
    rw[Nat.zero_mul,show min (0+k) n=n by omega]at this;exact⟨_,rfl,_,d3,rfl,g3,this⟩
  ·rintro _ ⟨x,d3,rfl,u1,u2⟩;exact⟨d3,rfl,u1,u2⟩
theorem zd5 (hc: ∀x y,cmp x y=some (c x y))(hC:IsCmp c){fuel:Nat}{l:List α}(hd:l.length<1152921504606846)(hf:4*l.length+100<fuel):
 ∃r:List α,stabG cmp fuel (l.length:Int) l=some r∧r.Perm l∧ ∀i j,i<j→j<r.length→c (r.getD i zzd) (r.getD j zzd)≤0:=by
 obtain⟨d',h1,h2,h3⟩:=zn7 hc hC (d:=l.toArray) (fuel:=fuel) (by simpa using hd) (by simpa using hf);have hs:d'.size=l.length:=by have:=h2.1;simpa using this
 refine⟨d'.toList,by simpa using h1,?_,fun i j hij hj=>?_⟩
 ·have:=h2.2.2;simp only[List.size_toArray]at this;rw[show d'.extract 0 l.length=d' by rw[←hs];simp,show l.toArray.extract 0 l.length=l.toArray by simp]at this;exact this
 ·rw[zzh]at hj;have:=h3 i j (by omega) hij (by simpa [hs]using hj)
  rw[z7u,z7u];unfold ltC at this;have a1:=hC.anti d'[i]! d'[j]!
  simp only[decide_eq_false_iff_not]at this;omega
end
end Go.Av
namespace Go.Av
open Go
def cmpV (a b:Value):Int:=if a.isText=b.isText then(if a.isText then cmpS a.s b.s else cmpZ a.n b.n)else(if a.isText then 1 else -1)
theorem z8i:IsCmp cmpV where
 vals a b:=by
  unfold cmpV;split
  ·split
   ·exact zeq.vals _ _
   ·exact z9f.vals _ _
  ·split<;>simp
 anti a b:=by
  unfold cmpV;cases a.isText<;>cases b.isText<;>simp
  ·exact z9f.anti _ _
  ·exact zeq.anti _ _
 tr a b d:=by
  unfold cmpV;cases a.isText<;>cases b.isText<;>cases d.isText<;>simp
  ·exact z9f.tr _ _ _
  ·exact zeq.tr _ _ _
theorem zma (a b:ByteArray):(strLt a b||strEq a b)=decide (cmpS a b≤0):=by
 rw[zi0,zhz,Bool.eq_iff_iff];simp;omega
theorem zhl (x y:Int):z6h x y=some (cmpZ x y):=by
 unfold z6h z7c cmpZ;simp only[decide_true,Bool.not_true,zz0,z2y,z0i];split<;>(try split)<;>rfl
theorem zjp (x y:Int):z5x x y=some (cmpZ x y):=by
 unfold z5x z6j cmpZ;simp only[decide_true,Bool.not_true,zz0,z2y,z0i];split<;>(try split)<;>rfl
theorem zim (x y:ByteArray):z5l x y=some (cmpS x y):=by
 unfold z5l z63;simp only[zl5,Bool.not_true,zz0,z2y];rw[zma,zi0];simp only[z4a,z0i];rcases zeq.vals x y with h|h|h<;>simp[h]
theorem zgx (a b:Value):z7d a b=some (cmpV a b):=by
 unfold z7d z99 cmpV;simp only[zhl,zim,zjp,z4a];cases a.isText<;>cases b.isText<;>simp[zhl,cmpZ]
theorem z73 (a b:List Value):z3o a b=some (cmpL cmpV a b):=by
 unfold z3o z0f;rw[zng (c:=cmpV)]
 ·rfl
 ·intro i hi;simp only[zgx,zz0,z0i,z4a,Int.ofNat_le];split
  ·rfl
  ·rw[z0a (by omega)]
 ·simp only[z0i,Int.ofNat_lt];split<;>rfl
def z4z (v:Value):Bool:=if v.isText then decide (v.n=0) && decide (v.s.size≤64)else strEq v.s (bs [])
def okRow (p:List Value):Bool:=decide (p.length≤8) && p.all z4z
theorem zmy (v:Value):z88 v=some (z4z v):=by
 unfold z88 z4z;have e:((v.s.size:Int)≤64)↔v.s.size≤64:=by omega
 cases v.isText<;>by_cases h:v.n=0<;>simp[h,e]
theorem zgg {S R X:Type}[Inhabited X]{B:Nat→S→Option (Ctl S R)}{l:List X}(P:X→Bool)(f:Nat→R){s:S}
 (hB: ∀i,i<l.length→B i s=if P (l.getD i zzd)then some (.ret (f i))else some (.next s)):
 (l.any P=false∧z0m B l.length 0 s=some (.done s))∨(l.any P=true∧ ∃i,i<l.length∧P (l.getD i zzd)=true∧z0m B l.length 0 s=some (.ret (f i))):=by
 have key: ∀k i,i+k=l.length→((l.drop i).any P=false∧z0m B k i s=some (.done s))∨((l.drop i).any P=true∧ ∃j,j<l.length∧P (l.getD j zzd)=true∧z0m B k i s=some (.ret (f j))):=by
  intro k;induction k with
  |zero=>intro i hi;left;rw[List.drop_eq_nil_of_le (by omega:l.length≤i)];exact⟨rfl,rfl⟩
  |succ k ih=>
   intro i hi;rw[z42 (by omega:i<l.length)];simp only[z0m,hB i (by omega),List.any_cons];by_cases h:P (l.getD i zzd)=true
   ·rw[if_pos h];right;exact⟨by rw[h];rfl,i,by omega,h,rfl⟩
   ·rw[if_neg h];have hf:P (l.getD i zzd)=false:=by simpa using h
    rw[hf,Bool.false_or];exact ih (i+1) (by omega)
 have:=key l.length 0 (by omega);rwa[List.drop_zero]at this
theorem zda (p:List Value):(p.any fun v=> !z4z v)= !(p.all z4z):=by
 rw[List.any_eq_not_all_not];simp
theorem za9 (p:List Value):z6s p=some (if okRow p then 0 else 4):=by
 unfold z6s z0x z10 z8b okRow;simp only[jn_eq,z0i,zmy,zz0];by_cases h:8<(p.length:Int)
 ·rw[if_pos h,decide_eq_false (by omega: ¬p.length≤8)];rfl
 ·rw[if_neg h,decide_eq_true (by omega:p.length≤8)];rcases zgg (S:=Unit) (R:=Int) (l:=p) (fun v=> !z4z v) (fun i=>(i:Int)) (s:=()) (B:=fun i1 a2=>bf (!z4z (p.getD i1 zzd)) (some (.ret ((i1:Nat):Int))) (some (.next ()))) (fun i hi=>by
   cases z4z (p.getD i zzd)<;>rfl)with⟨h1,h2⟩|⟨h1,i,_,_,h2⟩
  ·rw[h2];rw[zda]at h1;have:p.all z4z=true:=by simpa using h1
   simp[this]
  ·rw[h2];rw[zda]at h1;have:p.all z4z=false:=by simpa using h1
   simp[this,Int.natCast_nonneg]
theorem zf3 {a b:Value}:z8k a b=true↔a=b:=by
 rcases a with⟨t,n,s⟩;rcases b with⟨t',n',s'⟩;simp[z8k,zem]
theorem znz (a b:List Value): ∃r,z45 a b=some r∧(r=true↔a=b):=by
 unfold z45;by_cases hl:a.length=b.length
 ·rw[decide_eq_true (by omega:(a.length:Int)=(b.length:Int))];simp only[Bool.not_true,z2y];have key: ∀k i,i+k=a.length→ ∃r,outK (z0m (S:=Unit) (R:=Bool) (fun i1 (a2:Unit)=>need ((0:Int)≤((i1:Nat):Int)∧((i1:Nat):Int)<(b.length:Int))<|bf (!(z8k (a.getD i1 zzd) (b.getD i1 zzd))) (some (.ret false)) (some (.next ()))) k i ()) (fun(a3:Unit)=>some true) (fun x=>some x)=some r∧(r=true↔a.drop i=b.drop i):=by
   intro k;induction k with
   |zero=>
    intro i hi;refine⟨true,rfl,?_⟩;rw[List.drop_eq_nil_of_le (by omega:a.length≤i),List.drop_eq_nil_of_le (by omega:b.length≤i)];simp
   |succ k ih=>
    intro i hi;simp only[z0m];rw[z0a (by omega),z42 (by omega:i<a.length),z42 (by omega:i<b.length)];by_cases he:z8k (a.getD i zzd) (b.getD i zzd)=true
    ·rw[he];obtain⟨r,h1,h2⟩:=ih (i+1) (by omega);refine⟨r,h1,?_⟩;rw[h2,zf3.1 he];simp
    ·have he':z8k (a.getD i zzd) (b.getD i zzd)=false:=by simpa using he
     rw[he'];refine⟨false,rfl,?_⟩;simp only[Bool.false_eq_true,false_iff,List.cons.injEq,not_and];intro h;exact absurd (zf3.2 h) he
  obtain⟨r,h1,h2⟩:=key a.length 0 (by omega);exact⟨r,h1,by simpa using h2⟩
 ·rw[decide_eq_false (by omega: ¬(a.length:Int)=(b.length:Int))];exact⟨false,rfl,by simp;intro h;exact hl (by rw[h])⟩
theorem zm6 (a:List Value):z45 a a=some true:=by
 obtain⟨r,h1,h2⟩:=znz a a;rw[h1,h2.2 rfl]
theorem zlg {a b:Value}(ha:z4z a=true)(hb:z4z b=true):cmpV a b=0↔a=b:=by
 rcases a with⟨t,n,s⟩;rcases b with⟨t',n',s'⟩;unfold cmpV z4z at*;cases t<;>cases t'<;>simp[zlf,zhp,zem]at*
 ·intro _;rw[ha,hb]
 ·intro h;omega
theorem zap: ∀{a b:List Value},a.all z4z=true→b.all z4z=true→(cmpL cmpV a b=0↔a=b)
 |[],[],_,_=>by simp[cmpL]
 |[],_::_,_,_=>by simp[cmpL]
 |_::_,[],_,_=>by simp[cmpL]
 |x::a,y::b,ha,hb=>by
  simp only[List.all_cons,Bool.and_eq_true]at ha hb;have h1:=zlg ha.1 hb.1
  have h2:=zap ha.2 hb.2;simp only[cmpL,thenC];split
  ·rename_i h;rw[h2,h1.1 h];simp
  ·rename_i h
   constructor
   ·intro g;exact absurd g h
   ·intro g;exact absurd (h1.2 (List.cons.inj g).1) h
theorem z6n {p:List Value}(h:okRow p=true):p.all z4z=true∧p.length≤8:=by
 unfold okRow at h;simp only[Bool.and_eq_true,decide_eq_true_eq]at h;exact⟨h.2,h.1⟩
end Go.Av
namespace Go.Av
open Go
def z4p (t:Time):Prop:=0≤t.epoch∧0≤t.loop.1∧0≤t.loop.2
def lub2 (a x:Time):Time:=⟨if a.epoch<x.epoch then x.epoch else a.epoch,(if a.loop.1<x.loop.1 then x.loop.1 else a.loop.1,if a.loop.2<x.loop.2 then x.loop.2 else a.loop.2)⟩
def zeroT:Time:=⟨0,(0,0)⟩
def lubL (l:List Time):Time:=l.foldl lub2 zeroT
theorem max0 {a:Int}(h:0≤a):a=if 0<a then a else 0:=by
 by_cases h1:0<a
 ·rw[if_pos h1]
 ·rw[if_neg h1];omega
theorem zg1 {l:List Time}(hl: ∀x∈l,z4p x):z31 l=some (lubL l):=by
 unfold z31;rw[z79 (lubL l) (fun i a=>a=lubL (l.take i)) (fun s h=>by rw[h,List.take_length])]
 ·rfl
 ·intro i a hi ha;refine⟨_,?_,rfl⟩;rw[z5f hi];have hx:=hl _ (z77 hi)
  generalize l.getD i zzd=x at*;simp only[lubL,List.foldl_append,List.foldl_cons,List.foldl_nil];rw[←lubL,←ha];simp only[jn_eq,z0m,z5v,zz0,z0i];rcases Nat.eq_zero_or_pos i with h0|h0
  ·subst h0;simp[lubL]at ha;subst ha;obtain⟨x1,x2,x3⟩:=hx;simp[outK,lub2,zeroT];exact⟨max0 x1,max0 x2,max0 x3⟩
  ·rw[if_neg (by omega)];simp[outK,lub2]
 ·rfl
theorem mx_eq (a b:Int):(if a<b then b else a)=max a b:=by split<;>omega
theorem zmf {x:Time}(h:z4p x):lub2 zeroT x=x:=by
 obtain⟨h1,h2,h3⟩:=h;simp only[lub2,mx_eq,zeroT];refine Time.ext' ?_ ?_ ?_<;>simp only<;>omega
theorem zmp {x y:Time}(hx:z4p x):lubL [x,y]=lub2 x y:=by
 simp[lubL,zmf hx]
def leT (a b:Time):Bool:=decide (a.epoch≤b.epoch) && (decide (a.loop.1≤b.loop.1) && decide (a.loop.2≤b.loop.2))
theorem ziz (a:Time):leT a a=true:=by simp[leT]
theorem zhv {a b c:Time}(h:leT a b=true)(g:leT b c=true):leT a c=true:=by
 simp only[leT,Bool.and_eq_true,decide_eq_true_eq]at*;omega
theorem znn {a b:Time}:leT a b=true↔a.epoch≤b.epoch∧a.loop.1≤b.loop.1∧a.loop.2≤b.loop.2:=by simp[leT]
theorem zgc (u v w:Int):z6i [u,v,w]=some (thenC u (thenC v w)):=by
 unfold z6i thenC;simp only[List.length_cons,List.length_nil,zzb,Nat.reduceAdd,z0m,z0i,z4a];by_cases h1:u=0<;>by_cases h2:v=0<;>by_cases h3:w=0<;>simp[outK,h1,h2,h3]
theorem zoi (u v w:Int):z2z [u,v,w]=some (thenC u (thenC v w)):=zgc u v w
theorem zly (u v:Int):z2z [u,v]=some (thenC u v):=zlx u v
theorem zbz:IsCmp cmpT where
 vals a b:=by rcases zku a b with h|h|h<;>omega
 anti a b:=by have:=zhm a b;omega
 tr a b d:=by
  have e: ∀a b:Time,cmpT a b=thenC (cmpZ a.epoch b.epoch) (thenC (cmpZ a.loop.1 b.loop.1) (cmpZ a.loop.2 b.loop.2)):=fun a b=>by
   unfold cmpT thenC cmpZ
   repeat' split
   all_goals omega
  have h:=(z9f.on fun t:Time=>t.epoch).lex ((z9f.on fun t:Time=>t.loop.1).lex (z9f.on fun t:Time=>t.loop.2));rw[e,e,e];exact h.tr a b d
theorem       zhn {a b : Time} : cmpT a b = 0 ↔ a = b := by
  constructor
  · intro h
    unfold cmpT at h
    refine Time.ext' ?_ ?_ ?_ <;> · revert h; repeat' split
                                    all_goals omega
  · rintro rfl; exact     zbz.refl a
def okT (t:Time):Bool:=decide (t.epoch≤4611686018427387904) && (decide (t.loop.1≤4611686018427387904) && decide (t.loop.2≤4611686018427387904))
theorem zns {fuel:Nat}(hf:5<fuel)(a b:Int):z2p fuel [a,b]=some (if a<b then b else a):=by
 unfold z2p;obtain⟨f,rfl⟩: ∃f,fuel=f+2:=⟨fuel-2,by omega⟩;have w:zzi.wrap 2=2:=by rw[z3a (by omega) (by omega)]
 simp[loopN,outK,need,bf,w]
theorem zha {fuel:Nat}(hf:5<fuel)(t:Time):z5o fuel [t]=some (if okT t then 0 else 1):=by
 unfold z5o okT;simp only[List.length_cons,List.length_nil,zzb,z0m,List.getD_cons_zero,zns hf,zz0,z0i,mx_eq];by_cases h:4611686018427387904<max t.epoch (max t.loop.1 t.loop.2)
 ·rw[if_pos h];simp only[outK];rw[if_neg (by simp only[Bool.and_eq_true,decide_eq_true_eq];omega)]
 ·rw[if_neg h];simp only[outK];rw[if_pos (by simp only[Bool.and_eq_true,decide_eq_true_eq];omega)]
end Go.Av
namespace Go.Av
open Go
section
variable {α X Y:Type}
inductive R2 (r:X→Y→Prop):List X→List Y→Prop
 |nil:R2 r [] []
 |cons {x:X} {y:Y} {a:List X} {b:List Y} (h:r x y) (t:R2 r a b):R2 r (x::a) (y::b)
theorem R2.len {r:X→Y→Prop}{a:List X}{b:List Y}(h:R2 r a b):a.length=b.length:=by induction h<;>simp_all
theorem R2.app {r:X→Y→Prop}{a a':List X}{b b':List Y}(h:R2 r a b)(h':R2 r a' b'):R2 r (a++a') (b++b'):=by
 induction h with
 |nil=>exact h'
 |cons h _ ih=>exact .cons h ih
theorem R2.split {r:X→Y→Prop}: ∀{b b':List Y} {a:List X},R2 r a (b++b')→ ∃a1 a2,a=a1++a2∧R2 r a1 b∧R2 r a2 b'
 |[],b',a,h=>⟨[],a,rfl,.nil,h⟩
 |y::b,b',_,h=>by
  cases h with
  |cons h t=>
   obtain⟨a1,a2,rfl,h1,h2⟩:=R2.split t;exact⟨_::a1,a2,rfl,.cons h h1,h2⟩
theorem R2.get [Inhabited X][Inhabited Y]{r:X→Y→Prop}{a:List X}{b:List Y}(h:R2 r a b): ∀{i:Nat},i<b.length→r (a.getD i zzd) (b.getD i zzd):=by
 induction h with
 |nil=>intro i hi;simp at hi
 |cons h _ ih=>
  intro i hi;cases i with
  |zero=>exact h
  |succ i=>exact ih (by simpa using hi)
theorem R2.one {r:X→Y→Prop}{x:X}{y:Y}(h:r x y):R2 r [x] [y]:= .cons h .nil
theorem zmx {S R Q:Type}{G:Option Q→Prop}{B:Nat→S→Option (Ctl S R)}{n:Nat}{s:S}{kn:S→Option Q}{kr:R→Option Q}(I:Nat→S→Prop)(D:S→Prop)(J:R→Prop)(h0:I 0 s)(hD: ∀s,I n s→D s)(hk: ∀s,D s→G (kn s))(hr: ∀r,J r→G (kr r))
 (hs: ∀i s,i<n→I i s→(∃s',B i s=some (.next s')∧I (i+1) s')∨(∃s',B i s=some (.brk s')∧D s')∨ ∃r,B i s=some (.ret r)∧J r):G (outK (z0m B n 0 s) kn kr):=by
 rcases zjx I D J h0 hs hD with⟨s',h1,h2⟩|⟨r,h1,h2⟩
 ·rw[h1];exact hk s' h2
 ·rw[h1];exact hr r h2
theorem zhs [Inhabited X](a:List X)(x:X):(a++[x]).getD a.length zzd=x:=by simp[List.getD_eq_getElem?_getD]
theorem zo1 (a b:List X)(x y:X):(a++x::b).set a.length y=a++y::b:=by simp[List.set_append]
def PR (num:α→Int)(l:List α):List (α×Int):=l.map fun x=>(x,num x)
theorem zhh (num:α→Int)(l l':List α):PR num (l++l')=PR num l++PR num l':=by simp[PR]
theorem zfp {num:α→Int}{l:List α}{p:α×Int}:p∈PR num l↔ ∃x∈l,(x,num x)=p:=by simp[PR]
theorem zjg {c:α→α→Int}{y:α}: ∀{l:List (α×Int)},(∀p∈l,in64 p.2)→ -9223372036854775808*(l.length:Int)≤sm c l y∧sm c l y≤9223372036854775808*(l.length:Int)
 |[],_=>by simp[sm]
 |p::l,h=>by
  have h1:=zjg (c:=c) (y:=y) (l:=l) fun q hq=>h q (zz7 _ hq);have h2:=h p (zz4 ..)
  unfold in64 at h2;simp only[sm,List.length_cons];split<;>omega
theorem zfl {c:α→α→Int}{num:α→Int}{put:α→Int→α}{l l':List (α×Int)}{R:List α}{e:Int}(hp:l.Perm l')(h:Tot c num put l R e):Tot c num put l' R e:=by
 have hs: ∀y,sm c l y=sm c l' y:=zkk hp;rcases h with⟨h1,h2,h3⟩|⟨h1,h2,h3⟩
 ·refine .inl ⟨h1,⟨h2.strict,fun r hr=>?_,fun r hr=>?_,fun y hy hn=>?_⟩,fun y=>?_⟩
  ·rw[←hs];exact h2.sum r hr
  ·obtain⟨y,g1,g2⟩:=h2.mem r hr;exact⟨y,hp.mem_iff.1 g1,g2⟩
  ·exact h2.all y (hp.mem_iff.2 hy) (by rw[hs];exact hn)
  ·rw[←hs];exact h3 y
 ·refine .inr ⟨h1,h2,fun h=>h3 fun y=>?_⟩;rw[hs];exact h y
theorem zlq (put:α→Int→α)(S S':List (α×Int)):left0 put (S++S')=left0 put S++left0 put S':=by simp[left0]
theorem zlr (put:α→Int→α)(p:α×Int):left0 put [p]=if p.2=0 then[]else[put p.1 p.2]:=by
 unfold left0;by_cases h:p.2=0<;>simp[h]
theorem zhw (put:α→Int→α)(S:List (α×Int)):(left0 put S).length≤S.length:=by
 unfold left0;rw[List.length_map];exact List.length_filter_le _ _
def fit64 (s:Int):Int×Int:=if -9223372036854775808≤s∧s<9223372036854775808 then(s,0)else(0,10)
theorem zcu {s:Int}(h:in64 s):fit64 s=(s,0):=if_pos h
theorem zbc {s:Int}(h: ¬in64 s):fit64 s=(0,10):=if_neg h
def repT (t:Tally)(s:Int):Prop:=inU64 t.high∧inU64 t.low∧(t.high*18446744073709551616+t.low-s) % 340282366920938463463374607431768211456=0
end
end Go.Av
namespace Go.Av
open Go
def cU (a b:Update):Int:=thenC (cmpL cmpV a.key b.key) (thenC (cmpL cmpV a.row b.row) (cmpT a.time b.time))
theorem cU_is:IsCmp cU:=(z8i.list.on fun u:Update=>u.key).lex ((z8i.list.on fun u:Update=>u.row).lex (zbz.on fun u:Update=>u.time))
theorem z7i (a b:Update):z2h a b=some (cU a b):=by
 unfold z2h cU;simp only[z73,zaa,zgc,zz0]
def z46 (x:Update)(n:Int):Update:=⟨x.key,x.row,x.time,n⟩
theorem zl2 {x:Update}{n:Int}(h:x.row.length≤8):z6l x n=some (z46 x n):=rfl
def za3 (x:Line_Update)(p:Update×Int):Prop:=x.of=p.1∧repT x.tally p.2
theorem zkr {a:List Line_Update}{x:Line_Update}{p s:Int}(hp:in64 p)(h:repT x.tally s):
 ∃t:Tally,z3v a.length p (a++[x])=some (a++[(⟨t,x.of⟩:Line_Update)])∧repT t (s+p):=by
 obtain⟨hh,hl,hs⟩:=h;unfold in64 inU64 repT at*;unfold z3v z8v;simp only[zhs,zo1,zzf,zzj,List.length_singleton,shr63 hp,z8h];rw[z0a (by omega),z0a (by omega)];simp only[zz0];rw[z0a (by omega),z0a (by omega),z0a (by split<;>omega)];simp only[zz0];rw[z0a (by omega)];refine⟨_,rfl,?_,?_,?_⟩
 ·simp only[inU64];omega
 ·simp only[inU64];omega
 ·simp only;split<;>omega
theorem zkx {x:Line_Update}{s:Int}(h:repT x.tally s)(hb: -85070591730234615865843651857942052864≤s∧s≤85070591730234615865843651857942052864):z3w x=some ((fit64 s).1,(fit64 s).2,x):=by
 obtain⟨hh,hl,hs⟩:=h;unfold inU64 at*;have hw:in64 (zzi.wrap x.tally.low):=by unfold in64;rw[zd8];split<;>omega
 unfold z3w;rw[shr63 hw,z8h];by_cases h: -9223372036854775808≤s∧s<9223372036854775808
 ·rw[zcu h];have e1:zzi.wrap x.tally.low=s:=by rw[zd8];split<;>omega
  rw[e1];have e2:x.tally.high=(if s<0 then(-1:Int)else 0) % 18446744073709551616:=by split<;>omega
  rw[decide_eq_true e2];rfl
 ·rw[zbc h];have e2: ¬x.tally.high=(if zzi.wrap x.tally.low<0 then(-1:Int)else 0) % 18446744073709551616:=by
   rw[zd8];split<;>split<;>omega
  rw[decide_eq_false e2];rfl
theorem zm4:z26=rotG (α:=Update):=rfl
theorem zlp:z1d=insG (α:=Update) z2h:=rfl
theorem zi2: ∀(fuel:Nat) (a b d:Int) (l:List Update),z0n fuel a b d l=symG (α:=Update) z2h fuel a b d l
 |0,_,_,_,_=>rfl
 |fuel+1,a,b,d,l=>by
  unfold z0n symG;simp only[zm4,zi2 fuel]
theorem zgu (fuel:Nat)(n:Int)(l:List Update):z1p fuel n l=stabG (α:=Update) z2h fuel n l:=by
 unfold z1p stabG;simp only[zlp,zi2]
theorem zk1 {fuel:Nat}{l:List Update}(hl: ∀x∈l,in64 x.diff)(hr: ∀x∈l,x.row.length≤8)(hn:l.length≤8000000000)(hf:40000000000≤fuel):
 ∃R e l',z0o fuel l=some (R,e,l')∧Tot cU (fun x=>x.diff) z46 (PR (fun x=>x.diff) l) R e∧R.length≤l.length:=by
 obtain⟨r1,h1,h2,h3⟩:=zd5 (c:=cU) z7i cU_is (fuel:=fuel) (l:=l) (by omega) (by omega);have hlen:r1.length=l.length:=h2.length_eq
 unfold z0o z0c;rw[zgu,h1];simp only[zz0];rw[z0a hlen]
 suffices hS: ∃R e,(_:Option ((List Update)×Int×(List Update)))=some (R,e,r1)∧Tot cU (fun x=>x.diff) z46 (PR (fun x=>x.diff) r1) R e∧R.length≤r1.length by
  obtain⟨R,e,g1,g2,g3⟩:=hS;refine⟨R,e,r1,?_,zfl ?_ g2,by omega⟩
  ·exact g1
  ·exact h2.map _
 have hl1: ∀x∈r1,in64 x.diff:=fun x hx=>hl x (h2.mem_iff.1 hx);have hr1: ∀x∈r1,x.row.length≤8:=fun x hx=>hr x (h2.mem_iff.1 hx)
 refine za1 (G:=fun q=> ∃R e,q=some (R,e,r1)∧Tot cU (fun x=>x.diff) z46 (PR (fun x=>x.diff) r1) R e∧R.length≤r1.length) (P:=fun a=> ∃S,R2 za3 a S∧SS cU (PR (fun x=>x.diff) r1) S∧S.length≤r1.length) ?_ ?_
 ·have:=fun B h=>zgi (R:=Empty) (B:=B) (n:=r1.length) (fun i (a:List Line_Update)=> ∃S,R2 za3 a S∧SS cU (PR (fun x=>x.diff) (r1.take i)) S∧S.length≤i) (s:=([]:List Line_Update)) ⟨[],.nil,zop,zzc _⟩ h;simp only[List.take_length]at this;refine this _ ?_;rintro i a hi ⟨S,k1,k2,k3⟩;have hx:=hl1 _ (z77 hi)
  rw[zzb,z0a hi];have htk:PR (fun x:Update=>x.diff) (r1.take (i+1))=PR (fun x=>x.diff) (r1.take i)++[(r1.getD i zzd,(r1.getD i zzd).diff)]:=by
   rw[z5f hi,zhh];rfl
  have hle: ∀p∈S,cU p.1 (r1.getD i zzd)≤0:=fun p hp=>by
   obtain⟨y,g1,g2⟩:=k2.mem p hp;obtain⟨z,g3,g4⟩:=zfp.1 g1;obtain⟨j,hj,g5⟩:=List.mem_iff_getElem.1 g3;rw[List.length_take]at hj;have:=h3 j i (by omega) hi
   rw[←g2,←g4];simp only;rw[←g5,List.getElem_take];rw[List.getD_eq_getElem?_getD,List.getElem?_eq_getElem (by omega:j<r1.length)]at this;exact this
  generalize hxe:r1.getD i zzd=x at*;rw[htk];clear htk
  let G:Option (Ctl (List Line_Update) Empty)→Prop:=fun q=> ∃s',q=some (.next s')∧ ∃S,R2 za3 s' S∧SS cU (PR (fun x=>x.diff) (r1.take i)++[(x,x.diff)]) S∧S.length≤i+1
  refine jn_P (G:=G) (P:=fun b=> ∃(b':List Line_Update) (y:Line_Update) (S':List (Update×Int)) (s:Int),b=b'++[y]∧b.length≤i+1∧R2 za3 b' S'∧repT y.tally s∧SS cU (PR (fun x=>x.diff) (r1.take i)++[(x,x.diff)]) (S'++[(y.of,s+x.diff)])) ?_ ?_
  ·rintro _ ⟨b',y,S',s,rfl,q0,q1,q2,q3⟩;simp only[zzj,List.length_singleton]at q0 ⊢;rw[wsub1 (by omega) (by omega),z0a (by omega)];obtain⟨t,g1,g2⟩:=zkr (a:=b') (x:=y) hx q2;unfold z6k;simp only[zz0,Nat.add_sub_cancel,zzb,zzk];rw[g1];simp only[zz0];rw[z0a (by simp)];refine⟨_,rfl,_,R2.app q1 (R2.one (show za3 ⟨t,y.of⟩ (y.of,s+x.diff)from⟨rfl,g2⟩)),q3,?_⟩;have:=q1.len
   simp only[zzj,List.length_singleton];omega
  ·simp only[jn_eq,z0i];have hlen2:=k1.len
   rcases List.eq_nil_or_concat S with rfl|⟨A,p,rfl⟩
   ·have ha:a=[]:=List.eq_nil_of_length_eq_zero hlen2;subst ha;rw[if_pos (by simp),z6v,z0a (by simp)];refine⟨_,⟨[],_,[],0,rfl,by simp,.nil,by simp[repT,inU64],?_⟩,rfl⟩;have:=zm8 (A:=[]) (B:=[]) (x:=x) (n:=x.diff) cU_is k2 (fun p hp=>by cases hp) (fun p hp=>by cases hp)
    simpa using this
   ·simp only[List.concat_eq_append]at*;obtain⟨a1,a2,rfl,u1,u2⟩:=R2.split k1;cases u2 with
    | @cons y _ _ _ v t=>
     cases t;obtain⟨v1,v2⟩:=v;have e1:(a1++[y]).length=a1.length+1:=by simp
     have e2:=u1.len;simp only[zzj,List.length_singleton]at k3;rw[if_neg (by omega),e1,wsub1 (by omega) (by omega),z0a (by omega)];simp only[Nat.add_sub_cancel,zzb,zzk,zhs];rw[z0a (by omega),z7i,v1];simp only[zz0];by_cases g:cU p.1 x=0
     ·rw[decide_eq_true g];simp only[Bool.not_true,z2y];refine⟨_,⟨a1,y,A,p.2,rfl,by omega,u1,v2,?_⟩,?_⟩
      ·rw[v1];exact zoo cU_is k2 g
      ·rw[e1,wsub1 (by omega) (by omega)];simp only[Nat.add_sub_cancel,zzk]
     ·rw[decide_eq_false g];simp only[Bool.not_false,z6v];rw[z0a (by simp;omega)];refine⟨_,⟨a1++[y],_,A++[p],0,rfl,by simp;omega,k1,by simp[repT,inU64],?_⟩,rfl⟩;have:=zm8 (A:=A++[p]) (B:=[]) (x:=x) (n:=x.diff) cU_is (by simpa using k2) (fun q hq=>by
       have h4:=hle p (by simp);have h5:cU q.1 p.1≤0:=by
        rcases zz2.1 hq with hq|hq
        ·have h6:=k2.strict;rw[List.pairwise_append]at h6;have:=h6.2.2 q hq p (by simp)
         omega
        ·rw[zz9.1 hq,cU_is.refl];omega
       have h7:=cU_is.tr _ _ _ h5 h4;by_cases h8:cU q.1 x=0
       ·exfalso;have h9:cU x p.1≤0:=by rw[←cU_is.eqL p.1 h8];exact h5
        have:=cU_is.anti p.1 x;omega
       ·omega) (fun q hq=>by cases hq)
      simpa using this
 ·rintro a ⟨S,k1,k2,k3⟩;have hb: ∀i,i<S.length→ -85070591730234615865843651857942052864≤(S.getD i zzd).2∧(S.getD i zzd).2≤85070591730234615865843651857942052864:=fun i hi=>by
   rw[k2.sum _ (z77 hi)];have:=zjg (c:=cU) (y:=(S.getD i zzd).1) (l:=PR (fun x=>x.diff) r1) (fun p hp=>by
    obtain⟨z,g1,g2⟩:=zfp.1 hp;rw[←g2];exact hl1 z g1)
   have e:(PR (fun x:Update=>x.diff) r1).length=r1.length:=by simp[PR]
   rw[e]at this;omega
  have hrow: ∀i,i<S.length→(S.getD i zzd).1.row.length≤8:=fun i hi=>by
   obtain⟨y,g1,g2⟩:=k2.mem _ (z77 hi);obtain⟨z,g3,g4⟩:=zfp.1 g1;rw[←g2,←g4];exact hr1 z g3
  have hlen2:=k1.len;rw[hlen2];refine zmx (G:=fun q=> ∃R e,q=some (R,e,r1)∧Tot cU (fun x=>x.diff) z46 (PR (fun x=>x.diff) r1) R e∧R.length≤r1.length) (fun i (b:List Update)=>(∀j,j<i→in64 (S.getD j zzd).2)∧b=left0 z46 (S.take i)) (fun b=>(∀j,j<S.length→in64 (S.getD j zzd).2)∧b=left0 z46 S) (fun r=>r=([],10,r1)∧ ∃j,j<S.length∧ ¬in64 (S.getD j zzd).2) ⟨fun j hj=>by omega,rfl⟩ (fun b hb=>by
   rw[List.take_length]at hb;exact hb) ?_ ?_ ?_
  rotate_left 2
  ·rintro i b hi ⟨m1,m2⟩;obtain⟨v1,v2⟩:=k1.get hi;rw[zzb,z0a hi,zkx v2 (hb i hi)];simp only[zz0,z4a,z0i];by_cases g:in64 (S.getD i zzd).2
   ·left;rw[zcu g,v1];have hput:=zl2 (x:=(S.getD i zzd).1) (n:=(S.getD i zzd).2) (hrow i hi)
    have hlb:b.length≤i:=by
     rw[m2];have:=zhw z46 (S.take i);rw[List.length_take]at this;omega
    rw[z5f hi,zlq,zlr,←m2];have m3: ∀j,j<i+1→in64 (S.getD j zzd).2:=fun j hj=>by
     by_cases e:j=i
     ·subst e;exact g
     ·exact m1 j (by omega)
    by_cases g2:(S.getD i zzd).2=0
    ·exact⟨b,by simp only[if_true,if_pos g2],m3,by rw[if_pos g2,List.append_nil]⟩
    ·refine⟨b++[z46 (S.getD i zzd).1 (S.getD i zzd).2],?_,m3,by rw[if_neg g2]⟩;simp only[if_true,if_neg g2,hput,zz0];rw[z0a (by simp;omega)]
   ·right;right;rw[zbc g];exact⟨_,rfl,rfl,i,hi,g⟩
  ·rintro b ⟨g2,g3⟩;refine⟨_,_,rfl,.inl ⟨rfl,?_,?_⟩,by rw[g3];have:=zhw z46 S;omega⟩
   ·rw[g3];exact zok (num:=fun x=>x.diff) (put:=z46) cU_is (fun x n=>rfl) (fun x n y=>rfl) k2
   ·rw[zkl cU_is k2];intro p hp;obtain⟨j,hj,e⟩:=List.mem_iff_getElem.1 hp;have:=g2 j hj
    rw[List.getD_eq_getElem?_getD,List.getElem?_eq_getElem hj]at this;rw[←e];exact this
  ·rintro r ⟨g2,j,g3,g4⟩;rw[g2];refine⟨_,_,rfl,.inr ⟨rfl,rfl,?_⟩,Nat.zero_le _⟩;rw[zkl cU_is k2];intro h;exact g4 (h _ (z77 g3))
end Go.Av
namespace Go.Av
open Go
theorem zo4 (v:Int):thenC 0 v=v:=rfl
theorem zev {u v:Int}(h:u≠0):thenC u v=u:=if_neg h
theorem zgh {X:Type}[Inhabited X]{R:Type}{B:Nat→Unit→Option (Ctl Unit R)}{l:List X}(e:X→Int)(f:Int→R)(hB: ∀i,i<l.length→B i ()=if e (l.getD i zzd)=0 then some (.next ())else some (.ret (f (e (l.getD i zzd))))):
 z0m B l.length 0 ()=if l.foldr (fun x v=>thenC (e x) v) 0=0 then some (.done ())else some (.ret (f (l.foldr (fun x v=>thenC (e x) v) 0))):=by
 have key: ∀k i,i+k=l.length→z0m B k i ()=if(l.drop i).foldr (fun x v=>thenC (e x) v) 0=0 then some (.done ())else some (.ret (f ((l.drop i).foldr (fun x v=>thenC (e x) v) 0))):=by
  intro k;induction k with
  |zero=>
   intro i hi;rw[List.drop_eq_nil_of_le (by omega)];rfl
  |succ k ih=>
   intro i hi;rw[z42 (by omega:i<l.length)];simp only[z0m,hB i (by omega),List.foldr_cons];by_cases h:e (l.getD i zzd)=0
   ·simp only[h,if_true,zo4];exact ih (i+1) (by omega)
   ·simp only[zev h,if_neg h]
 have:=key l.length 0 (by omega);rwa[List.drop_zero]at this
def errU (u:Update):Int:=thenC (if okRow u.key then 0 else 4) (thenC (if okRow u.row then 0 else 4) (if okT u.time then 0 else 1))
def chkL (l:List Update):Int:=l.foldr (fun u v=>thenC (errU u) v) 0
def okU (u:Update):Prop:=okRow u.key=true∧okRow u.row=true∧okT u.time=true
theorem zlj {u:Update}:errU u=0↔okU u:=by
 unfold errU okU thenC;by_cases h1:okRow u.key=true<;>by_cases h2:okRow u.row=true<;>by_cases h3:okT u.time=true<;>simp[h1,h2,h3]
theorem z7b {u v:Int}:thenC u v=0↔u=0∧v=0:=by unfold thenC;split<;>omega
theorem z9t {l:List Update}:chkL l=0↔ ∀u∈l,okU u:=by
 induction l with
 |nil=>simp[chkL]
 |cons u l ih=>
  unfold chkL at*;rw[List.foldr_cons,z7b,zlj,ih];simp
theorem zjz (u v w:Int):thenC (thenC u v) w=thenC u (thenC v w):=by
 by_cases h1:u=0
 ·subst h1;rfl
 ·rw[zev h1,zev h1,zev h1]
theorem zjo (a b:List Update):chkL (a++b)=thenC (chkL a) (chkL b):=by
 induction a with
 |nil=>simp[chkL,thenC]
 |cons u a ih=>
  unfold chkL at*;rw[List.cons_append,List.foldr_cons,List.foldr_cons,ih,zjz]
theorem zat {fuel:Nat}(hf:5<fuel)(l:List Update):z4e fuel l=some (chkL l):=by
 unfold z4e;rw[zgh errU (fun x=>x)]
 ·show outK (if chkL l=0 then _ else some (.ret (chkL l))) _ _=_;split
  ·rename_i h;rw[h];rfl
  ·rfl
 ·intro i hi;rw[za9,za9,zha hf];simp only[zz0,zoi,z4a,z0i];rfl
theorem zne {a b:Update}(ha:okU a)(hb:okU b)(h:cU a b=0)(hd:a.diff=b.diff):a=b:=by
 unfold cU at h;rw[z7b,z7b,zap (z6n ha.1).1 (z6n hb.1).1,zap (z6n ha.2.1).1 (z6n hb.2.1).1,zhn]at h;rcases a with⟨k,r,t,d⟩;rcases b with⟨k',r',t',d'⟩;obtain⟨e1,e2,e3⟩:=h;simp only at e1 e2 e3 hd;rw[e1,e2,e3,hd]
theorem zil {p:List Value}(h:p.length≤8):z0z p=some p:=by
 unfold z0z;rw[z0a (by omega)]
theorem zkd {u:Update}(h:okU u):u.key.length≤8∧u.row.length≤8:=⟨(z6n h.1).2,(z6n h.2.1).2⟩
theorem zjc {X:Type}[Inhabited X]{l:List X}{i:Nat}(h:i<l.length):l.set i (l.getD i zzd)=l:=by
 rw[List.getD_eq_getElem?_getD,List.getElem?_eq_getElem h];exact List.set_getElem_self h
theorem zoj {l:List Update}(h: ∀u∈l,okU u)(hn:l.length≤8000000000):z7a l=some l:=by
 unfold z7a;have hlim:(l.length:Int)≤(lim:Int):=by simp only[lim];omega
 rw[z0a ⟨by omega,by omega,hlim⟩,z0a (by simp)];have e:copyL (zz8 l.length ((⟨([]:List Value),([]:List Value),(⟨0,(0,0)⟩:Time),0⟩:Update):Update)) l=l:=by
  unfold copyL;rw[List.drop_eq_nil_of_le (by simp)];simp
 rw[e];rw[z79 l (fun i a=>a=l) (fun s hs=>hs)]
 ·rfl
 ·intro i a hi ha;subst ha;obtain⟨h1,h2⟩:=zkd (h _ (z77 hi));refine⟨_,?_,rfl⟩;have e1:(⟨(a.getD i zzd).key,(a.getD i zzd).row,(a.getD i zzd).time,(a.getD i zzd).diff⟩:Update)=a.getD i zzd:=rfl
  simp only[zzb];rw[z0a (by omega),z0a hi,zil h1];simp only[zz0];rw[z0a (by omega),z0a hi,zil h2];simp only[zz0];rw[z0a (by omega),z0a hi,z0a (by omega),z0a (by simp;exact hi),e1,zjc hi,e1,zjc hi]
 ·rfl
end Go.Av
namespace Go.Av
open Go
theorem zkj {x:Int}(h:in64 x):z8j x=some (if x<0 then -x else x):=by
 unfold in64 at h;unfold z8j;simp only[z0i,z8h];split
 ·congr 1;omega
 ·congr 1;omega
theorem zms {x y:Int}(hx:0≤x∧x≤9223372036854775808)(hy:0≤y∧y≤9223372036854775808):z6m x y=some (x*y / 18446744073709551616,x*y % 18446744073709551616):=by
 unfold z6m;rw[zcm (x:=x) ⟨by omega,by omega⟩,zcm (x:=y) ⟨by omega,by omega⟩];simp only[shr32,z8h];obtain⟨a,b,rfl,ha,hb⟩: ∃a b,x=a*4294967296+b∧(0≤a∧a≤2147483648)∧(0≤b∧b<4294967296):=⟨x / 4294967296,x % 4294967296,by omega,by omega,by omega⟩;obtain⟨c,d,rfl,hc,hd⟩: ∃c d,y=c*4294967296+d∧(0≤c∧c≤2147483648)∧(0≤d∧d<4294967296):=⟨y / 4294967296,y % 4294967296,by omega,by omega,by omega⟩;have e1:(a*4294967296+b) / 4294967296=a:=by omega
 have e2:(a*4294967296+b) % 4294967296=b:=by omega
 have e3:(c*4294967296+d) / 4294967296=c:=by omega
 have e4:(c*4294967296+d) % 4294967296=d:=by omega
 rw[e1,e2,e3,e4];have hexp:(a*4294967296+b)*(c*4294967296+d)=(a*c)*18446744073709551616+(a*d+b*c)*4294967296+b*d:=by
  rw[Int.add_mul,Int.mul_add,Int.mul_add,Int.add_mul];have p1:a*4294967296*(c*4294967296)=(a*c)*18446744073709551616:=by
   rw[Int.mul_assoc,←Int.mul_assoc 4294967296,Int.mul_comm 4294967296 c,Int.mul_assoc c,←Int.mul_assoc a];rfl
  have p2:a*4294967296*d=a*d*4294967296:=by rw[Int.mul_assoc,Int.mul_comm 4294967296 d,←Int.mul_assoc]
  have p3:b*(c*4294967296)=b*c*4294967296:=by rw[←Int.mul_assoc]
  rw[p1,p2,p3];omega
 rw[hexp];have q1:0≤a*c∧a*c≤2147483648*2147483648:=⟨Int.mul_nonneg ha.1 hc.1,Int.mul_le_mul ha.2 hc.2 hc.1 (by omega)⟩;have q2:0≤a*d∧a*d≤2147483648*4294967295:=⟨Int.mul_nonneg ha.1 hd.1,Int.mul_le_mul ha.2 (by omega) hd.1 (by omega)⟩
 have q3:0≤b*c∧b*c≤4294967295*2147483648:=⟨Int.mul_nonneg hb.1 hc.1,Int.mul_le_mul (by omega) hc.2 hc.1 (by omega)⟩;have q4:0≤b*d∧b*d≤4294967295*4294967295:=⟨Int.mul_nonneg hb.1 hd.1,Int.mul_le_mul (by omega) (by omega) hd.1 (by omega)⟩
 generalize a*c=A at*;generalize a*d=B at*;generalize b*c=C at*;generalize b*d=D at*;have m1:(B % 18446744073709551616+D % 18446744073709551616 / 4294967296) % 18446744073709551616=B+D / 4294967296:=by omega
 rw[m1,zcm (x:=B+D / 4294967296) ⟨by omega,by omega⟩];congr 2;omega
theorem zip {a b:Int}(ha:in64 a)(hb:in64 b):z8x a b=some (fit64 (a*b)):=by
 unfold z8x;rw[zkj ha,zkj hb];unfold in64 at ha hb;simp only[zz0];rw[zms (by split<;>omega) (by split<;>omega)];simp only[zz0,jn_eq];have hneg: ∀x y:Int,(-x)*y= -(x*y):=Int.neg_mul
 have key: ∀(P m:Int),0≤P→(m=9223372036854775807∨m=9223372036854775808)→(a*b=P∧m=9223372036854775807∨a*b= -P∧m=9223372036854775808)→P<340282366920938463463374607431768211456→
  (bf (!decide (P / 18446744073709551616=0)) (bf true (some ((0:Int),(10:Int))) (some (zzi.wrap (a*b),0))) (bf (decide (m<P % 18446744073709551616)) (some (0,10)) (some (zzi.wrap (a*b),0))))=some (fit64 (a*b)):=by
  intro P m hP hm hab hlt;by_cases h:in64 (a*b)
  ·rw[zcu h,zk3 h];unfold in64 at h;have h1:P / 18446744073709551616=0:=by omega
   have h2: ¬m<P % 18446744073709551616:=by omega
   rw[decide_eq_true h1,decide_eq_false h2];rfl
  ·rw[zbc h];unfold in64 at h;by_cases h1:P / 18446744073709551616=0
   ·have h2:m<P % 18446744073709551616:=by omega
    rw[decide_eq_true h1,decide_eq_true h2];rfl
   ·rw[decide_eq_false h1];rfl
 have hbnd: ∀x y:Int,0≤x→x≤9223372036854775808→0≤y→y≤9223372036854775808→0≤x*y∧x*y<340282366920938463463374607431768211456:=fun x y h1 h2 h3 h4=>⟨Int.mul_nonneg h1 h3,by
  have:=Int.mul_le_mul h2 h4 h3 (by omega);omega⟩
 by_cases h1:a<0<;>by_cases h2:b<0
 ·rw[if_pos h1,if_pos h2,decide_eq_true h1,decide_eq_true h2];have hb:=hbnd (-a) (-b) (by omega) (by omega) (by omega) (by omega);have e: -a* -b=a*b:=Int.neg_mul_neg a b
  simp only[beq_self_eq_true,z6v];rw[z8h];exact key _ _ hb.1 (.inl (by omega)) (.inl ⟨e.symm,by omega⟩) hb.2
 ·rw[if_pos h1,if_neg h2,decide_eq_true h1,decide_eq_false h2];have hb:=hbnd (-a) b (by omega) (by omega) (by omega) (by omega);have e: -a*b= -(a*b):=Int.neg_mul a b
  show bf false _ _=_;simp only[z2y];exact key _ _ hb.1 (.inr rfl) (.inr ⟨by omega,rfl⟩) hb.2
 ·rw[if_neg h1,if_pos h2,decide_eq_false h1,decide_eq_true h2];have hb:=hbnd a (-b) (by omega) (by omega) (by omega) (by omega);have e:a* -b= -(a*b):=Int.mul_neg a b
  show bf false _ _=_;simp only[z2y];exact key _ _ hb.1 (.inr rfl) (.inr ⟨by omega,rfl⟩) hb.2
 ·rw[if_neg h1,if_neg h2,decide_eq_false h1,decide_eq_false h2];have hb:=hbnd a b (by omega) (by omega) (by omega) (by omega);simp only[beq_self_eq_true,z6v];rw[z8h];exact key _ _ hb.1 (.inl (by omega)) (.inl ⟨rfl,by omega⟩) hb.2
end Go.Av
namespace Go.Av
open Go
def ziw (rows:List (List Value)):List Value×Int:=
 if rows.all okRow then(if 8<rows.flatten.length then([],2)else(rows.flatten,0))else([],4)
theorem zju {rows:List (List Value)}(h: ∀r∈rows,r.length≤8):rows.flatten.length≤8*rows.length:=by
 induction rows with
 |nil=>simp
 |cons r rows ih=>
  have h1:=h r (zz4 ..);have h2:=ih fun x hx=>h x (zz7 _ hx)
  simp only[List.flatten_cons,zzj,List.length_cons];omega
theorem z98 {X:Type}{rows:List (List X)}{i:Nat}(h:i<rows.length):(rows.take (i+1)).flatten=(rows.take i).flatten++rows.getD i zzd:=by
 rw[z5f h,List.flatten_append];simp
theorem znl {n:Int}(h:0≤n∧n≤274877906944):z1a n=some []:=by
 unfold z1a;have e:zzi.wrap (n-zzi.wrap ((0:Int)-0))=n:=by
  rw[z3a (n:=(0:Int)-0) (by omega) (by omega)];rw[z3a (by omega) (by omega)];omega
 simp only[e,z0i,jn_eq,if_neg (by omega: ¬n<0)];have hlim:(lim:Int)=274877906944:=rfl
 by_cases h0:0<n
 ·rw[if_pos h0,z0a (by omega),z0a (by refine⟨by omega,by omega,by omega⟩)];rw[List.take_zero]
 ·rw[if_neg h0]
theorem zli {rows:List (List Value)}(h:rows.flatten.length≤274877906944):z16 rows=some rows.flatten:=by
 unfold z16;have hpre: ∀i,(rows.take i).flatten.length≤rows.flatten.length:=fun i=>by
  have:rows.flatten=(rows.take i).flatten++(rows.drop i).flatten:=by rw[←List.flatten_append,List.take_append_drop]
  rw[this,zzj];omega
 rw[z79 (rows.flatten.length:Int) (fun i a=>a=((rows.take i).flatten.length:Int)) (fun s h=>by rw[h,List.take_length])]
 ·simp only[z78];rw[znl (by omega),zz0];rw[z79 rows.flatten (fun i a=>a=(rows.take i).flatten) (fun s h=>by rw[h,List.take_length])]
  ·rfl
  ·intro i a hi ha;have h1:=hpre (i+1)
   rw[z98 hi,zzj]at h1;refine⟨_,?_,rfl⟩;rw[z0a (by rw[ha];omega),z98 hi,ha]
  ·rfl
 ·intro i a hi ha;have h1:=hpre (i+1)
  rw[z98 hi,zzj]at h1;refine⟨_,?_,rfl⟩;rw[z98 hi,zzj,ha];rw[z3a (by omega) (by omega),decide_eq_false (by omega)];simp
 ·rfl
theorem zjk {rows:List (List Value)}(h:rows.length≤1048576):z7z rows=some (ziw rows):=by
 unfold z7z ziw;simp only[za9,zz0];have hall:(rows.any fun r=> !okRow r)= !(rows.all okRow):=by rw[List.any_eq_not_all_not];simp
 rcases zgg (S:=Unit) (R:=List Value×Int) (l:=rows) (fun r=> !okRow r) (fun _=>([],4)) (s:=()) (B:=fun i1 (a2:Unit)=>bf (!decide ((if okRow (rows.getD i1 zzd)=true then(0:Int)else 4)=0)) (some (.ret (([]:List Value),(if okRow (rows.getD i1 zzd)=true then(0:Int)else 4)))) (some (.next ()))) (fun i hi=>by
  cases okRow (rows.getD i zzd)<;>rfl)with⟨h1,h2⟩|⟨h1,i,_,_,h2⟩
 ·rw[h2];rw[hall]at h1;have ha:rows.all okRow=true:=by simpa using h1
  rw[if_pos ha];have hl:=zju (rows:=rows) fun r hr=>(z6n (List.all_eq_true.1 ha r hr)).2;simp only[z78];rw[zli (by omega)];simp only[zz0,z0i];by_cases h8:8<rows.flatten.length
  ·rw[if_pos h8,if_pos (by omega)]
  ·rw[if_neg h8,if_neg (by omega)]
 ·rw[h2];rw[hall]at h1;have ha:rows.all okRow=false:=by simpa using h1
  rw[ha];rfl
theorem all_append {a b:List Value}:(a++b).all z4z=(a.all z4z && b.all z4z):=List.all_append ..
end Go.Av
namespace Go.Av
open Go
section
variable {α:Type} [Inhabited α]
def growG (z:α)(p1:Int):Option (List α):=
 bf (decide (p1<0)) (none) (jn (fun(a1:List α)=>some a1) fun j2=>bf (decide (0<(zzi.wrap (p1-(zzi.wrap ((0:Int)-0)))))) (need ((0:Int)<(zzi.wrap (p1-(zzi.wrap ((0:Int)-0))))∧(zzi.wrap (p1-(zzi.wrap ((0:Int)-0))))≤(lim:Int))<|need ((0:Int)≤0∧(0:Int)≤0∧(0:Int)≤((zz8 ((zzi.wrap (p1-(zzi.wrap ((0:Int)-0)))).toNat) z).length:Int))<|j2 ((zz8 ((zzi.wrap (p1-(zzi.wrap ((0:Int)-0)))).toNat) z).take 0)) (j2 ([]:List α)))
def concG (z:α)(p0:List (List α)):Option (List α):=
 outK (z0m (S:=Int) (R:=Empty) (fun i1 (a2:Int)=>bf (decide ((zzi.wrap (a2+((p0.getD i1 zzd).length:Int)))<0)) (none) (some (.next (zzi.wrap (a2+((p0.getD i1 zzd).length:Int)))))) p0.length 0 0) (fun(a3:Int)=>(growG z a3).bind fun r4=>outK (z0m (S:=List α) (R:=Empty) (fun i5 (a6:List α)=>need (a6.length+(p0.getD i5 zzd).length≤274877906944)<|some (.next (a6++(p0.getD i5 zzd)))) p0.length 0 r4) (fun(a7:List α)=>some a7) (fun(x:Empty)=>x.elim)) (fun(x:Empty)=>x.elim)
theorem zi3 {l:List (List α)}{i:Nat}(h:i<l.length):(l.take (i+1)).flatten=(l.take i).flatten++l.getD i zzd:=by
 rw[z5f h];simp
theorem zky {l:List (List α)}{i:Nat}(h:i<l.length):l.flatten=(l.take i).flatten++(l.getD i zzd++(l.drop (i+1)).flatten):=by
 have e:l=l.take i++l.getD i zzd::l.drop (i+1):=by rw[←z42 h,List.take_append_drop]
 have e2:=congrArg List.flatten e;rw[List.flatten_append,List.flatten_cons]at e2;exact e2
theorem zkb {l:List (List α)}{i:Nat}(h:i<l.length):(l.take i).flatten.length+(l.getD i zzd).length≤l.flatten.length:=by
 have:=congrArg List.length (zky h);simp only[zzj]at this;omega
theorem zmk {z:α}{n:Nat}(hn:n≤8000000000):growG z (n:Int)=some []:=by
 unfold growG;have e:zzi.wrap ((n:Int)-zzi.wrap ((0:Int)-0))=(n:Int):=by
  rw[show zzi.wrap ((0:Int)-0)=0 by rfl,z3a (by omega) (by omega)];omega
 rw[e];simp only[z0i,jn_eq];rw[if_neg (by omega)];split
 ·rw[z0a (by simp only[lim];omega),z0a (by simp)];simp
 ·rfl
theorem zmi {z:α}{p0:List (List α)}(hn:p0.flatten.length≤8000000000):concG z p0=some p0.flatten:=by
 unfold concG;have h1:=fun B h=>z79 (R:=Empty) (B:=B) (n:=p0.length) (s:=(0:Int)) ((p0.flatten.length:Nat):Int) (fun i a=>a=(((p0.take i).flatten.length:Nat):Int)) (fun s hs=>by rw[hs,List.take_length]) h (by rfl)
 rw[h1]
 ·simp only[z78,zmk hn,zz0];rw[z79 p0.flatten (fun i a=>a=(p0.take i).flatten) (fun s hs=>by rw[hs,List.take_length])]
  ·rfl
  ·intro i a hi ha;refine⟨_,?_,rfl⟩;have:=zkb hi
   rw[z0a (by rw[ha];omega),ha,zi3 hi]
  ·rfl
 ·intro i a hi ha;have:=zkb hi
  refine⟨_,?_,rfl⟩;rw[ha,wadd (by omega),zi3 hi,zzj];simp only[z0i];rw[if_neg (by omega)]
end
end Go.Av
namespace Go.Av
open Go
abbrev pU (l:List Update):List (Update×Int):=PR (fun x=>x.diff) l
abbrev TotU (l:List Update)(R:List Update)(e:Int):Prop:=Tot cU (fun x=>x.diff) z46 (pU l) R e
theorem zb8 {l R:List Update}{e:Int}(h:TotU l R e)(ho: ∀u∈l,okU u): ∀r∈R,okU r:=fun r hr=>by
 rcases h with⟨_,h,_⟩|⟨_,rfl,_⟩
 ·obtain⟨y,h1,h2⟩:=h.mem r hr;obtain⟨z,h3,h4⟩:=zfp.1 h1;rw[h2,←h4];exact ho z h3
 ·cases hr
def zl8 (l R:List Update)(e:Int):Prop:=(chkL l≠0∧R=[]∧e=chkL l)∨(chkL l=0∧TotU l R e)
theorem zg3: ∀ls:List (List Update),ls.foldr (fun x v=>thenC (chkL x) v) 0=chkL ls.flatten
 |[]=>rfl
 |l::ls=>by rw[List.foldr_cons,List.flatten_cons,zjo,zg3 ls]
theorem zka {fuel:Nat}{ls:List (List Update)}(hf:40000000000≤fuel)(hn:ls.flatten.length≤8000000000)(hd: ∀u∈ls.flatten,in64 u.diff):
 ∃R e,z2q fuel ls=some (R,e)∧zl8 ls.flatten R e∧R.length≤ls.flatten.length:=by
 unfold z2q;rw[zgh chkL (fun w=>(([]:List Update),w)),zg3]
 ·by_cases h:chkL ls.flatten=0
  ·rw[if_pos h];simp only[z78];rw[show z0h ls=some ls.flatten from zmi hn];simp only[zz0];have ho:=z9t.1 h
   obtain⟨R,e,l',h1,h2,h3⟩:=zk1 (fuel:=fuel) hd (fun u hu=>(zkd (ho u hu)).2) hn hf;rw[h1];simp only[zz0];rw[zoj (zb8 h2 ho) (by omega)];exact⟨R,e,rfl,.inr ⟨h,h2⟩,h3⟩
  ·rw[if_neg h];exact⟨_,_,rfl,.inl ⟨h,rfl,rfl⟩,Nat.zero_le _⟩
 ·intro i hi;rw[zat (by omega)];simp only[zz0,z4a,z0i]
end Go.Av
namespace Go.Av
open Go
theorem zom (l:List Update):z56 l l=some true:=by
 unfold z56;rw[decide_eq_true rfl,Bool.not_true,z2y];rw[z79 () (fun _ _=>True) (fun _ _=>rfl)]
 ·rfl
 ·intro i a hi ha;refine⟨(),?_,trivial⟩;have e:z36 (l.getD i zzd).time (l.getD i zzd).time=true:=by simp[z36]
  simp only[jn_eq,zm6,zz0,Bool.not_true,z2y,e,decide_true];rw[z0a (by omega),z0a (by omega),z0a (by omega),z0a (by omega)]
 ·trivial
theorem zk0 {l l' R R':List Update}{e e':Int}(h:TotU l R e)(h':TotU l' R' e')(ho: ∀u∈l,okU u)(ho': ∀u∈l',okU u)(hs: ∀y,sm cU (pU l) y=sm cU (pU l') y):R=R'∧e=e':=
 zl7 cU_is h h' hs fun r hr r' hr' h1 h2=>zne (zb8 h ho r hr) (zb8 h' ho' r' hr') h1 h2
end Go.Av
namespace Go.Av
open Go
theorem zkn {l R:List Update}{e:Int}(h:TotU l R e): ∀r∈R,in64 r.diff:=fun r hr=>by
 rcases h with⟨_,g,gf⟩|⟨_,rfl,_⟩
 ·rw[(g.sum r hr).1];exact gf r
 ·cases hr
end Go.Av
namespace Go.Av
open Go
def glb2 (a x:Time):Time:=⟨if x.epoch<a.epoch then x.epoch else a.epoch,(if x.loop.1<a.loop.1 then x.loop.1 else a.loop.1,if x.loop.2<a.loop.2 then x.loop.2 else a.loop.2)⟩
def glbL:List Time→Time
 |[]=>zeroT
 |x::l=>l.foldl glb2 x
theorem zjr (a:Time):z36 a a=true:=by simp[z36]
theorem znq {a b:Time}(ha:z4p a)(hb:z4p b):z4p (lub2 a b):=by
 obtain⟨h1,h2,h3⟩:=ha;obtain⟨g1,g2,g3⟩:=hb;simp only[z4p,lub2,mx_eq];omega
theorem zmn {a b:Time}(h:leT a b=true)(g:leT b a=true):z36 a b=true:=by
 simp only[leT,z36,Bool.and_eq_true,decide_eq_true_eq,Bool.and_true]at*;omega
end Go.Av
namespace Go.Av
open Go
theorem znj {x y:Time}:z36 x y=true↔x=y:=by
 constructor
 ·intro h;simp only[z36,Bool.and_eq_true,decide_eq_true_eq,Bool.and_true]at h;exact Time.ext' h.1 h.2.1 h.2.2
 ·rintro rfl;exact zjr x
theorem zno {a b:Time}(h:leT a b=true)(g:leT b a=true):a=b:=znj.1 (zmn h g)
theorem zj1 {a b:Time}(h:leT a b=true):ltT b a=false:=by
 cases e:ltT b a with
 |false=>rfl
 |true=>rw[znn]at h;rw[z5u]at e;omega
theorem lt_or {a b:Time}(h:ltT b a=false)(hne:a≠b):ltT a b=true:=by
 cases e:ltT a b with
 |true=>rfl
 |false=>
  refine absurd ?_ hne;rw[←Bool.not_eq_true,z5u]at h e;exact Time.ext' (by omega) (by omega) (by omega)
structure IsF (l f:List Time):Prop where
 sorted:f.Pairwise fun x y=>ltT x y=true
 sub: ∀x∈f,x∈l
 below: ∀y∈l,∃u∈f,leT u y=true
 least: ∀x∈f,∀y∈l,leT y x=true→y=x
theorem IsF.mem {l f:List Time}(h:IsF l f)(x:Time):x∈f↔x∈l∧ ∀y∈l,leT y x=true→y=x:=by
 constructor
 ·exact fun hx=>⟨h.sub x hx,h.least x hx⟩
 ·rintro⟨hx,hm⟩;obtain⟨u,hu,hle⟩:=h.below x hx;rw[←hm u (h.sub u hu) hle];exact hu
theorem IsF.congr {l m f:List Time}(h:IsF l f)(e: ∀x,x∈l↔x∈m):IsF m f:=
 ⟨h.sorted,fun x hx=>(e x).1 (h.sub x hx),fun y hy=>h.below y ((e y).2 hy),fun x hx y hy=>h.least x hx y ((e y).2 hy)⟩
theorem IsF.step {p f:List Time}{t:Time}(h:IsF p f)(hs: ∀x∈p,ltT t x=false):IsF (p++[t]) (if f.any (fun u=>leT u t)then f else f++[t]):=by
 by_cases hc:f.any (fun u=>leT u t)=true
 ·rw[if_pos hc];obtain⟨u,hu,hut⟩:=List.any_eq_true.1 hc;refine⟨h.sorted,fun x hx=>zz2.2 (.inl (h.sub x hx)),?_,?_⟩
  ·intro y hy;rcases zz2.1 hy with hy|hy
   ·exact h.below y hy
   ·rw[zz9.1 hy];exact⟨u,hu,hut⟩
  ·intro x hx y hy hle;rcases zz2.1 hy with hy|hy
   ·exact h.least x hx y hy hle
   ·rw[zz9.1 hy]at hle ⊢;have hux:=h.least x hx u (h.sub u hu) (zhv hut hle)
    subst hux;exact zno hle hut
 ·rw[if_neg hc];have hno: ∀u∈f,leT u t=false:=fun u hu=>by
   cases e:leT u t with
   |false=>rfl
   |true=>exact absurd (List.any_eq_true.2 ⟨u,hu,e⟩) hc
  have hnp: ∀y∈p,leT y t=false:=fun y hy=>by
   obtain⟨u,hu,hle⟩:=h.below y hy;cases e:leT y t with
   |false=>rfl
   |true=>have:=zhv hle e;rw[hno u hu]at this;cases this
  refine⟨?_,?_,?_,?_⟩
  ·rw[List.pairwise_append];refine⟨h.sorted,by simp,fun x hx y hy=>?_⟩;rw[zz9.1 hy];refine lt_or (hs x (h.sub x hx)) (fun e=>?_);subst e;have:=hno x hx
   rw[ziz]at this;cases this
  ·intro x hx;rcases zz2.1 hx with hx|hx
   ·exact zz2.2 (.inl (h.sub x hx))
   ·exact zz2.2 (.inr hx)
  ·intro y hy;rcases zz2.1 hy with hy|hy
   ·obtain⟨u,hu,hle⟩:=h.below y hy;exact⟨u,zz2.2 (.inl hu),hle⟩
   ·exact⟨y,zz2.2 (.inr hy),ziz y⟩
  ·intro x hx y hy hle;rcases zz2.1 hx with hx|hx
   ·rcases zz2.1 hy with hy|hy
    ·exact h.least x hx y hy hle
    ·rw[zz9.1 hy]at hle ⊢;have h1:=hs x (h.sub x hx)
     have h2:=zj1 hle;by_cases e:t=x
     ·exact e
     ·have:=lt_or h1 (fun h=>e h.symm);rw[h2]at this;cases this
   ·rw[zz9.1 hx]at hle ⊢;rcases zz2.1 hy with hy|hy
    ·rw[hnp y hy]at hle;cases hle
    ·exact zz9.1 hy
def zoc (l:List Time):List Time:=l.foldl (fun f t=>if f.any (fun u=>leT u t)then f else f++[t]) []
def znk (l:List Time):List Time:=zoc (sortT l)
end Go.Av
namespace Go.Av
open Go
abbrev NN (l:List Time):Prop:= ∀x∈l,z4p x
end Go.Av
namespace Go.Av
open Go
def adv (t:Time)(f:List Time):Time:=if f=[]then t else lub2 t (glbL f)
theorem znr {t u:Time}(ht:z4p t)(hu:z4p u):z60 [t,u]=some (lub2 t u):=by
 unfold z60;rw[zg1 (fun x hx=>by
  rcases zze.1 hx with rfl|hx
  ·exact ht
  ·rw[zz9.1 hx];exact hu),zmp ht]
 rfl
end Go.Av
namespace Go.Av
open Go
def Fr (l:List Time):Prop:=(∀t∈l,okT t=true)∧znk l=l
def advU (f:List Time)(u:Update):Update:=⟨u.key,u.row,adv u.time f,u.diff⟩
def advL (f:List Time)(l:List Update):List Update:=l.map (advU f)
def AdvOk (f:List Time)(l R:List Update)(e:Int):Prop:=(chkL l≠0∧R=[]∧e=chkL l)∨(chkL l=0∧zl8 (advL f l) R e)
def zk4 (f:List Time)(l:List Update)(B:Batch)(e:Int):Prop:=
 (¬Fr f∧e=4∧B=⟨[],[]⟩)∨(Fr f∧ ∃R e',AdvOk f l R e'∧R.length≤l.length∧((e'≠0∧e=e'∧B=⟨[],[]⟩)∨(e'=0∧e=0∧B=⟨f,R⟩)))
end Go.Av
namespace Go.Av
open Go
structure EvenP (l:List Update):Prop where
 lt:l.Pairwise fun a b=>cU a b<0
 nz: ∀r∈l,r.diff≠0
 ok: ∀r∈l,okU r
end Go.Av
namespace Go.Av
open Go
abbrev kc (key:List Value)(u:Update):Int:=cmpL cmpV u.key key
def cntP (p:Update→Bool):List Update→Nat
 |[]=>0
 |u::l=>if p u then cntP p l+1 else 0
theorem zh3 (p:Update→Bool): ∀l,cntP p l≤l.length
 |[]=>zzc _
 |u::l=>by
  unfold cntP;split
  ·simp only[List.length_cons];have:=zh3 p l;omega
  ·exact Nat.zero_le _
theorem zh4 {p:Update→Bool}: ∀{l:List Update} {i:Nat},i<cntP p l→p (l.getD i zzd)=true
 |[],i,h=>by simp[cntP]at h
 |u::l,i,h=>by
  unfold cntP at h;split at h
  ·rename_i hu
   cases i with
   |zero=>exact hu
   |succ i=>simp only[List.getD_cons_succ];exact zh4 (by omega)
  ·omega
theorem zh2 {p:Update→Bool}: ∀{l:List Update},cntP p l<l.length→p (l.getD (cntP p l) zzd)=false
 |[],h=>by simp at h
 |u::l,h=>by
  unfold cntP at*;split
  ·rename_i hu
   rw[if_pos hu]at h;simp only[List.getD_cons_succ];exact zh2 (by simp only[List.length_cons]at h;omega)
  ·rename_i hu
   simpa using hu
end Go.Av
namespace Go.Av
open Go
abbrev upTo (l:List Update)(key:List Value):Nat:=(l.filter fun u=>decide (kc key u≤0)).length
end Go.Av
namespace Go.Av
open Go
def zo7 (f:List Time)(l:List Update)(B:Batch)(e:Int):Prop:=
 (¬Fr f∧e=4∧B=⟨[],[]⟩)∨(Fr f∧ ∃R e',AdvOk f l R e'∧((e'≠0∧e=e'∧B=⟨[],[]⟩)∨(e'=0∧e=0∧B=⟨f,R⟩)))
theorem zk4.r {f:List Time}{l:List Update}{B:Batch}{e:Int}(h:zk4 f l B e):zo7 f l B e:=by
 rcases h with h|⟨h1,R,e',h2,_,h3⟩
 ·exact .inl h
 ·exact .inr ⟨h1,R,e',h2,h3⟩
end Go.Av
namespace Go.Av
open Go
section
variable {α:Type} {c:α→α→Int} {num:α→Int} {put:α→Int→α}
theorem zo5 (hC:IsCmp c)(h2: ∀x n y,c (put x n) y=c x y){l1 l2:List (α×Int)}{R1 R2:List α}(ha:Tot c num put l1 R1 0)(hb:Tot c num put l2 R2 0)(hlt: ∀p∈l1,∀q∈l2,c p.1 q.1<0):Tot c num put (l1++l2) (R1++R2) 0:=by
 rcases ha with⟨_,a,fa⟩|⟨h,_⟩
 case inr=>omega
 rcases hb with⟨_,b,fb⟩|⟨h,_⟩
 case inr=>omega
 have h3: ∀x n y,c y (put x n)=c y x:=fun x n y=>by have:=hC.anti y (put x n);have:=hC.anti y x;have:=h2 x n y;omega
 have ne12: ∀p∈l1,∀q∈l2,c p.1 q.1≠0:=fun p hp q hq=>by have:=hlt p hp q hq;omega
 have ne21: ∀p∈l1,∀q∈l2,c q.1 p.1≠0:=fun p hp q hq=>by have:=hlt p hp q hq;have:=hC.anti p.1 q.1;omega
 have z2: ∀y,(∃p∈l1,c y p.1=0)→sm c l2 y=0:=fun y ⟨p,hp,e⟩=>z8l fun q hq=>by rw[hC.eqL q.1 e];exact ne12 p hp q hq
 have z1: ∀y,(∃p∈l2,c y p.1=0)→sm c l1 y=0:=fun y ⟨q,hq,e⟩=>z8l fun p hp=>by rw[hC.eqL p.1 e];exact ne21 p hp q hq
 have of1: ∀r∈R1,∃p∈l1,c r p.1=0:=fun r hr=>by
  obtain⟨p,hp,e⟩:=a.mem r hr;exact⟨p,hp,by rw[e,h2];exact hC.refl _⟩
 have of2: ∀r∈R2,∃p∈l2,c r p.1=0:=fun r hr=>by
  obtain⟨p,hp,e⟩:=b.mem r hr;exact⟨p,hp,by rw[e,h2];exact hC.refl _⟩
 refine .inl ⟨rfl,⟨?_,?_,?_,?_⟩,?_⟩
 ·rw[List.pairwise_append];refine⟨a.strict,b.strict,fun r hr s hs=>?_⟩;obtain⟨p,hp,e⟩:=of1 r hr;obtain⟨q,hq,e'⟩:=of2 s hs;rw[hC.eqL s e,hC.eqR p.1 e'];exact hlt p hp q hq
 ·intro r hr;rw[z6o];rcases zz2.1 hr with hr|hr
  ·rw[z2 r (of1 r hr),Int.add_zero];exact a.sum r hr
  ·rw[z1 r (of2 r hr),Int.zero_add];exact b.sum r hr
 ·intro r hr;rcases zz2.1 hr with hr|hr
  ·obtain⟨y,g1,g2⟩:=a.mem r hr;exact⟨y,List.mem_append_left _ g1,g2⟩
  ·obtain⟨y,g1,g2⟩:=b.mem r hr;exact⟨y,List.mem_append_right _ g1,g2⟩
 ·intro y hy hn;rw[z6o]at hn;rcases zz2.1 hy with hy|hy
  ·rw[z2 y.1 ⟨y,hy,hC.refl _⟩,Int.add_zero]at hn;obtain⟨r,g1,g2⟩:=a.all y hy hn;exact⟨r,List.mem_append_left _ g1,g2⟩
  ·rw[z1 y.1 ⟨y,hy,hC.refl _⟩,Int.zero_add]at hn;obtain⟨r,g1,g2⟩:=b.all y hy hn;exact⟨r,List.mem_append_right _ g1,g2⟩
 ·intro y;rw[z6o];by_cases e:sm c l1 y=0
  ·rw[e,Int.zero_add];exact fb y
  ·rw[z2 y (zcf e),Int.add_zero];exact fa y
end
theorem znu {t:Time}:okT t=true↔t.epoch≤4611686018427387904∧t.loop.1≤4611686018427387904∧t.loop.2≤4611686018427387904:=by
 unfold okT;simp only[Bool.and_eq_true,decide_eq_true_eq]
theorem znv {t s:Time}(h:okT t=true)(hs:okT s=true):okT (lub2 t s)=true:=by
 rw[znu]at*;simp only[lub2,mx_eq];omega
theorem za2 (a b:List Update):pU (a++b)=pU a++pU b:=zhh _ a b
end Go.Av
/-
 Pairs of updates:what the maker makes.
-/
namespace Go.Av
open Go
def cKy (x y:Update):Int:=cmpL cmpV x.key y.key
theorem zlc:IsCmp cKy:=(IsCmp.list z8i).on (fun u:Update=>u.key)
theorem zm0 (x y:Update):z18 x y=some (cKy x y):=by
 unfold z18;rw[z73];rfl
theorem rotK:z1k=rotG (α:=Update):=rfl
theorem insK:z0w=insG (α:=Update) z18:=rfl
theorem symK: ∀(fuel:Nat) (a b d:Int) (l:List Update),z0d fuel a b d l=symG (α:=Update) z18 fuel a b d l
 |0,_,_,_,_=>rfl
 |fuel+1,a,b,d,l=>by
  unfold z0d symG;simp only[rotK,symK fuel]
theorem stabK (fuel:Nat)(n:Int)(l:List Update):z14 fuel n l=stabG (α:=Update) z18 fuel n l:=by
 unfold z14 stabG;simp only[insK,symK]
theorem zgf {α:Type}[Inhabited α]{R:α→α→Prop}{l:List α}(h: ∀i j,i<j→j<l.length→R (l.getD i zzd) (l.getD j zzd)):l.Pairwise R:=by
 rw[List.pairwise_iff_getElem];intro i j hi hj hij;have:=h i j hij hj
 rwa[List.getD_eq_getElem?_getD,List.getElem?_eq_getElem hi,List.getD_eq_getElem?_getD,List.getElem?_eq_getElem hj]at this
theorem zn4 {fuel:Nat}{l:List Update}(hn:l.length≤8000000000)(hf:40000000000≤fuel): ∃r,z0e fuel l=some r∧r.Perm l∧r.Pairwise fun x y=>cKy x y≤0:=by
 obtain⟨r,h1,h2,h3⟩:=zd5 (c:=cKy) zm0 zlc (fuel:=fuel) (l:=l) (by omega) (by omega);refine⟨r,?_,h2,zgf h3⟩;unfold z0e;rw[stabK,h1];rfl
theorem zn6 {fuel:Nat}{l:List Update}(hn:l.length≤8000000000)(hf:40000000000≤fuel): ∃r,z0c fuel l=some r∧r.Perm l∧r.Pairwise fun x y=>cU x y≤0:=by
 obtain⟨r,h1,h2,h3⟩:=zd5 (c:=cU) z7i cU_is (fuel:=fuel) (l:=l) (by omega) (by omega);refine⟨r,?_,h2,zgf h3⟩;unfold z0c;rw[zgu,h1];rfl
theorem zgm {key:List Value}: ∀{D:List Update},(D.Pairwise fun x y=>cKy x y≤0)→(∀y∈D,0≤kc key y)→D.filter (fun y=>decide (kc key y=0))=D.take (cntP (fun y=>decide (kc key y=0)) D)
 |[],_,_=>rfl
 |d::D,hp,hm=>by
  rw[List.pairwise_cons]at hp;unfold cntP;by_cases h:kc key d=0
  ·rw[List.filter_cons_of_pos (by simp[h]),if_pos (by simp[h]),List.take_succ_cons,zgm hp.2 fun y hy=>hm y (zz7 _ hy)]
  ·rw[List.filter_cons_of_neg (by simp[h]),if_neg (by simp[h]),List.take_zero,List.filter_eq_nil_iff];intro y hy hk;have h1:=hp.1 y hy
   have h2:=hm d (zz4 ..);have hk:=of_decide_eq_true hk
   have h3:=(IsCmp.list z8i).tr d.key y.key key h1 (by show kc key y≤0;omega);have h3:kc key d≤0:=h3
   omega
theorem zo8 {fuel:Nat}{r:List Update}{key:List Value}(hf:40000000000≤fuel)(hn:r.length≤8000000000)(hs:r.Pairwise fun x y=>cKy x y≤0):
 ∃(n:Nat) (b:Bool),n≤r.length∧z0b fuel r key=some ((n:Int),b)∧
  r.filter (fun y=>decide (kc key y=0))=(r.drop n).take (cntP (fun y=>decide (kc key y=0)) (r.drop n)):=by
 unfold z0b z3c;have hmono: ∀i j,i≤j→j<r.length→cKy (r.getD i zzd) (r.getD j zzd)≤0:=fun i j hij hj=>by
  by_cases e:i=j
  ·subst e;rw[zlc.refl];exact Int.le_refl _
  ·have:=(List.pairwise_iff_getElem.1 hs) i j (by omega) hj (by omega);rwa[List.getD_eq_getElem?_getD,List.getElem?_eq_getElem (show i<r.length by omega),List.getD_eq_getElem?_getD,List.getElem?_eq_getElem hj]
 obtain⟨n,h1,_,h3,h4,h5⟩:=zk7 (R:=Empty) (P:=fun i=>decide (kc key (r.getD i zzd)<0)) (i0:=0) (j0:=r.length) (B:=fun(a1:Int×Int)=>bf (decide (a1.1<a1.2)) (need ((0:Int)≤(zzi.wrap (shrOp .u64 (zzu.wrap (zzi.wrap (a1.1+a1.2))) 1))∧(zzi.wrap (shrOp .u64 (zzu.wrap (zzi.wrap (a1.1+a1.2))) 1))<(r.length:Int))<|((z3o (r.getD ((zzi.wrap (shrOp .u64 (zzu.wrap (zzi.wrap (a1.1+a1.2))) 1)).toNat) zzd).key key).bind fun r1=>some r1).bind fun r8=>bf (decide (r8<0)) (some (.next ((zzi.wrap ((zzi.wrap (shrOp .u64 (zzu.wrap (zzi.wrap (a1.1+a1.2))) 1))+1)),a1.2))) (some (.next (a1.1,(zzi.wrap (shrOp .u64 (zzu.wrap (zzi.wrap (a1.1+a1.2))) 1)))))) (some (.brk (a1.1,a1.2))))
  r.length 0 r.length fuel (by omega) (by omega) (zzc _) (Nat.zero_le _) (zzc _) (.inl rfl) (.inl rfl) (fun i j _ hij hj=>by
   simp only[z0i,Int.ofNat_lt];by_cases h:i<j
   ·rw[if_pos h,if_pos h,zc7 (by omega),z0a (by omega),z73];simp only[zz0,z0i,zzk,decide_eq_true_eq];rw[wadd1 (by omega)]
   ·rw[if_neg h,if_neg h])
 rw[show((0:Nat):Int)=(0:Int)from rfl]at h1;rw[h1];have hlow: ∀y∈r.take n,kc key y<0:=fun y hy=>by
  obtain⟨k,hk,rfl⟩:=List.mem_iff_getElem.1 hy;simp only[List.length_take]at hk;rcases h4 with h4|h4
  ·omega
  ·have h4:=of_decide_eq_true h4;have:=hmono k (n-1) (by omega) (by omega)
   have h2:=(IsCmp.list z8i).le_lt (a:=(r.getD k zzd).key) this h4;rw[List.getElem_take];rwa[List.getD_eq_getElem?_getD,List.getElem?_eq_getElem (show k<r.length by omega)]at h2
 have hhigh: ∀y∈r.drop n,0≤kc key y:=fun y hy=>by
  obtain⟨k,hk,rfl⟩:=List.mem_iff_getElem.1 hy;simp only[zzg]at hk;rw[List.getElem_drop];rcases h5 with h5|h5
  ·omega
  ·have h5:=of_decide_eq_false h5;have:=hmono n (n+k) (by omega) (by omega)
   rw[List.getD_eq_getElem?_getD,List.getElem?_eq_getElem (show n<r.length by omega),List.getD_eq_getElem?_getD,List.getElem?_eq_getElem (show n+k<r.length by omega)]at this;rw[List.getD_eq_getElem?_getD,List.getElem?_eq_getElem (show n<r.length by omega)]at h5;rcases Int.lt_or_le (kc key (r[n+k]'(by omega))) 0 with g|g
   ·exact absurd ((IsCmp.list z8i).le_lt (a:=(r[n]'(by omega)).key) this g) h5
   ·exact g
 have hfil:r.filter (fun y=>decide (kc key y=0))=(r.drop n).take (cntP (fun y=>decide (kc key y=0)) (r.drop n)):=by
  rw[←zgm (hs.sublist (List.drop_sublist n r)) hhigh]
  conv=>lhs;rw[←List.take_append_drop n r,List.filter_append]
  rw[List.filter_eq_nil_iff.2 (fun y hy=>by have:=hlow y hy;simp;omega),List.nil_append]
 simp only[z78,jn_eq,z0i,Int.ofNat_lt];by_cases h:n<r.length
 ·rw[if_pos h,z0a (by omega),z73];exact⟨n,_,h3,rfl,hfil⟩
 ·rw[if_neg h];exact⟨n,_,h3,rfl,hfil⟩
def mkP (x y:Update):Update:=⟨[],x.row++y.row,lub2 x.time y.time,x.diff*y.diff⟩
def okP (x y:Update):Bool:=decide ((-9223372036854775808≤x.diff*y.diff∧x.diff*y.diff<9223372036854775808)∧(x.row++y.row).length≤8)
def note (f:Fault)(t:Time):Fault:=if f.is=false∨cmpT t f.at_<0 then⟨true,t⟩else f
def stepP (m:JoinMaker)(p:Update×Update):JoinMaker:=if okP p.1 p.2=true then⟨⟨m.maker.fault,m.maker.list++[mkP p.1 p.2]⟩⟩else⟨⟨note m.maker.fault (lub2 p.1.time p.2.time),m.maker.list⟩⟩
theorem znt (f:Fault)(t:Time):z37 t f=some (note f t):=by
 unfold z37 note;simp only[jn_eq,z4a];cases hf:f.is with
 |false=>rw[z2y,z6v,if_pos (.inl rfl)]
 |true=>
  rw[z6v,zaa];simp only[zz0,z0i];by_cases h:cmpT t f.at_<0
  ·rw[if_pos h,if_pos (.inr h)]
  ·rw[if_neg h,if_neg (fun g=>by rcases g with g|g;cases g;exact h g)]
theorem zmu (m:JoinMaker)(t:Time):z30 t m=some ⟨⟨note m.maker.fault t,m.maker.list⟩⟩:=by
 unfold z30 note;simp only[jn_eq,z4a];cases hf:m.maker.fault.is with
 |false=>rw[z2y,z6v,if_pos (.inl rfl)]
 |true=>
  rw[z6v,zaa];simp only[zz0,z0i];by_cases h:cmpT t m.maker.fault.at_<0
  ·rw[if_pos h,if_pos (.inr h)]
  ·rw[if_neg h,if_neg (fun g=>by rcases g with g|g;cases g;exact h g)]
theorem zmm {p q:List Value}(hp:okRow p=true)(hq:okRow q=true):z7z [p,q]=some (if(p++q).length≤8 then(p++q,0)else([],2)):=by
 rw[zjk (by simp)];unfold ziw;simp only[List.all_cons,List.all_nil,hp,hq,Bool.and_true,if_true,List.flatten_cons,List.flatten_nil,List.append_nil];congr 1;by_cases h:(p++q).length≤8
 ·rw[if_pos h,if_neg (by omega)]
 ·rw[if_neg h,if_pos (by omega)]
theorem znw {x y:Update}{m:JoinMaker}(hx:okU x)(hy:okU y)(tx:z4p x.time)(ty:z4p y.time)(dx:in64 x.diff)(dy:in64 y.diff)(hm:m.maker.list.length≤8000000000):z2r x y m=some (stepP m (x,y)):=by
 unfold z2r stepP;rw[znr tx ty];simp only[zz0];rw[zmm hx.2.1 hy.2.1];simp only[zz0];rw[zip dx dy];simp only[zz0];rw[zly];simp only[zz0,z4a,z0i];by_cases h:okP x y=true
 ·rw[if_pos h];obtain⟨h1,h2⟩:=of_decide_eq_true h;rw[if_pos h2,zcu h1,if_pos (by simp[thenC])];unfold z4f;rw[z0a (by simp;omega)];rfl
 ·rw[if_neg h,if_neg,znt]
  ·rfl
  ·intro g;rw[z7b]at g;apply h;unfold okP;rw[decide_eq_true_eq];constructor
   ·by_cases k:in64 (x.diff*y.diff)
    ·exact k
    ·rw[zbc k]at g;exact absurd g.2 (by decide)
   ·by_cases k:(x.row++y.row).length≤8
    ·exact k
    ·rw[if_neg k]at g;exact absurd g.1 (by decide)
def z2f (a r:List Update):List (Update×Update):=a.flatMap fun x=>(r.filter fun y=>decide (kc x.key y=0)).map fun y=>(x,y)
theorem zm9 (m:JoinMaker)(p:Update×Update):(stepP m p).maker.list.length≤m.maker.list.length+1:=by
 unfold stepP;split<;>simp
theorem ze4: ∀(ps:List (Update×Update)) (m:JoinMaker),(ps.foldl stepP m).maker.list.length≤m.maker.list.length+ps.length
 |[],m=>by simp
 |p::ps,m=>by
  have:=ze4 ps (stepP m p);have:=zm9 m p
  simp only[List.foldl_cons,List.length_cons];omega
theorem zf8 (a r:List Update):(z2f a r).length≤a.length*r.length:=by
 unfold z2f;induction a with
 |nil=>simp
 |cons x a ih=>
  have:=List.length_filter_le (fun y=>decide (kc x.key y=0)) r;simp only[List.flatMap_cons,zzj,List.length_map,List.length_cons,Nat.succ_mul];omega
theorem zee {a r:List Update}{i:Nat}(h:i<a.length):z2f (a.take (i+1)) r=z2f (a.take i) r++(r.filter fun y=>decide (kc (a.getD i zzd).key y=0)).map fun y=>(a.getD i zzd,y):=by
 unfold z2f;rw[z5f h,List.flatMap_append];simp
structure UsOk (l:List Update):Prop where
 ok: ∀u∈l,okU u
 t: ∀u∈l,z4p u.time
 d: ∀u∈l,in64 u.diff
theorem UsOk.perm {l m:List Update}(h:UsOk l)(p:m.Perm l):UsOk m:=⟨fun u hu=>h.ok u (p.mem_iff.1 hu),fun u hu=>h.t u (p.mem_iff.1 hu),fun u hu=>h.d u (p.mem_iff.1 hu)⟩
theorem zml {x:Update}{G:List Update}{s:JoinMaker}{fuel:Nat}{B:Int×JoinMaker→Option (Ctl (Int×JoinMaker) (Int×JoinMaker))}(hf:G.length+1<fuel)
 (hB: ∀(j:Nat) (s':JoinMaker),j<G.length→s'=((G.take j).map fun y=>(x,y)).foldl stepP s→B ((j:Int),s')=some (.next (((j+1:Nat):Int),stepP s' (x,G.getD j zzd))))
 (hE: ∀s',B ((G.length:Int),s')=some (.brk ((G.length:Int),s'))∨B ((G.length:Int),s')=some (.ret ((G.length:Int),s'))):
 (∃z,loopN B fuel (0,s)=some (.done (z,(G.map fun y=>(x,y)).foldl stepP s)))∨(∃z,loopN B fuel (0,s)=some (.ret (z,(G.map fun y=>(x,y)).foldl stepP s))):=by
 have key: ∀(k j g:Nat) (s':JoinMaker),j+k=G.length→k+1<g→s'=((G.take j).map fun y=>(x,y)).foldl stepP s→
  (∃z,loopN B g ((j:Int),s')=some (.done (z,(G.map fun y=>(x,y)).foldl stepP s)))∨(∃z,loopN B g ((j:Int),s')=some (.ret (z,(G.map fun y=>(x,y)).foldl stepP s))):=by
  intro k;induction k with
  |zero=>
   intro j g s' hj hg hs;obtain rfl:j=G.length:=by omega
   rw[List.take_length]at hs;subst hs;cases g with
   |zero=>omega
   |succ g=>
    rcases hE _ with h|h
    ·left;exact⟨_,z57 h⟩
    ·right;exact⟨_,zls h⟩
  |succ k ih=>
   intro j g s' hj hg hs;cases g with
   |zero=>omega
   |succ g=>
    rw[z4y (hB j s' (by omega) hs)];refine ih (j+1) g _ (by omega) (by omega) ?_;rw[z5f (by omega),List.map_append,List.foldl_append,←hs];rfl
 exact key G.length 0 fuel s (by omega) hf rfl
theorem zmw {fuel:Nat}{a b:List Update}{m:JoinMaker}(hf:40000000000≤fuel)(ha:UsOk a)(hb:UsOk b)(hn:b.length≤4000000000)(hab:m.maker.list.length+a.length*b.length≤8000000000):
 ∃r,r.Perm b∧z15 fuel a b m=some ((z2f a r).foldl stepP m):=by
 unfold z15 z0u;rw[z0a (by omega)];obtain⟨r,h1,h2,h3⟩:=zn4 (fuel:=fuel) (l:=b) (by omega) hf;simp only[zz0];rw[h1];simp only[zz0];have hlen:=h2.length_eq
 have hr:=hb.perm h2;rw[z0a hlen];refine⟨r,h2,?_⟩;rw[←hlen]at hab hn;rw[z79 ((z2f a r).foldl stepP m) (fun i s=>s=(z2f (a.take i) r).foldl stepP m) (fun s hs=>by rw[hs,List.take_length])]
 ·rfl
 ·intro i s hi hs;have hx:=z77 hi
  obtain⟨n,fb,n1,n2,n3⟩:=zo8 (fuel:=fuel) (key:=(a.getD i zzd).key) hf (by omega) h3;rw[n2];simp only[zz0];rw[z0a (by omega)];have hc:=zh3 (fun y=>decide (kc (a.getD i zzd).key y=0)) (r.drop n)
  rw[zzg]at hc;have hpl:=zf8 (a.take (i+1)) r
  have hle:(a.take (i+1)).length*r.length≤a.length*r.length:=Nat.mul_le_mul_right _ (by rw[List.length_take];omega);rw[zee hi,n3,zzj,List.length_map,List.length_take,zzg,Nat.min_eq_left hc]at hpl;have hsl:=ze4 (z2f (a.take i) r) m
  generalize hc':cntP (fun y=>decide (kc (a.getD i zzd).key y=0)) (r.drop n)=c at*;have hg: ∀t,n+t<r.length→(r.drop n).getD t zzd=r.getD (n+t) zzd:=fun t ht=>by simp[List.getD_eq_getElem?_getD,List.getElem?_drop]
  have hcl:((r.drop n).take c).length=c:=by rw[List.length_take,zzg];omega
  have hgc: ∀t,t<c→((r.drop n).take c).getD t zzd=r.getD (n+t) zzd:=fun t ht=>by
   rw[←hg _ (by omega)];simp[List.getD_eq_getElem?_getD,List.getElem?_take,ht]
  have key:=zml (x:=a.getD i zzd) (G:=(r.drop n).take c) (s:=s) (fuel:=fuel) (B:=fun(a9:Int×JoinMaker)=>bf (decide (a9.1<(((r.length:Int).toNat-(n:Int).toNat:Nat):Int))) (need ((0:Int)≤a9.1∧a9.1<(((r.length:Int).toNat-(n:Int).toNat:Nat):Int))<|need (((0+(n:Int).toNat)+a9.1.toNat)<r.length)<|(z3o ((a.getD i zzd).key) ((r.getD ((0+(n:Int).toNat)+a9.1.toNat) zzd).key)).bind fun r14=>bf (!decide (r14=0)) (some (.ret (a9.1,a9.2))) ((z2r (a.getD i zzd) (r.getD ((0+(n:Int).toNat)+a9.1.toNat) zzd) a9.2).bind fun r15=>some (.next ((zzi.wrap (a9.1+1)),r15)))) (some (.brk (a9.1,a9.2)))) (by omega) (fun j s' hj hs'=>by
   rw[hcl]at hj;simp only[z0i,zzk,zzb];rw[if_pos (by omega),z0a (by omega),z0a (by omega),z73];have hz:=of_decide_eq_true (zh4 (p:=fun y=>decide (kc (a.getD i zzd).key y=0)) (l:=r.drop n) (i:=j) (by omega))
   rw[hg _ (by omega)]at hz;have hy:=z77 (show n+j<r.length by omega)
   have hsl':=ze4 ((((r.drop n).take c).take j).map fun y=>(a.getD i zzd,y)) s;rw[←hs',List.length_map,List.length_take]at hsl';simp only[zz0,z4a,z0i];rw[if_pos ((IsCmp.list z8i).symm0 hz),znw (ha.ok _ hx) (hr.ok _ hy) (ha.t _ hx) (hr.t _ hy) (ha.d _ hx) (hr.d _ hy) (by rw[hs]at hsl';omega)];simp only[zz0];rw[wadd1 (by omega),hgc _ hj]) (fun s'=>by
   simp only[z0i,zzk,zzb,hcl];by_cases hl:c<r.length-n
   ·rw[if_pos (by omega),z0a (by omega),z0a (by omega),z73];have hz:=of_decide_eq_false (zh2 (p:=fun y=>decide (kc (a.getD i zzd).key y=0)) (l:=r.drop n) (by rw[hc',zzg];exact hl));rw[hc',hg _ (by omega)]at hz;simp only[zz0,z4a,z0i];rw[if_neg (fun h=>hz ((IsCmp.list z8i).symm0 h))];exact .inr rfl
   ·rw[if_neg (by omega)];exact .inl rfl)
  have hfin:(((r.drop n).take c).map fun y=>(a.getD i zzd,y)).foldl stepP s=(z2f (a.take (i+1)) r).foldl stepP m:=by
   rw[zee hi,n3,List.foldl_append,←hs]
  refine⟨_,?_,rfl⟩;rw[←hfin];rcases key with⟨z,hz⟩|⟨z,hz⟩
  ·rw[hz];rfl
  ·rw[hz];rfl
 ·simp[z2f]
end Go.Av
