import Derived.Test.YtgpkbkdmpdmmiaaGreatL4x5
import Derived.Test.YtgpkbkdmpdmmiaaGreatProg
import Derived.Sort.LotD3
import Derived.Sort.LotD4
import Derived.Sort.LotA
import Derived.Sort.LotB
import Derived.Sort.LotC
import Derived.Sort.AssemblyPlain
set_option maxRecDepth 100000
set_option linter.unusedVariables false
set_option linter.unusedSimpArgs false
set_option linter.unusedSectionVars false
open Go.IntKind renaming i64→zzi, u64→zzu
open Inhabited renaming default→zzd
open Option renaming bind_some→zz0
open Int renaming toNat_natCast→zz1
open Array renaming length_toList→zz2
open Nat renaming zero_add→zz4, le_of_ble_eq_true→zz5, le_refl→zzc
open List renaming mem_append→zz6, replicate→zz8, mem_singleton→zz9, mem_cons_self→zza, length_set→zze, mem_cons_of_mem→zzf, length_take→zzh, drop_eq_nil_of_le→zzk, mem_cons→zzm, length_drop→zzn, length_append→zzo
open Bool renaming not_true→zzj, false_eq_true→zzl
namespace Go.Av
open Go Go.Proofs
theorem z3q {p0:List Update}{q:List Update}(h:z1d p0=some q):
 Summ Tryz.prog 53 [cD (lD 6 z01 p0)] [] (cD (lD 6 z01 q)) []:=by
 refine Summ.i Tryz.func53 rfl [] fun w0 G0 V LL φ0=>?_;unfold z1d at h;refine Tri.sg [0] [] (z00 1) ?_;refine Tri.sg [0,3] [] (z00 1) ?_;refine z03 ?_;refine z0w [3,6,7,8] [] ⟨[(3,.c (.zero)),(6,cD (lD 6 z01 p0)),(7,cD (dI (p0.length:Int))),(8,cD (dI 0))],[]⟩ _ (by kernel_rfl) (z00 3) ?_;refine Tri.ln 6 p0.length fun hlena2=>?_;refine Tri.newOwn (t:=3) (k:=1003) (es:=6) (fun i=>z01 (([]:List Update).getD i zzd)) rfl rfl rfl ?_;refine z14 8 ([]:List Update) (fun(x:Empty) s=>False) (fun(a2:List Update)=>⟨[(3,.c (oC 1003 6 a2)),(6,cD (lD 6 z01 p0)),(7,cD (dI (p0.length:Int)))],[(1003,vL 6 z01 a2)]⟩) [8,3,6,7] [1003] [9,8,3,6,7] [1003] [3,6,7] [1003] [8,3,6,7] [1003] h hlena2 ?_ ?_ ?_
 ·intro i1 a2 c hii1 h;refine Tri.sg [3,5,6,7,8] [5,1003] (ai (show((0:Int)≤((i1:Nat):Int)∧((i1:Nat):Int)<(p0.length:Int))from⟨by omega,by omega⟩) (z00 3)) ?_;refine z03 ?_;refine z08 ?_;refine At.sg 2 [3,5,6,7,8,13] [5,1003] (z00 2) ?_;obtain⟨r4,hr4,h⟩:=z05 h;refine At.cA [] [cD (lD 3 z06 ((p0.getD i1 zzd).key))] (z34 hr4) (.cons (.refl _) .nil) ?_;refine At.sg 2 [3,5,6,7,8] [5,1003] (z00 2) ?_;refine At.done rfl ?_;refine z03 ?_;refine z08 ?_;refine At.sg 2 [3,5,6,7,8,17] [5,1003] (z00 2) ?_;obtain⟨r5,hr5,h⟩:=z05 h;refine At.cA [] [cD (lD 3 z06 ((p0.getD i1 zzd).row))] (z34 hr5) (.cons (.refl _) .nil) ?_;refine At.sg 2 [3,5,6,7,8] [5,1003] (z00 2) ?_;refine At.done rfl ?_;refine z08 ?_;refine At.seg 2 [6,7,8,20,21] [1003] (s':=⟨[(6,cD (lD 6 z01 p0)),(7,cD (dI (p0.length:Int))),(8,cD (dI ((i1:Nat):Int))),(20,.c (oC 1003 6 a2)),(21,.agg [.d (lD 3 z06 r4),.d (lD 3 z06 r5),.d (dU ((p0.getD i1 zzd).time.epoch)),.d (dU ((p0.getD i1 zzd).time.loop.1)),.d (dU ((p0.getD i1 zzd).time.loop.2)),.d (dI ((p0.getD i1 zzd).diff))])],[(1003,vL 6 z01 a2)]⟩) (by kernel_rfl) (z00 2) ?_;refine At.one rfl (One.buildSlice (z:=[.zero,.zero,.d (dU 0),.d (dU 0),.d (dU 0),.d (dI 0)]) (cells:=[.d (lD 3 z06 r4),.d (lD 3 z06 r5),.d (dU ((p0.getD i1 zzd).time.epoch)),.d (dU ((p0.getD i1 zzd).time.loop.1)),.d (dU ((p0.getD i1 zzd).time.loop.2)),.d (dI ((p0.getD i1 zzd).diff))]) (xs:=List.map (z01) ([(⟨r4,r5,(p0.getD i1 zzd).time,(p0.getD i1 zzd).diff⟩:Update)]:List Update)) rfl rfl rfl rfl (by kernel_rfl) rfl rfl (by kernel_rfl) rfl rfl rfl (by kernel_rfl) rfl ⟨⟨rfl,.refl _⟩,trivial⟩) ?_;refine At.l [22] ⟨[(22,cD (lD 6 z01 ([(⟨r4,r5,(p0.getD i1 zzd).time,(p0.getD i1 zzd).diff⟩:Update)]:List Update))),(6,cD (lD 6 z01 p0)),(7,cD (dI (p0.length:Int))),(8,cD (dI ((i1:Nat):Int))),(20,.c (oC 1003 6 a2)),(21,.agg [.d (lD 3 z06 r4),.d (lD 3 z06 r5),.d (dU ((p0.getD i1 zzd).time.epoch)),.d (dU ((p0.getD i1 zzd).time.loop.1)),.d (dU ((p0.getD i1 zzd).time.loop.2)),.d (dI ((p0.getD i1 zzd).diff))])],[(1003,vL 6 z01 a2)]⟩ ⟨⟨_,rfl,.c (.own rfl (zz9.2 rfl) (zz5 rfl) rfl (z24 (z01) ([(⟨r4,r5,(p0.getD i1 zzd).time,(p0.getD i1 zzd).diff⟩:Update)]:List Update)))⟩,⟨_,rfl,.refl _⟩,⟨_,rfl,.refl _⟩,⟨_,rfl,.refl _⟩,⟨_,rfl,.refl _⟩,⟨_,rfl,.refl _⟩,trivial⟩ ⟨⟨_,rfl,.refl _,(by simp)⟩,trivial⟩ ?_;obtain⟨hc6,h⟩:=z04 h;refine At.one rfl (z26 (e:=56) (es:=6) (z01) a2 ([(⟨r4,r5,(p0.getD i1 zzd).time,(p0.getD i1 zzd).diff⟩:Update)]:List Update) rfl rfl rfl rfl rfl (.of 56 80 [.zero,.zero,.d (dU 0),.d (dU 0),.d (dU 0),.d (dI 0)] (by kernel_rfl) (by kernel_rfl) (by kernel_rfl) (by kernel_rfl) rfl (by kernel_rfl) rfl) rfl rfl rfl (.list rfl (fun _ _=>rfl)) hc6) ?_;refine At.sg 1 [8,3,6,7] [1003] (z00 1) ?_;refine At.done rfl ?_;cases h;exact kr
 ·intro a3 h;refine Tri.sg [2] [1003] (z00 2) ?_;refine Tri.keep [2] [1003] (s':=⟨[(2,.c (oC 1003 6 a3))],[(1003,vL 6 z01 a3)]⟩) (by kernel_rfl) ?_;refine Tri.l [1003] ⟨[(2,cD (lD 6 z01 a3))],[]⟩ ⟨⟨_,rfl,.c (CLe.frozen (z01) a3 rfl (by simp))⟩,trivial⟩ trivial ?_;refine Tri.ret ?_;cases h;exact RetAt.k
 ·exact fun x=>x.elim
theorem zak {p0:Merger}{q:Merger}(h:z3c p0=some q):
 Summ Tryz.prog 19 [.agg (cMerger p0)] [] (.agg (cMerger q)) []:=by
 refine Summ.i Tryz.func19 rfl [] fun w0 G0 V LL φ0=>?_;unfold z3c at h;refine Tri.sg [1,2] [1,2] (z00 2) ?_;refine z03 ?_;obtain⟨r1,hr1,h⟩:=z05 h;obtain⟨r2,hr2,h⟩:=z05 h;obtain⟨r3,hr3,h⟩:=z05 h;refine z3d ⟨[(1,.c (.ptr 1 0)),(2,.c (.ptr 2 0))],[(1,.box [.d (lD 6 z01 r1),.d (lD 6 z01 r2),.d (dI p0.i),.d (dI p0.j),.d (lD 3 z02 p0.since),.d (lD 6 z01 r3)]),(2,.box [.zero,.zero,.d (dI 0),.d (dI 0),.zero,.zero])]⟩ [.a [1] [],.a [3] [1],.m ⟨[(4,cD (lD 6 z01 p0.a))],[]⟩ ⟨[(5,cD (lD 6 z01 r1))],[]⟩ [] [] [],.a [1] [],.a [6] [1],.m ⟨[(7,cD (lD 6 z01 p0.b))],[]⟩ ⟨[(8,cD (lD 6 z01 r2))],[]⟩ [] [] [],.a [1] [],.a [9] [1],.m ⟨[(10,cD (lD 6 z01 p0.out))],[]⟩ ⟨[(11,cD (lD 6 z01 r3))],[]⟩ [] [] [],.a [1] [],.m ⟨[(5,cD (lD 6 z01 r1)),(12,.c (.ptr 1 0))],[(1,.box (cMerger p0))]⟩ ⟨[],[(1,.box [.d (lD 6 z01 r1),.d (lD 6 z01 p0.b),.d (dI p0.i),.d (dI p0.j),.d (lD 3 z02 p0.since),.d (lD 6 z01 p0.out)])]⟩ [] [] [],.a [1] [],.m ⟨[(8,cD (lD 6 z01 r2)),(13,.c (.ptr 1 1))],[(1,.box [.d (lD 6 z01 r1),.d (lD 6 z01 p0.b),.d (dI p0.i),.d (dI p0.j),.d (lD 3 z02 p0.since),.d (lD 6 z01 p0.out)])]⟩ ⟨[],[(1,.box [.d (lD 6 z01 r1),.d (lD 6 z01 r2),.d (dI p0.i),.d (dI p0.j),.d (lD 3 z02 p0.since),.d (lD 6 z01 p0.out)])]⟩ [] [] [],.a [1] [],.m ⟨[(11,cD (lD 6 z01 r3)),(14,.c (.ptr 1 5))],[(1,.box [.d (lD 6 z01 r1),.d (lD 6 z01 r2),.d (dI p0.i),.d (dI p0.j),.d (lD 3 z02 p0.since),.d (lD 6 z01 p0.out)])]⟩ ⟨[],[(1,.box [.d (lD 6 z01 r1),.d (lD 6 z01 r2),.d (dI p0.i),.d (dI p0.j),.d (lD 3 z02 p0.since),.d (lD 6 z01 r3)])]⟩ [] [] []] [1,2] [1,2] (z00 9) (.a (.a (.m ?_ (.a (.a (.m ?_ (.a (.a (.m ?_ (.a (.m ?_ (.a (.m ?_ (.a (.m ?_ .z))))))))))))))) ?_
 ·exact DOk.cA [] [cD (lD 6 z01 p0.a)] (z3q hr1) fun r=>(.cons (.refl _) .nil)
 ·exact DOk.cA [] [cD (lD 6 z01 p0.b)] (z3q hr2) fun r=>(.cons (.refl _) .nil)
 ·exact DOk.cA [] [cD (lD 6 z01 p0.out)] (z3q hr3) fun r=>(.cons (.refl _) .nil)
 ·exact DOk.step (.turn 1 (.box [.d (lD 6 z01 r1),.d (lD 6 z01 p0.b),.d (dI p0.i),.d (dI p0.j),.d (lD 3 z02 p0.since),.d (lD 6 z01 p0.out)])) (fun r=>by kernel_rfl) (fun r=>by kernel_rfl) trivial (by kernel_rfl) (by kernel_rfl) (fun r=>rfl)
 ·exact DOk.step (.turn 1 (.box [.d (lD 6 z01 r1),.d (lD 6 z01 r2),.d (dI p0.i),.d (dI p0.j),.d (lD 3 z02 p0.since),.d (lD 6 z01 p0.out)])) (fun r=>by kernel_rfl) (fun r=>by kernel_rfl) trivial (by kernel_rfl) (by kernel_rfl) (fun r=>rfl)
 ·exact DOk.step (.turn 1 (.box [.d (lD 6 z01 r1),.d (lD 6 z01 r2),.d (dI p0.i),.d (dI p0.j),.d (lD 3 z02 p0.since),.d (lD 6 z01 r3)])) (fun r=>by kernel_rfl) (fun r=>by kernel_rfl) trivial (by kernel_rfl) (by kernel_rfl) (fun r=>rfl)
 refine z03 ?_;refine z08 ?_;refine At.one rfl (z5u (e:=54) (es:=3) rfl rfl rfl rfl (by kernel_rfl) rfl) ?_;refine At.seg 2 [1,2,15,17] [1,2] (s':=⟨[(1,.c (.ptr 1 0)),(2,.c (.ptr 2 0)),(15,.c (.zero)),(17,cD (lD 3 z02 p0.since))],[(1,.box [.d (lD 6 z01 r1),.d (lD 6 z01 r2),.d (dI p0.i),.d (dI p0.j),.d (lD 3 z02 p0.since),.d (lD 6 z01 r3)]),(2,.box [.zero,.zero,.d (dI 0),.d (dI 0),.zero,.zero])]⟩) (by kernel_rfl) (z00 2) ?_;obtain⟨hc4,h⟩:=z04 h;refine At.one rfl (z5c (e:=54) (es:=3) (m:=p0.since.length) (get:=fun i=>z02 (p0.since.getD i zzd)) rfl rfl rfl rfl (by kernel_rfl) (.of 54 24 [.d (dU 0),.d (dU 0),.d (dU 0)] (by kernel_rfl) (by kernel_rfl) (by kernel_rfl) (by kernel_rfl) rfl (by kernel_rfl) rfl) rfl rfl (.list rfl (fun _ _=>rfl)) hc4) ?_;refine At.sg 2 [1,2] [1,2,18] (z00 2) ?_;refine At.done rfl ?_;refine Tri.sg [2] [2,18] (z00 2) ?_;refine Tri.keep [2] [2,18] (s':=⟨[(2,.c (.ptr 2 0))],[(2,.box [.d (lD 6 z01 r1),.d (lD 6 z01 r2),.d (dI p0.i),.d (dI p0.j),oC 18 3 p0.since,.d (lD 6 z01 r3)]),(18,vL 3 z02 p0.since)]⟩) (by kernel_rfl) ?_;refine Tri.l [18] ⟨[(2,.c (.ptr 2 0))],[(2,.box [.d (lD 6 z01 r1),.d (lD 6 z01 r2),.d (dI p0.i),.d (dI p0.j),.d (lD 3 z02 p0.since),.d (lD 6 z01 r3)])]⟩ ⟨⟨_,rfl,.refl _⟩,trivial⟩ ⟨⟨_,rfl,.box (.cons (.refl _) (.cons (.refl _) (.cons (.refl _) (.cons (.refl _) (.cons (CLe.frozen (z02) p0.since rfl (by simp)) (.cons (.refl _) .nil)))))),(by simp)⟩,trivial⟩ ?_;refine Tri.ret ?_;cases h;exact RetAt.k
theorem z5h {fuel:Nat}{p0:Update}{p1:Update}{q:Int}(h:z2e fuel p0 p1=some q):
 Summ Tryz.prog 58 [.agg (cUpdate p0),.agg (cUpdate p1)] [] (cD (dI q)) []:=by
 refine Summ.i Tryz.func58 rfl [] fun w0 G0 V LL φ0=>?_;unfold z2e at h;refine Tri.sg [2,3] [2,3] (z00 3) ?_;refine z03 ?_;refine z08 ?_;refine At.sg 4 [2,3,7,9] [2,3] (z00 4) ?_;obtain⟨r1,hr1,h⟩:=z05 h;refine At.cA [] [cD (lD 3 z06 p0.key),cD (lD 3 z06 p1.key)] (z6p hr1) (.cons (.refl _) (.cons (.refl _) .nil)) ?_;refine At.sg 1 [2,3,5] [2,3] (z00 1) ?_;refine At.done rfl ?_;refine z0d (fun(a2:Int)=>⟨[(5,cD (dI a2))],[]⟩) h (fun a2 h=>?_) (fun j3 h=>?_)
 ·refine Tri.sg [4] [] (z00 2) ?_;refine Tri.ret ?_;cases h;exact RetAt.k
 ·refine Tri.sg [2,3,5,12] [2,3] (z00 2) ?_;refine z09 h (fun h=>?_) (fun h=>?_)
  ·refine z08 ?_;refine At.sg 4 [14,16] [] (z00 4) ?_;obtain⟨r4,hr4,h⟩:=z05 h;refine At.cA [] [cD (lD 3 z06 p0.row),cD (lD 3 z06 p1.row)] (z6p hr4) (.cons (.refl _) (.cons (.refl _) .nil)) ?_;refine At.sg 1 [5] [] (z00 1) ?_;refine At.done rfl ?_;exact⟨_,h,kr⟩
  ·refine Tri.kp [5] [] ?_;refine Tri.skip ?_;exact⟨_,h,kr⟩
theorem zax {fuel:Nat}{p0:List Update}{p1:Int}{p2:List Update}{q:Bool}(h:z5t fuel p0 p1 p2=some q):
 Summ Tryz.prog 61 [cD (lD 6 z01 p0),cD (dI p1),cD (lD 6 z01 p2)] [] (cD (.bool q)) []:=by
 refine Summ.i Tryz.func61 rfl [] fun w0 G0 V LL φ0=>?_;unfold z5t at h;refine z0w [0,1,2] [] ⟨[(0,cD (lD 6 z01 p0)),(1,cD (dI p1)),(2,cD (lD 6 z01 p2))],[]⟩ _ (by kernel_rfl) (z00 1) ?_;refine z03 ?_;refine z0d (fun(a1:Bool)=>⟨[(0,cD (lD 6 z01 p0)),(1,cD (dI p1)),(2,cD (lD 6 z01 p2)),(37,cD (.bool a1))],[]⟩) h (fun a1 h=>?_) (fun j2 h=>?_)
 ·refine Tri.eqS ⟨[(0,cD (lD 6 z01 p0)),(1,cD (dI p1)),(2,cD (lD 6 z01 p2)),(37,cD (.bool a1))],[]⟩ kr ?_;refine z09 h (fun h=>?_) (fun h=>?_)
  ·refine Tri.sg [6] [] (z00 1) ?_;refine Tri.ret ?_;cases h;exact RetAt.k
  ·refine Tri.skip ?_;refine z0d (fun(a3:Bool)=>⟨[(6,cD (.bool a3))],[]⟩) h (fun a3 h=>?_) (fun j4 h=>?_)
   ·refine Tri.ret ?_;cases h;exact RetAt.k
   ·rcases z0x h with⟨hp5,h⟩|⟨hp5,h⟩
    ·refine z0e [.a [2] [],.a [38] [],.a [39] [],.m ⟨[(40,cD (.bool (decide ((p2.length:Int)=0))))],[]⟩ ⟨[(41,.c (.d (.bool true)))],[]⟩ [] [] [],.a [1,41] [],.a [0,41] [],.a [41,43] [],.a [41,42,44] [],.a [41,45] [],.a [46] [],.a [2,47] [],.a [2,47] [],.a [47,49] [],.a [47,50] [],.a [47,48,51] [],.a [47,52] [],.a [0,47] [],.a [1,47] [],.a [47,54,55] [],.a [47,56] [],.a [47,53,57] [],.a [47,58] [],.a [47,59] [],.a [60] []] [6] [] (z00 7) (.a (.a (.a (.m ?_ (.a (.a (.a (.a (.a (.a (.a (.a (.a (.a (.a (.a (.a (.a (.a (.a (.a (.a (.a (.a .z)))))))))))))))))))))))) ?_
     ·exact z0a (fun b=> .val (.c (.d (.bool b))) (True)) (p:=(decide ((p2.length:Int)=0))) hp5 (fun r=>by kernel_rfl) (fun r=>by kernel_rfl) trivial (by kernel_rfl) (by kernel_rfl) (fun r=>rfl)
     exact⟨_,h,kr⟩
    ·rcases z0x h with⟨hp6,h⟩|⟨hp6,h⟩
     ·refine z0e [.a [2] [],.a [38] [],.a [39] [],.m ⟨[(40,cD (.bool (decide ((p2.length:Int)=0))))],[]⟩ ⟨[(41,.c (.d (.bool false)))],[]⟩ [] [] [],.a [1,41] [],.a [0,41] [],.a [41,43] [],.a [41,42,44] [],.a [41,45] [],.m ⟨[(46,cD (.bool (decide (p1=(p0.length:Int)))))],[]⟩ ⟨[(47,.c (.d (.bool true)))],[]⟩ [] [] [],.a [2,47] [],.a [2,47] [],.a [47,49] [],.a [47,50] [],.a [47,48,51] [],.a [47,52] [],.a [0,47] [],.a [1,47] [],.a [47,54,55] [],.a [47,56] [],.a [47,53,57] [],.a [47,58] [],.a [47,59] [],.a [60] []] [6] [] (z00 10) (.a (.a (.a (.m ?_ (.a (.a (.a (.a (.a (.m ?_ (.a (.a (.a (.a (.a (.a (.a (.a (.a (.a (.a (.a (.a (.a .z)))))))))))))))))))))))) ?_
      ·exact z0a (fun b=> .val (.c (.d (.bool b))) (True)) (p:=(decide ((p2.length:Int)=0))) hp5 (fun r=>by kernel_rfl) (fun r=>by kernel_rfl) trivial (by kernel_rfl) (by kernel_rfl) (fun r=>rfl)
      ·exact z0a (fun b=> .val (.c (.d (.bool b))) (True)) (p:=(decide (p1=(p0.length:Int)))) hp6 (fun r=>by kernel_rfl) (fun r=>by kernel_rfl) trivial (by kernel_rfl) (by kernel_rfl) (fun r=>rfl)
      exact⟨_,h,kr⟩
     ·obtain⟨hc7,h⟩:=z04 h;obtain⟨hc8,h⟩:=z04 h;obtain⟨r9,hr9,h⟩:=z05 h;refine z0e [.a [2] [],.a [38] [],.a [39] [],.m ⟨[(40,cD (.bool (decide ((p2.length:Int)=0))))],[]⟩ ⟨[(41,.c (.d (.bool false)))],[]⟩ [] [] [],.a [1,41] [],.a [0,41] [],.a [41,43] [],.a [41,42,44] [],.a [41,45] [],.m ⟨[(46,cD (.bool (decide (p1=(p0.length:Int)))))],[]⟩ ⟨[(47,.c (.d (.bool false)))],[]⟩ [] [] [],.a [2,47] [],.a [2,47] [],.a [47,49] [],.a [47,50] [],.a [47,48,51] [],.a [47,52] [],.a [0,47] [],.a [1,47] [],.a [47,54,55] [],.a [47,56] [],.m ⟨[(47,cD (.bool false)),(53,.agg (cUpdate (p2.getD ((zzi.wrap ((p2.length:Int)-1)).toNat) zzd))),(57,.agg (cUpdate (p0.getD p1.toNat zzd)))],[]⟩ ⟨[(58,cD (dI r9))],[]⟩ [] [] [],.a [47,58] [],.a [47,59] [],.a [60] []] [6] [] (tN 12 (ai hc7 (tN 3 (ai hc8 (z00 4))))) (.a (.a (.a (.m ?_ (.a (.a (.a (.a (.a (.m ?_ (.a (.a (.a (.a (.a (.a (.a (.a (.a (.a (.m ?_ (.a (.a (.a .z)))))))))))))))))))))))) ?_
      ·exact z0a (fun b=> .val (.c (.d (.bool b))) (True)) (p:=(decide ((p2.length:Int)=0))) hp5 (fun r=>by kernel_rfl) (fun r=>by kernel_rfl) trivial (by kernel_rfl) (by kernel_rfl) (fun r=>rfl)
      ·exact z0a (fun b=> .val (.c (.d (.bool b))) (True)) (p:=(decide (p1=(p0.length:Int)))) hp6 (fun r=>by kernel_rfl) (fun r=>by kernel_rfl) trivial (by kernel_rfl) (by kernel_rfl) (fun r=>rfl)
      ·exact DOk.cA [] [.agg (cUpdate (p2.getD ((zzi.wrap ((p2.length:Int)-1)).toNat) zzd)),.agg (cUpdate (p0.getD p1.toNat zzd))] (z5h hr9) fun r=>(.cons (.refl _) (.cons (.refl _) .nil))
      exact⟨_,h,kr⟩
 ·rcases z0x h with⟨hp10,h⟩|⟨hp10,h⟩
  ·refine z0e [.a [1] [],.a [7] [],.m ⟨[(8,cD (.bool (decide (p1<0))))],[]⟩ ⟨[(9,.c (.d (.bool true)))],[]⟩ [] [] [],.a [1,9] [],.a [0,9] [],.a [9,11] [],.a [9,10,12] [],.a [9,13] [],.a [14] [],.a [1,15] [],.a [15,16] [],.a [15,17] [],.a [1,18] [],.a [0,18] [],.a [18,20] [],.a [18,19,21] [],.a [15,18,22] [],.a [15,23] [],.a [0,24] [],.a [1,24] [],.a [24,26] [],.a [24,25,27] [],.a [24,28] [],.a [0,24] [],.a [1,24] [],.a [24,30,31] [],.a [24,32] [],.a [24,29,33] [],.a [24,34] [],.a [15,24,35] [],.a [15,36] []] [0,1,2,37] [] (z00 5) (.a (.a (.m ?_ (.a (.a (.a (.a (.a (.a (.a (.a (.a (.a (.a (.a (.a (.a (.a (.a (.a (.a (.a (.a (.a (.a (.a (.a (.a (.a (.a (.a .z))))))))))))))))))))))))))))))) ?_
   ·exact z0a (fun b=> .val (.c (.d (.bool b))) (True)) (p:=(decide (p1<0))) hp10 (fun r=>by kernel_rfl) (fun r=>by kernel_rfl) trivial (by kernel_rfl) (by kernel_rfl) (fun r=>rfl)
   exact⟨_,h,kr⟩
  ·rcases z0x h with⟨hp11,h⟩|⟨hp11,h⟩
   ·refine z0e [.a [1] [],.a [7] [],.m ⟨[(8,cD (.bool (decide (p1<0))))],[]⟩ ⟨[(9,.c (.d (.bool false)))],[]⟩ [] [] [],.a [1,9] [],.a [0,9] [],.a [9,11] [],.a [9,10,12] [],.a [9,13] [],.m ⟨[(14,cD (.bool (decide ((p0.length:Int)<p1))))],[]⟩ ⟨[(15,.c (.d (.bool true)))],[]⟩ [] [] [],.a [1,15] [],.a [15,16] [],.a [15,17] [],.a [1,18] [],.a [0,18] [],.a [18,20] [],.a [18,19,21] [],.a [15,18,22] [],.a [15,23] [],.a [0,24] [],.a [1,24] [],.a [24,26] [],.a [24,25,27] [],.a [24,28] [],.a [0,24] [],.a [1,24] [],.a [24,30,31] [],.a [24,32] [],.a [24,29,33] [],.a [24,34] [],.a [15,24,35] [],.a [15,36] []] [0,1,2,37] [] (z00 8) (.a (.a (.m ?_ (.a (.a (.a (.a (.a (.m ?_ (.a (.a (.a (.a (.a (.a (.a (.a (.a (.a (.a (.a (.a (.a (.a (.a (.a (.a (.a (.a (.a (.a .z))))))))))))))))))))))))))))))) ?_
    ·exact z0a (fun b=> .val (.c (.d (.bool b))) (True)) (p:=(decide (p1<0))) hp10 (fun r=>by kernel_rfl) (fun r=>by kernel_rfl) trivial (by kernel_rfl) (by kernel_rfl) (fun r=>rfl)
    ·exact z0a (fun b=> .val (.c (.d (.bool b))) (True)) (p:=(decide ((p0.length:Int)<p1))) hp11 (fun r=>by kernel_rfl) (fun r=>by kernel_rfl) trivial (by kernel_rfl) (by kernel_rfl) (fun r=>rfl)
    exact⟨_,h,kr⟩
   ·rcases z0x h with⟨hp12,h⟩|⟨hp12,h⟩
    ·rcases z0x h with⟨hp13,h⟩|⟨hp13,h⟩
     ·obtain⟨hc14,h⟩:=z04 h;obtain⟨hc15,h⟩:=z04 h;obtain⟨r16,hr16,h⟩:=z05 h;refine z0e [.a [1] [],.a [7] [],.m ⟨[(8,cD (.bool (decide (p1<0))))],[]⟩ ⟨[(9,.c (.d (.bool false)))],[]⟩ [] [] [],.a [1,9] [],.a [0,9] [],.a [9,11] [],.a [9,10,12] [],.a [9,13] [],.m ⟨[(14,cD (.bool (decide ((p0.length:Int)<p1))))],[]⟩ ⟨[(15,.c (.d (.bool false)))],[]⟩ [] [] [],.a [1,15] [],.a [15,16] [],.m ⟨[(15,cD (.bool false)),(17,cD (.bool (decide (0<p1))))],[]⟩ ⟨[(18,.c (.d (.bool true)))],[]⟩ [] [] [],.a [1,18] [],.a [0,18] [],.a [18,20] [],.a [18,19,21] [],.a [15,18,22] [],.m ⟨[(15,cD (.bool false)),(23,cD (.bool (decide (p1<(p0.length:Int)))))],[]⟩ ⟨[(24,.c (.d (.bool true)))],[]⟩ [] [] [],.a [0,24] [],.a [1,24] [],.a [24,26] [],.a [24,25,27] [],.a [24,28] [],.a [0,24] [],.a [1,24] [],.a [24,30,31] [],.a [24,32] [],.m ⟨[(24,cD (.bool true)),(29,.agg (cUpdate (p0.getD ((zzi.wrap (p1-1)).toNat) zzd))),(33,.agg (cUpdate (p0.getD p1.toNat zzd)))],[]⟩ ⟨[(34,cD (dI r16))],[]⟩ [] [] [],.a [24,34] [],.a [15,24,35] [],.a [15,36] []] [0,1,2,37] [] (tN 17 (ai hc14 (tN 3 (ai hc15 (z00 4))))) (.a (.a (.m ?_ (.a (.a (.a (.a (.a (.m ?_ (.a (.a (.m ?_ (.a (.a (.a (.a (.a (.m ?_ (.a (.a (.a (.a (.a (.a (.a (.a (.a (.m ?_ (.a (.a (.a .z))))))))))))))))))))))))))))))) ?_
      ·exact z0a (fun b=> .val (.c (.d (.bool b))) (True)) (p:=(decide (p1<0))) hp10 (fun r=>by kernel_rfl) (fun r=>by kernel_rfl) trivial (by kernel_rfl) (by kernel_rfl) (fun r=>rfl)
      ·exact z0a (fun b=> .val (.c (.d (.bool b))) (True)) (p:=(decide ((p0.length:Int)<p1))) hp11 (fun r=>by kernel_rfl) (fun r=>by kernel_rfl) trivial (by kernel_rfl) (by kernel_rfl) (fun r=>rfl)
      ·exact z0a (fun b=> .val (.c (.d (.bool b))) (True)) (p:=(decide (0<p1))) hp12 (fun r=>by kernel_rfl) (fun r=>by kernel_rfl) trivial (by kernel_rfl) (by kernel_rfl) (fun r=>rfl)
      ·exact z0a (fun b=> .val (.c (.d (.bool b))) (True)) (p:=(decide (p1<(p0.length:Int)))) hp13 (fun r=>by kernel_rfl) (fun r=>by kernel_rfl) trivial (by kernel_rfl) (by kernel_rfl) (fun r=>rfl)
      ·exact DOk.cA [] [.agg (cUpdate (p0.getD ((zzi.wrap (p1-1)).toNat) zzd)),.agg (cUpdate (p0.getD p1.toNat zzd))] (z5h hr16) fun r=>(.cons (.refl _) (.cons (.refl _) .nil))
      exact⟨_,h,kr⟩
     ·refine z0e [.a [1] [],.a [7] [],.m ⟨[(8,cD (.bool (decide (p1<0))))],[]⟩ ⟨[(9,.c (.d (.bool false)))],[]⟩ [] [] [],.a [1,9] [],.a [0,9] [],.a [9,11] [],.a [9,10,12] [],.a [9,13] [],.m ⟨[(14,cD (.bool (decide ((p0.length:Int)<p1))))],[]⟩ ⟨[(15,.c (.d (.bool false)))],[]⟩ [] [] [],.a [1,15] [],.a [15,16] [],.m ⟨[(15,cD (.bool false)),(17,cD (.bool (decide (0<p1))))],[]⟩ ⟨[(18,.c (.d (.bool true)))],[]⟩ [] [] [],.a [1,18] [],.a [0,18] [],.a [18,20] [],.a [18,19,21] [],.a [15,18,22] [],.m ⟨[(15,cD (.bool false)),(23,cD (.bool (decide (p1<(p0.length:Int)))))],[]⟩ ⟨[(24,.c (.d (.bool false)))],[]⟩ [] [] [],.a [0,24] [],.a [1,24] [],.a [24,26] [],.a [24,25,27] [],.a [24,28] [],.a [0,24] [],.a [1,24] [],.a [24,30,31] [],.a [24,32] [],.a [24,29,33] [],.a [24,34] [],.a [15,24,35] [],.a [15,36] []] [0,1,2,37] [] (z00 16) (.a (.a (.m ?_ (.a (.a (.a (.a (.a (.m ?_ (.a (.a (.m ?_ (.a (.a (.a (.a (.a (.m ?_ (.a (.a (.a (.a (.a (.a (.a (.a (.a (.a (.a (.a (.a .z))))))))))))))))))))))))))))))) ?_
      ·exact z0a (fun b=> .val (.c (.d (.bool b))) (True)) (p:=(decide (p1<0))) hp10 (fun r=>by kernel_rfl) (fun r=>by kernel_rfl) trivial (by kernel_rfl) (by kernel_rfl) (fun r=>rfl)
      ·exact z0a (fun b=> .val (.c (.d (.bool b))) (True)) (p:=(decide ((p0.length:Int)<p1))) hp11 (fun r=>by kernel_rfl) (fun r=>by kernel_rfl) trivial (by kernel_rfl) (by kernel_rfl) (fun r=>rfl)
      ·exact z0a (fun b=> .val (.c (.d (.bool b))) (True)) (p:=(decide (0<p1))) hp12 (fun r=>by kernel_rfl) (fun r=>by kernel_rfl) trivial (by kernel_rfl) (by kernel_rfl) (fun r=>rfl)
      ·exact z0a (fun b=> .val (.c (.d (.bool b))) (True)) (p:=(decide (p1<(p0.length:Int)))) hp13 (fun r=>by kernel_rfl) (fun r=>by kernel_rfl) trivial (by kernel_rfl) (by kernel_rfl) (fun r=>rfl)
      exact⟨_,h,kr⟩
    ·refine z0e [.a [1] [],.a [7] [],.m ⟨[(8,cD (.bool (decide (p1<0))))],[]⟩ ⟨[(9,.c (.d (.bool false)))],[]⟩ [] [] [],.a [1,9] [],.a [0,9] [],.a [9,11] [],.a [9,10,12] [],.a [9,13] [],.m ⟨[(14,cD (.bool (decide ((p0.length:Int)<p1))))],[]⟩ ⟨[(15,.c (.d (.bool false)))],[]⟩ [] [] [],.a [1,15] [],.a [15,16] [],.m ⟨[(15,cD (.bool false)),(17,cD (.bool (decide (0<p1))))],[]⟩ ⟨[(18,.c (.d (.bool false)))],[]⟩ [] [] [],.a [1,18] [],.a [0,18] [],.a [18,20] [],.a [18,19,21] [],.a [15,18,22] [],.a [15,23] [],.a [0,24] [],.a [1,24] [],.a [24,26] [],.a [24,25,27] [],.a [24,28] [],.a [0,24] [],.a [1,24] [],.a [24,30,31] [],.a [24,32] [],.a [24,29,33] [],.a [24,34] [],.a [15,24,35] [],.a [15,36] []] [0,1,2,37] [] (z00 13) (.a (.a (.m ?_ (.a (.a (.a (.a (.a (.m ?_ (.a (.a (.m ?_ (.a (.a (.a (.a (.a (.a (.a (.a (.a (.a (.a (.a (.a (.a (.a (.a (.a (.a (.a .z))))))))))))))))))))))))))))))) ?_
     ·exact z0a (fun b=> .val (.c (.d (.bool b))) (True)) (p:=(decide (p1<0))) hp10 (fun r=>by kernel_rfl) (fun r=>by kernel_rfl) trivial (by kernel_rfl) (by kernel_rfl) (fun r=>rfl)
     ·exact z0a (fun b=> .val (.c (.d (.bool b))) (True)) (p:=(decide ((p0.length:Int)<p1))) hp11 (fun r=>by kernel_rfl) (fun r=>by kernel_rfl) trivial (by kernel_rfl) (by kernel_rfl) (fun r=>rfl)
     ·exact z0a (fun b=> .val (.c (.d (.bool b))) (True)) (p:=(decide (0<p1))) hp12 (fun r=>by kernel_rfl) (fun r=>by kernel_rfl) trivial (by kernel_rfl) (by kernel_rfl) (fun r=>rfl)
     exact⟨_,h,kr⟩
theorem z4v {fuel:Nat}{p0:Merger}{q:Int}(h:z2j fuel p0=some q):
 Summ Tryz.prog 28 [.agg (cMerger p0)] [] (cD (dI q)) []:=by
 refine Summ.i Tryz.func28 rfl [] fun w0 G0 V LL φ0=>?_;unfold z2j at h;refine Tri.sg [1] [1] (z00 2) ?_;refine z03 ?_;refine z0d (fun(a1:Bool)=>⟨[(52,cD (.bool a1))],[]⟩) h (fun a1 h=>?_) (fun j2 h=>?_)
 ·refine z09 h (fun h=>?_) (fun h=>?_)
  ·refine Tri.sg [2] [] (z00 1) ?_;refine Tri.ret ?_;cases h;exact RetAt.k
  ·refine Tri.skip ?_;refine Tri.sg [2] [] (z00 1) ?_;refine Tri.ret ?_;cases h;exact RetAt.k
 ·refine z08 ?_;refine At.sg 2 [1,4] [1] (z00 2) ?_;obtain⟨r3,hr3,h⟩:=z05 h;refine At.cA [] [cD (lD 3 z02 p0.since)] (z85 hr3) (.cons (.refl _) .nil) ?_;refine At.sg 2 [1,7] [1] (z00 2) ?_;refine At.cs [7] h (fun h=>?_) (fun h=>?_)
  ·refine At.sg 45 [52] [] (z00 11) ?_;refine At.done rfl ?_;exact⟨_,h,kr⟩
  ·refine At.sg 2 [1,7,9] [1] (z00 2) ?_;obtain⟨r4,hr4,h⟩:=z05 h;refine At.cA [] [cD (lD 6 z01 p0.a)] (z6r hr4) (.cons (.refl _) .nil) ?_;refine At.sg 3 [1,13] [1] (z00 3) ?_;refine At.cs [13] h (fun h=>?_) (fun h=>?_)
   ·refine At.sg 39 [52] [] (z00 9) ?_;refine At.done rfl ?_;exact⟨_,h,kr⟩
   ·refine At.sg 2 [1,13,15] [1] (z00 2) ?_;obtain⟨r5,hr5,h⟩:=z05 h;refine At.cA [] [cD (lD 6 z01 p0.b)] (z6r hr5) (.cons (.refl _) .nil) ?_;refine At.sg 3 [1,19] [1] (z00 3) ?_;refine At.cs [19] h (fun h=>?_) (fun h=>?_)
    ·refine At.sg 33 [52] [] (z00 7) ?_;refine At.done rfl ?_;exact⟨_,h,kr⟩
    ·refine At.sg 2 [1,19,21] [1] (z00 2) ?_;obtain⟨r6,hr6,h⟩:=z05 h;refine At.cA [] [cD (lD 6 z01 p0.out)] (z6r hr6) (.cons (.refl _) .nil) ?_;refine At.sg 3 [1,25] [1] (z00 3) ?_;refine At.cs [25] h (fun h=>?_) (fun h=>?_)
     ·refine At.sg 27 [52] [] (z00 5) ?_;refine At.done rfl ?_;exact⟨_,h,kr⟩
     ·refine At.sg 4 [1,25,27,29] [1] (z00 4) ?_;obtain⟨r7,hr7,h⟩:=z05 h;refine At.cA [] [cD (lD 6 z01 p0.out),cD (lD 3 z02 p0.since)] (z91 hr7) (.cons (.refl _) (.cons (.refl _) .nil)) ?_;refine At.sg 3 [1,33] [1] (z00 3) ?_;refine At.cs [33] h (fun h=>?_) (fun h=>?_)
      ·refine At.sg 19 [52] [] (z00 3) ?_;refine At.done rfl ?_;exact⟨_,h,kr⟩
      ·refine At.sg 6 [1,33,35,37,39] [1] (z00 6) ?_;obtain⟨r8,hr8,h⟩:=z05 h;refine At.cA [] [cD (lD 6 z01 p0.a),cD (dI p0.i),cD (lD 6 z01 p0.out)] (zax hr8) (.cons (.refl _) (.cons (.refl _) (.cons (.refl _) .nil))) ?_;refine At.sg 3 [1,43] [1] (z00 3) ?_;refine At.cs [43] h (fun h=>?_) (fun h=>?_)
       ·refine At.sg 9 [52] [] (z00 1) ?_;refine At.done rfl ?_;exact⟨_,h,kr⟩
       ·refine At.sg 6 [43,45,47,49] [] (z00 6) ?_;obtain⟨r9,hr9,h⟩:=z05 h;refine At.cA [] [cD (lD 6 z01 p0.b),cD (dI p0.j),cD (lD 6 z01 p0.out)] (zax hr9) (.cons (.refl _) (.cons (.refl _) (.cons (.refl _) .nil))) ?_;refine At.sg 2 [52] [] (z00 2) ?_;refine At.done rfl ?_;exact⟨_,h,kr⟩
theorem zdx {p0:List Update}{q:List Update}(h:z1d p0=some q):
 Summ Tryz.prog 53 [cD (lD 6 z01 p0)] [] (.c (oC 6000 6 q)) [(6000,vL 6 z01 q)]:=by
 refine Summ.i Tryz.func53 rfl [6000] fun w0 G0 V LL φ0=>?_;unfold z1d at h;refine Tri.sg [0] [] (z00 1) ?_;refine Tri.sg [0,3] [] (z00 1) ?_;refine z03 ?_;refine z0w [3,6,7,8] [] ⟨[(3,.c (.zero)),(6,cD (lD 6 z01 p0)),(7,cD (dI (p0.length:Int))),(8,cD (dI 0))],[]⟩ _ (by kernel_rfl) (z00 3) ?_;refine Tri.ln 6 p0.length fun hlena2=>?_;refine Tri.newOwn (t:=3) (k:=1003) (es:=6) (fun i=>z01 (([]:List Update).getD i zzd)) rfl rfl rfl ?_;refine z14 8 ([]:List Update) (fun(x:Empty) s=>False) (fun(a2:List Update)=>⟨[(3,.c (oC 1003 6 a2)),(6,cD (lD 6 z01 p0)),(7,cD (dI (p0.length:Int)))],[(1003,vL 6 z01 a2)]⟩) [8,3,6,7] [1003] [9,8,3,6,7] [1003] [3,6,7] [1003] [8,3,6,7] [1003] h hlena2 ?_ ?_ ?_
 ·intro i1 a2 c hii1 h;refine Tri.sg [3,5,6,7,8] [5,1003] (ai (show((0:Int)≤((i1:Nat):Int)∧((i1:Nat):Int)<(p0.length:Int))from⟨by omega,by omega⟩) (z00 3)) ?_;refine z03 ?_;refine z08 ?_;refine At.sg 2 [3,5,6,7,8,13] [5,1003] (z00 2) ?_;obtain⟨r4,hr4,h⟩:=z05 h;refine At.cA [] [cD (lD 3 z06 ((p0.getD i1 zzd).key))] (z34 hr4) (.cons (.refl _) .nil) ?_;refine At.sg 2 [3,5,6,7,8] [5,1003] (z00 2) ?_;refine At.done rfl ?_;refine z03 ?_;refine z08 ?_;refine At.sg 2 [3,5,6,7,8,17] [5,1003] (z00 2) ?_;obtain⟨r5,hr5,h⟩:=z05 h;refine At.cA [] [cD (lD 3 z06 ((p0.getD i1 zzd).row))] (z34 hr5) (.cons (.refl _) .nil) ?_;refine At.sg 2 [3,5,6,7,8] [5,1003] (z00 2) ?_;refine At.done rfl ?_;refine z08 ?_;refine At.seg 2 [6,7,8,20,21] [1003] (s':=⟨[(6,cD (lD 6 z01 p0)),(7,cD (dI (p0.length:Int))),(8,cD (dI ((i1:Nat):Int))),(20,.c (oC 1003 6 a2)),(21,.agg [.d (lD 3 z06 r4),.d (lD 3 z06 r5),.d (dU ((p0.getD i1 zzd).time.epoch)),.d (dU ((p0.getD i1 zzd).time.loop.1)),.d (dU ((p0.getD i1 zzd).time.loop.2)),.d (dI ((p0.getD i1 zzd).diff))])],[(1003,vL 6 z01 a2)]⟩) (by kernel_rfl) (z00 2) ?_;refine At.one rfl (One.buildSlice (z:=[.zero,.zero,.d (dU 0),.d (dU 0),.d (dU 0),.d (dI 0)]) (cells:=[.d (lD 3 z06 r4),.d (lD 3 z06 r5),.d (dU ((p0.getD i1 zzd).time.epoch)),.d (dU ((p0.getD i1 zzd).time.loop.1)),.d (dU ((p0.getD i1 zzd).time.loop.2)),.d (dI ((p0.getD i1 zzd).diff))]) (xs:=List.map (z01) ([(⟨r4,r5,(p0.getD i1 zzd).time,(p0.getD i1 zzd).diff⟩:Update)]:List Update)) rfl rfl rfl rfl (by kernel_rfl) rfl rfl (by kernel_rfl) rfl rfl rfl (by kernel_rfl) rfl ⟨⟨rfl,.refl _⟩,trivial⟩) ?_;refine At.l [22] ⟨[(22,cD (lD 6 z01 ([(⟨r4,r5,(p0.getD i1 zzd).time,(p0.getD i1 zzd).diff⟩:Update)]:List Update))),(6,cD (lD 6 z01 p0)),(7,cD (dI (p0.length:Int))),(8,cD (dI ((i1:Nat):Int))),(20,.c (oC 1003 6 a2)),(21,.agg [.d (lD 3 z06 r4),.d (lD 3 z06 r5),.d (dU ((p0.getD i1 zzd).time.epoch)),.d (dU ((p0.getD i1 zzd).time.loop.1)),.d (dU ((p0.getD i1 zzd).time.loop.2)),.d (dI ((p0.getD i1 zzd).diff))])],[(1003,vL 6 z01 a2)]⟩ ⟨⟨_,rfl,.c (.own rfl (zz9.2 rfl) (zz5 rfl) rfl (z24 (z01) ([(⟨r4,r5,(p0.getD i1 zzd).time,(p0.getD i1 zzd).diff⟩:Update)]:List Update)))⟩,⟨_,rfl,.refl _⟩,⟨_,rfl,.refl _⟩,⟨_,rfl,.refl _⟩,⟨_,rfl,.refl _⟩,⟨_,rfl,.refl _⟩,trivial⟩ ⟨⟨_,rfl,.refl _,(by simp)⟩,trivial⟩ ?_;obtain⟨hc6,h⟩:=z04 h;refine At.one rfl (z26 (e:=56) (es:=6) (z01) a2 ([(⟨r4,r5,(p0.getD i1 zzd).time,(p0.getD i1 zzd).diff⟩:Update)]:List Update) rfl rfl rfl rfl rfl (.of 56 80 [.zero,.zero,.d (dU 0),.d (dU 0),.d (dU 0),.d (dI 0)] (by kernel_rfl) (by kernel_rfl) (by kernel_rfl) (by kernel_rfl) rfl (by kernel_rfl) rfl) rfl rfl rfl (.list rfl (fun _ _=>rfl)) hc6) ?_;refine At.sg 1 [8,3,6,7] [1003] (z00 1) ?_;refine At.done rfl ?_;cases h;exact kr
 ·intro a3 h;refine Tri.sg [2] [1003] (z00 2) ?_;refine Tri.keep [2] [1003] (s':=⟨[(2,.c (oC 1003 6 a3))],[(1003,vL 6 z01 a3)]⟩) (by kernel_rfl) ?_;refine Tri.rename 1003 6000 ⟨[(2,.c (oC 6000 6 a3))],[(6000,vL 6 z01 a3)]⟩ (by kernel_rfl) rfl rfl rfl ?_;refine Tri.ret ?_;cases h;exact RetAt.k
 ·exact fun x=>x.elim
theorem zc4 {p0:Merger}{q:Merger}(h:z3c p0=some q):
 Summ Tryz.prog 19 [.agg (cMerger p0)] [] (.agg [.d (lD 6 z01 q.a),.d (lD 6 z01 q.b),.d (dI q.i),.d (dI q.j),.d (lD 3 z02 q.since),oC 6105 6 q.out]) [(6105,vL 6 z01 q.out)]:=by
 refine Summ.i Tryz.func19 rfl [6105] fun w0 G0 V LL φ0=>?_;unfold z3c at h;refine Tri.sg [1,2] [1,2] (z00 2) ?_;refine z03 ?_;obtain⟨r1,hr1,h⟩:=z05 h;obtain⟨r2,hr2,h⟩:=z05 h;obtain⟨r3,hr3,h⟩:=z05 h;refine z3d ⟨[(1,.c (.ptr 1 0)),(2,.c (.ptr 2 0))],[(1,.box [.d (lD 6 z01 r1),.d (lD 6 z01 r2),.d (dI p0.i),.d (dI p0.j),.d (lD 3 z02 p0.since),oC 30176 6 r3]),(2,.box [.zero,.zero,.d (dI 0),.d (dI 0),.zero,.zero]),(30176,vL 6 z01 r3)]⟩ [.a [1] [],.a [3] [1],.m ⟨[(4,cD (lD 6 z01 p0.a))],[]⟩ ⟨[(5,cD (lD 6 z01 r1))],[]⟩ [] [] [],.a [1] [],.a [6] [1],.m ⟨[(7,cD (lD 6 z01 p0.b))],[]⟩ ⟨[(8,cD (lD 6 z01 r2))],[]⟩ [] [] [],.a [1] [],.a [9] [1],.m ⟨[(10,cD (lD 6 z01 p0.out))],[]⟩ ⟨[(11,.c (oC 30176 6 r3))],[(30176,vL 6 z01 r3)]⟩ [30176] [] [],.a [1] [],.m ⟨[(5,cD (lD 6 z01 r1)),(12,.c (.ptr 1 0))],[(1,.box (cMerger p0))]⟩ ⟨[],[(1,.box [.d (lD 6 z01 r1),.d (lD 6 z01 p0.b),.d (dI p0.i),.d (dI p0.j),.d (lD 3 z02 p0.since),.d (lD 6 z01 p0.out)])]⟩ [] [] [],.a [1] [],.m ⟨[(8,cD (lD 6 z01 r2)),(13,.c (.ptr 1 1))],[(1,.box [.d (lD 6 z01 r1),.d (lD 6 z01 p0.b),.d (dI p0.i),.d (dI p0.j),.d (lD 3 z02 p0.since),.d (lD 6 z01 p0.out)])]⟩ ⟨[],[(1,.box [.d (lD 6 z01 r1),.d (lD 6 z01 r2),.d (dI p0.i),.d (dI p0.j),.d (lD 3 z02 p0.since),.d (lD 6 z01 p0.out)])]⟩ [] [] [],.a [1] [],.m ⟨[(11,.c (oC 30176 6 r3)),(14,.c (.ptr 1 5))],[(1,.box [.d (lD 6 z01 r1),.d (lD 6 z01 r2),.d (dI p0.i),.d (dI p0.j),.d (lD 3 z02 p0.since),.d (lD 6 z01 p0.out)]),(30176,vL 6 z01 r3)]⟩ ⟨[],[(1,.box [.d (lD 6 z01 r1),.d (lD 6 z01 r2),.d (dI p0.i),.d (dI p0.j),.d (lD 3 z02 p0.since),oC 30176 6 r3])]⟩ [] [] []] [1,2] [1,2,30176] (z00 9) (.a (.a (.m ?_ (.a (.a (.m ?_ (.a (.a (.m ?_ (.a (.m ?_ (.a (.m ?_ (.a (.m ?_ .z))))))))))))))) ?_
 ·exact DOk.cA [] [cD (lD 6 z01 p0.a)] (z3q hr1) fun r=>(.cons (.refl _) .nil)
 ·exact DOk.cA [] [cD (lD 6 z01 p0.b)] (z3q hr2) fun r=>(.cons (.refl _) .nil)
 ·exact DOk.callL (nf:=0) (caps:=[]) (xs:=[cD (lD 6 z01 p0.out)]) [(6000,30176)] (zdx hr3) rfl (fun r=>by kernel_rfl) rfl (fun r=>by kernel_rfl) (fun r=>by kernel_rfl) (fun r=>(.flat (.refl _) rfl rfl .nil)) (fun r=>trivial) (by kernel_rfl) (by kernel_rfl) (by kernel_rfl) (by kernel_rfl) (by kernel_rfl) (by kernel_rfl) (by kernel_rfl) (by kernel_rfl) (by kernel_rfl) (by kernel_rfl) (by first|kernel_rfl|(show _=_;kernel_rfl))
 ·exact DOk.step (.turn 1 (.box [.d (lD 6 z01 r1),.d (lD 6 z01 p0.b),.d (dI p0.i),.d (dI p0.j),.d (lD 3 z02 p0.since),.d (lD 6 z01 p0.out)])) (fun r=>by kernel_rfl) (fun r=>by kernel_rfl) trivial (by kernel_rfl) (by kernel_rfl) (fun r=>rfl)
 ·exact DOk.step (.turn 1 (.box [.d (lD 6 z01 r1),.d (lD 6 z01 r2),.d (dI p0.i),.d (dI p0.j),.d (lD 3 z02 p0.since),.d (lD 6 z01 p0.out)])) (fun r=>by kernel_rfl) (fun r=>by kernel_rfl) trivial (by kernel_rfl) (by kernel_rfl) (fun r=>rfl)
 ·exact DOk.step (.turn 1 (.box [.d (lD 6 z01 r1),.d (lD 6 z01 r2),.d (dI p0.i),.d (dI p0.j),.d (lD 3 z02 p0.since),oC 30176 6 r3])) (fun r=>by kernel_rfl) (fun r=>by kernel_rfl) trivial (by kernel_rfl) (by kernel_rfl) (fun r=>rfl)
 refine z03 ?_;refine z08 ?_;refine At.one rfl (z5u (e:=54) (es:=3) rfl rfl rfl rfl (by kernel_rfl) rfl) ?_;refine At.seg 2 [1,2,15,17] [1,2,30176] (s':=⟨[(1,.c (.ptr 1 0)),(2,.c (.ptr 2 0)),(15,.c (.zero)),(17,cD (lD 3 z02 p0.since))],[(1,.box [.d (lD 6 z01 r1),.d (lD 6 z01 r2),.d (dI p0.i),.d (dI p0.j),.d (lD 3 z02 p0.since),oC 30176 6 r3]),(2,.box [.zero,.zero,.d (dI 0),.d (dI 0),.zero,.zero]),(30176,vL 6 z01 r3)]⟩) (by kernel_rfl) (z00 2) ?_;obtain⟨hc4,h⟩:=z04 h;refine At.one rfl (z5c (e:=54) (es:=3) (m:=p0.since.length) (get:=fun i=>z02 (p0.since.getD i zzd)) rfl rfl rfl rfl (by kernel_rfl) (.of 54 24 [.d (dU 0),.d (dU 0),.d (dU 0)] (by kernel_rfl) (by kernel_rfl) (by kernel_rfl) (by kernel_rfl) rfl (by kernel_rfl) rfl) rfl rfl (.list rfl (fun _ _=>rfl)) hc4) ?_;refine At.sg 2 [1,2] [1,2,18,30176] (z00 2) ?_;refine At.done rfl ?_;refine Tri.sg [2] [2,18,30176] (z00 2) ?_;refine Tri.keep [2] [2,18,30176] (s':=⟨[(2,.c (.ptr 2 0))],[(2,.box [.d (lD 6 z01 r1),.d (lD 6 z01 r2),.d (dI p0.i),.d (dI p0.j),oC 18 3 p0.since,oC 30176 6 r3]),(18,vL 3 z02 p0.since),(30176,vL 6 z01 r3)]⟩) (by kernel_rfl) ?_;refine Tri.rename 30176 6105 ⟨[(2,.c (.ptr 2 0))],[(2,.box [.d (lD 6 z01 r1),.d (lD 6 z01 r2),.d (dI p0.i),.d (dI p0.j),oC 18 3 p0.since,oC 6105 6 r3]),(18,vL 3 z02 p0.since),(6105,vL 6 z01 r3)]⟩ (by kernel_rfl) rfl rfl rfl ?_;refine Tri.keep [2] [2,18,6105] (s':=⟨[(2,.c (.ptr 2 0))],[(2,.box [.d (lD 6 z01 r1),.d (lD 6 z01 r2),.d (dI p0.i),.d (dI p0.j),oC 18 3 p0.since,oC 6105 6 r3]),(18,vL 3 z02 p0.since),(6105,vL 6 z01 r3)]⟩) (by kernel_rfl) ?_;refine Tri.l [18] ⟨[(2,.c (.ptr 2 0))],[(2,.box [.d (lD 6 z01 r1),.d (lD 6 z01 r2),.d (dI p0.i),.d (dI p0.j),.d (lD 3 z02 p0.since),oC 6105 6 r3]),(6105,vL 6 z01 r3)]⟩ ⟨⟨_,rfl,.refl _⟩,trivial⟩ ⟨⟨_,rfl,.box (.cons (.refl _) (.cons (.refl _) (.cons (.refl _) (.cons (.refl _) (.cons (CLe.frozen (z02) p0.since rfl (by simp)) (.cons (.refl _) .nil)))))),(by simp)⟩,⟨_,rfl,.refl _,(by simp)⟩,trivial⟩ ?_;refine Tri.ret ?_;cases h;exact RetAt.k
theorem zc5 {fuel:Nat}{p0:Merger}{q:Update}(h:z5l fuel p0=some q):
 Summ Tryz.prog 57 [.agg [.d (lD 6 z01 p0.a),.d (lD 6 z01 p0.b),.d (dI p0.i),.d (dI p0.j),.d (lD 3 z02 p0.since),wC 6 z01 p0.out]] [] (.agg (cUpdate q)) []:=by
 refine Summ.i Tryz.func57 rfl [] fun w0 G0 V LL φ0=>?_;unfold z5l at h;refine Tri.sg [1,2] [1,2] (z00 2) ?_;refine z03 ?_;refine z0w [1,2,8] [1,2] ⟨[(1,.c (.ptr 1 0)),(2,.c (.ptr 2 0)),(8,cD (.bool (decide (p0.i=(p0.a.length:Int)))))],[(1,.box [.d (lD 6 z01 p0.a),.d (lD 6 z01 p0.b),.d (dI p0.i),.d (dI p0.j),.d (lD 3 z02 p0.since),wC 6 z01 p0.out]),(2,.box [.zero,.zero,.d (dU 0),.d (dU 0),.d (dU 0),.d (dI 0)])]⟩ _ (by kernel_rfl) (z00 6) ?_;refine z09 h (fun h=>?_) (fun h=>?_)
 ·obtain⟨hc1,h⟩:=z04 h;refine Tri.sg [2] [2] (tN 4 (ai hc1 (z00 2))) ?_;refine Tri.ret ?_;cases h;exact RetAt.k
 ·refine Tri.skip ?_;refine z03 ?_;refine z0d (fun(a2:Bool)=>⟨[(1,.c (.ptr 1 0)),(2,.c (.ptr 2 0)),(36,cD (.bool a2))],[(1,.box [.d (lD 6 z01 p0.a),.d (lD 6 z01 p0.b),.d (dI p0.i),.d (dI p0.j),.d (lD 3 z02 p0.since),wC 6 z01 p0.out]),(2,.box [.zero,.zero,.d (dU 0),.d (dU 0),.d (dU 0),.d (dI 0)])]⟩) h (fun a2 h=>?_) (fun j3 h=>?_)
  ·refine z09 h (fun h=>?_) (fun h=>?_)
   ·obtain⟨hc4,h⟩:=z04 h;refine Tri.sg [2] [2] (tN 4 (ai hc4 (z00 2))) ?_;refine Tri.ret ?_;cases h;exact RetAt.k
   ·refine Tri.skip ?_;obtain⟨hc5,h⟩:=z04 h;refine Tri.sg [2] [2] (tN 4 (ai hc5 (z00 2))) ?_;refine Tri.ret ?_;cases h;exact RetAt.k
  ·rcases z0x h with⟨hp6,h⟩|⟨hp6,h⟩
   ·refine z0e [.a [1] [],.a [15] [1],.a [1] [],.a [17] [1],.a [18] [],.a [16,19] [],.m ⟨[(20,cD (.bool (decide (p0.j=(p0.b.length:Int)))))],[]⟩ ⟨[(21,.c (.d (.bool true)))],[]⟩ [] [] [],.a [1,21] [],.a [21,22] [],.a [1,21] [],.a [21,24] [],.a [21,23,25] [],.a [21,26] [],.a [1,21] [],.a [21,28] [],.a [1,21] [],.a [21,30] [],.a [21,29,31] [],.a [21,32] [],.a [21,27,33] [],.a [21,34] [],.a [21,35] []] [1,2,36] [1,2] (z00 7) (.a (.a (.a (.a (.a (.a (.m ?_ (.a (.a (.a (.a (.a (.a (.a (.a (.a (.a (.a (.a (.a (.a (.a .z)))))))))))))))))))))) ?_
    ·exact z0a (fun b=> .val (.c (.d (.bool b))) (True)) (p:=(decide (p0.j=(p0.b.length:Int)))) hp6 (fun r=>by kernel_rfl) (fun r=>by kernel_rfl) trivial (by kernel_rfl) (by kernel_rfl) (fun r=>rfl)
    exact⟨_,h,kr⟩
   ·obtain⟨hc7,h⟩:=z04 h;obtain⟨hc8,h⟩:=z04 h;obtain⟨r9,hr9,h⟩:=z05 h;refine z0e [.a [1] [],.a [15] [1],.a [1] [],.a [17] [1],.a [18] [],.a [16,19] [],.m ⟨[(20,cD (.bool (decide (p0.j=(p0.b.length:Int)))))],[]⟩ ⟨[(21,.c (.d (.bool false)))],[]⟩ [] [] [],.a [1,21] [],.a [21,22] [1],.a [1,21] [],.a [21,24] [1],.a [21,23,25] [],.a [21,26] [],.a [1,21] [],.a [21,28] [1],.a [1,21] [],.a [21,30] [1],.a [21,29,31] [],.a [21,32] [],.m ⟨[(21,cD (.bool false)),(27,.agg (cUpdate (p0.a.getD p0.i.toNat zzd))),(33,.agg (cUpdate (p0.b.getD p0.j.toNat zzd)))],[]⟩ ⟨[(34,cD (dI r9))],[]⟩ [] [] [],.a [21,34] [],.a [21,35] []] [1,2,36] [1,2] (tN 10 (ai hc7 (tN 5 (ai hc8 (z00 3))))) (.a (.a (.a (.a (.a (.a (.m ?_ (.a (.a (.a (.a (.a (.a (.a (.a (.a (.a (.a (.a (.m ?_ (.a (.a .z)))))))))))))))))))))) ?_
    ·exact z0a (fun b=> .val (.c (.d (.bool b))) (True)) (p:=(decide (p0.j=(p0.b.length:Int)))) hp6 (fun r=>by kernel_rfl) (fun r=>by kernel_rfl) trivial (by kernel_rfl) (by kernel_rfl) (fun r=>rfl)
    ·exact DOk.cA [] [.agg (cUpdate (p0.a.getD p0.i.toNat zzd)),.agg (cUpdate (p0.b.getD p0.j.toNat zzd))] (z5h hr9) fun r=>(.cons (.refl _) (.cons (.refl _) .nil))
    exact⟨_,h,kr⟩
theorem zf4 {fuel:Nat}{p0:Merger}{p1:Int}{q:Merger×Int×Int}(h:z6k fuel p0 p1=some q):
 Summ Tryz.prog 21 [.agg (cMerger p0),cD (dI p1)] [] (.tup [(true,[.d (lD 6 z01 q.1.a),.d (lD 6 z01 q.1.b),.d (dI q.1.i),.d (dI q.1.j),.d (lD 3 z02 q.1.since),.d (lD 6 z01 q.1.out)]),(false,[.d (dI q.2.1)]),(false,[.d (dI q.2.2)])]) []:=by
 refine Summ.i Tryz.func21 rfl [] fun w0 G0 V LL φ0=>?_;unfold z6k at h;refine Tri.sg [1,2,4] [2,4] (z00 4) ?_;refine z03 ?_;refine z03 ?_;refine z08 ?_;refine At.sg 1 [1,2,4,14] [2,4] (z00 1) ?_;obtain⟨r1,hr1,h⟩:=z05 h;refine At.cA [] [.agg (cMerger p0)] (z4v hr1) (.cons (.refl _) .nil) ?_;refine At.sg 1 [1,2,4,16] [2,4] (z00 1) ?_;refine At.done rfl ?_;refine z09 h (fun h=>?_) (fun h=>?_)
 ·refine Tri.sg [4,5,6] [4] (z00 4) ?_;refine Tri.keep [4,5,6] [4] (s':=⟨[(4,.c (.ptr 4 0)),(5,cD (dI 0)),(6,cD (dI 8))],[(4,.box [.zero,.zero,.d (dI 0),.d (dI 0),.zero,.zero])]⟩) (by kernel_rfl) ?_;refine Tri.l [] ⟨[(4,.c (.ptr 4 0)),(5,cD (dI 0)),(6,cD (dI 8))],[(4,.box [.d (lD 6 z01 ([]:List Update)),.d (lD 6 z01 ([]:List Update)),.d (dI 0),.d (dI 0),.d (lD 3 z02 ([]:List Time)),.d (lD 6 z01 ([]:List Update))])]⟩ ⟨⟨_,rfl,.refl _⟩,⟨_,rfl,.refl _⟩,⟨_,rfl,.refl _⟩,trivial⟩ ⟨⟨_,rfl,.box (.cons (.zero _ _) (.cons (.zero _ _) (.cons (.refl _) (.cons (.refl _) (.cons (.zero _ _) (.cons (.zero _ _) .nil)))))),(by simp)⟩,trivial⟩ ?_;refine Tri.ret ?_;cases h;exact RetAt.k
 ·refine Tri.skip ?_;refine z03 ?_;refine z08 ?_;refine At.sg 1 [1,2,4,18] [2,4] (z00 1) ?_;obtain⟨r2,hr2,h⟩:=z05 h;refine z48 0 [] [.agg (cMerger p0)] [(6105,30304)] [1,2,4] [2,4] (zc4 hr2) (.flat (.refl _) rfl rfl .nil) ?_;refine At.sg 1 [1,2,4] [2,4,30304] (z00 1) ?_;refine At.done rfl ?_;refine Tri.sg [1,2,4,7] [2,4,30304] (z00 1) ?_;refine z03 ?_;refine z2y (0,r2) (fun(x:Merger×Int×Int) s=>RetAt Tryz.prog Tryz.f21 (.tup [(true,[.d (lD 6 z01 x.1.a),.d (lD 6 z01 x.1.b),.d (dI x.1.i),.d (dI x.1.j),.d (lD 3 z02 x.1.since),.d (lD 6 z01 x.1.out)]),(false,[.d (dI x.2.1)]),(false,[.d (dI x.2.2)])]) [] s) (fun(a3:Int×Merger)=>⟨[(1,cD (dI p1)),(2,.c (.ptr 2 0)),(4,.c (.ptr 4 0)),(7,cD (dI a3.1))],[(2,.box [.d (lD 6 z01 a3.2.a),.d (lD 6 z01 a3.2.b),.d (dI a3.2.i),.d (dI a3.2.j),.d (lD 3 z02 a3.2.since),oC 30304 6 a3.2.out]),(4,.box [.zero,.zero,.d (dI 0),.d (dI 0),.zero,.zero]),(30304,vL 6 z01 a3.2.out)]⟩) [1,2,4,7] [2,4,30304] h ?_ ?_ ?_
  ·intro a3 c h;refine z03 ?_;refine z0d (fun(a5:Bool)=>⟨[(1,cD (dI p1)),(2,.c (.ptr 2 0)),(4,.c (.ptr 4 0)),(7,cD (dI a3.1)),(38,cD (.bool a5))],[(2,.box [.d (lD 6 z01 a3.2.a),.d (lD 6 z01 a3.2.b),.d (dI a3.2.i),.d (dI a3.2.j),.d (lD 3 z02 a3.2.since),oC 30304 6 a3.2.out]),(4,.box [.zero,.zero,.d (dI 0),.d (dI 0),.zero,.zero]),(30304,vL 6 z01 a3.2.out)]⟩) h (fun a5 h=>?_) (fun j6 h=>?_)
   ·refine z09 h (fun h=>?_) (fun h=>?_)
    ·refine Tri.skip ?_;refine z0k ?_;refine z03 ?_;refine z08 ?_;refine At.sg 1 [1,2,4,7,39] [2,4,30304] (z00 1) ?_;obtain⟨r7,hr7,h⟩:=z05 h;refine At.cA [] [.agg [.d (lD 6 z01 a3.2.a),.d (lD 6 z01 a3.2.b),.d (dI a3.2.i),.d (dI a3.2.j),.d (lD 3 z02 a3.2.since),oC 30304 6 a3.2.out]] (zc5 hr7) (.cons (.agg (.cons (.le (.refl _)) (.cons (.le (.refl _)) (.cons (.le (.refl _)) (.cons (.le (.refl _)) (.cons (.le (.refl _)) (.cons (.vw (z01) a3.2.out rfl) .nil))))))) .nil) ?_;refine At.sg 2 [1,2,4,7,8] [2,4,8,30304] (z00 2) ?_;refine At.done rfl ?_;refine z03 ?_;refine z0e [.a [2] [],.a [41] [2],.a [2] [],.a [43] [2],.a [42] [],.a [44] []] [1,2,4,7,8,9,10] [2,4,8,30304] (z00 6) (.a (.a (.a (.a (.a (.a .z)))))) ?_;refine z0w [1,2,4,7,8,9,10,11] [2,4,8,30304] ⟨[(1,cD (dI p1)),(2,.c (.ptr 2 0)),(4,.c (.ptr 4 0)),(7,cD (dI a3.1)),(8,.c (.ptr 8 0)),(9,cD (dI a3.2.i)),(10,cD (dI a3.2.j)),(11,.c (.zero))],[(2,.box [.d (lD 6 z01 a3.2.a),.d (lD 6 z01 a3.2.b),.d (dI a3.2.i),.d (dI a3.2.j),.d (lD 3 z02 a3.2.since),oC 30304 6 a3.2.out]),(4,.box [.zero,.zero,.d (dI 0),.d (dI 0),.zero,.zero]),(8,.box (cUpdate r7)),(30304,vL 6 z01 a3.2.out)]⟩ _ (by kernel_rfl) (z00 1) ?_;refine z03 ?_;refine Tri.newOwn (t:=11) (k:=1011) (es:=6) (fun i=>z01 (([]:List Update).getD i zzd)) rfl rfl rfl ?_;refine z2y (a3.2.i,([]:List Update)) (fun(x:Empty) s=>False) (fun(a8:Int×(List Update))=>⟨[(1,cD (dI p1)),(2,.c (.ptr 2 0)),(4,.c (.ptr 4 0)),(7,cD (dI a3.1)),(8,.c (.ptr 8 0)),(9,cD (dI a8.1)),(10,cD (dI a3.2.j)),(11,.c (oC 1011 6 a8.2))],[(2,.box [.d (lD 6 z01 a3.2.a),.d (lD 6 z01 a3.2.b),.d (dI a3.2.i),.d (dI a3.2.j),.d (lD 3 z02 a3.2.since),oC 30304 6 a3.2.out]),(4,.box [.zero,.zero,.d (dI 0),.d (dI 0),.zero,.zero]),(8,.box (cUpdate r7)),(1011,vL 6 z01 a8.2),(30304,vL 6 z01 a3.2.out)]⟩) [1,2,4,7,8,9,10,11] [2,4,8,1011,30304] h ?_ ?_ ?_
     ·intro a8 c h;refine Tri.eqS ⟨[(1,cD (dI p1)),(2,.c (.ptr 2 0)),(4,.c (.ptr 4 0)),(7,cD (dI a3.1)),(8,.c (.ptr 8 0)),(9,cD (dI a8.1)),(10,cD (dI a3.2.j)),(11,.c (oC 1011 6 a8.2))],[(2,.box [.d (lD 6 z01 a3.2.a),.d (lD 6 z01 a3.2.b),.d (dI a3.2.i),.d (dI a3.2.j),.d (lD 3 z02 a3.2.since),oC 30304 6 a3.2.out]),(4,.box [.zero,.zero,.d (dI 0),.d (dI 0),.zero,.zero]),(8,.box (cUpdate r7)),(1011,vL 6 z01 a8.2),(30304,vL 6 z01 a3.2.out)]⟩ kr ?_;refine z03 ?_;refine z0d (fun(a22:Bool)=>⟨[(1,cD (dI p1)),(2,.c (.ptr 2 0)),(4,.c (.ptr 4 0)),(7,cD (dI a3.1)),(8,.c (.ptr 8 0)),(9,cD (dI a8.1)),(10,cD (dI a3.2.j)),(11,.c (oC 1011 6 a8.2)),(59,cD (.bool a22))],[(2,.box [.d (lD 6 z01 a3.2.a),.d (lD 6 z01 a3.2.b),.d (dI a3.2.i),.d (dI a3.2.j),.d (lD 3 z02 a3.2.since),oC 30304 6 a3.2.out]),(4,.box [.zero,.zero,.d (dI 0),.d (dI 0),.zero,.zero]),(8,.box (cUpdate r7)),(1011,vL 6 z01 a8.2),(30304,vL 6 z01 a3.2.out)]⟩) h (fun a22 h=>?_) (fun j23 h=>?_)
      ·refine z09 h (fun h=>?_) (fun h=>?_)
       ·refine Tri.skip ?_;refine z0k ?_;refine z03 ?_;refine z08 ?_;obtain⟨hc24,h⟩:=z04 h;refine At.seg 6 [1,2,4,7,8,9,10,60,65] [2,4,8,1011,30304] (s':=⟨[(1,cD (dI p1)),(2,.c (.ptr 2 0)),(4,.c (.ptr 4 0)),(7,cD (dI a3.1)),(8,.c (.ptr 8 0)),(9,cD (dI a8.1)),(10,cD (dI a3.2.j)),(60,.c (oC 1011 6 a8.2)),(65,.agg (cUpdate (a3.2.a.getD a8.1.toNat zzd)))],[(2,.box [.d (lD 6 z01 a3.2.a),.d (lD 6 z01 a3.2.b),.d (dI a3.2.i),.d (dI a3.2.j),.d (lD 3 z02 a3.2.since),oC 30304 6 a3.2.out]),(4,.box [.zero,.zero,.d (dI 0),.d (dI 0),.zero,.zero]),(8,.box (cUpdate r7)),(1011,vL 6 z01 a8.2),(30304,vL 6 z01 a3.2.out)]⟩) (by kernel_rfl) (tN 4 (ai hc24 (z00 1))) ?_;refine At.one rfl (One.buildSlice (z:=[.zero,.zero,.d (dU 0),.d (dU 0),.d (dU 0),.d (dI 0)]) (cells:=[.d (lD 3 z06 ((a3.2.a.getD a8.1.toNat zzd).key)),.d (lD 3 z06 ((a3.2.a.getD a8.1.toNat zzd).row)),.d (dU ((a3.2.a.getD a8.1.toNat zzd).time.epoch)),.d (dU ((a3.2.a.getD a8.1.toNat zzd).time.loop.1)),.d (dU ((a3.2.a.getD a8.1.toNat zzd).time.loop.2)),.d (dI ((a3.2.a.getD a8.1.toNat zzd).diff))]) (xs:=List.map (z01) ([(a3.2.a.getD a8.1.toNat zzd)]:List Update)) rfl rfl rfl rfl (by kernel_rfl) rfl rfl (by kernel_rfl) rfl rfl rfl (by kernel_rfl) rfl ⟨⟨rfl,.refl _⟩,trivial⟩) ?_;refine At.l [66] ⟨[(66,cD (lD 6 z01 ([(a3.2.a.getD a8.1.toNat zzd)]:List Update))),(1,cD (dI p1)),(2,.c (.ptr 2 0)),(4,.c (.ptr 4 0)),(7,cD (dI a3.1)),(8,.c (.ptr 8 0)),(9,cD (dI a8.1)),(10,cD (dI a3.2.j)),(60,.c (oC 1011 6 a8.2)),(65,.agg (cUpdate (a3.2.a.getD a8.1.toNat zzd)))],[(2,.box [.d (lD 6 z01 a3.2.a),.d (lD 6 z01 a3.2.b),.d (dI a3.2.i),.d (dI a3.2.j),.d (lD 3 z02 a3.2.since),oC 30304 6 a3.2.out]),(4,.box [.zero,.zero,.d (dI 0),.d (dI 0),.zero,.zero]),(8,.box (cUpdate r7)),(1011,vL 6 z01 a8.2),(30304,vL 6 z01 a3.2.out)]⟩ ⟨⟨_,rfl,.c (.own rfl (zz9.2 rfl) (zz5 rfl) rfl (z24 (z01) ([(a3.2.a.getD a8.1.toNat zzd)]:List Update)))⟩,⟨_,rfl,.refl _⟩,⟨_,rfl,.refl _⟩,⟨_,rfl,.refl _⟩,⟨_,rfl,.refl _⟩,⟨_,rfl,.refl _⟩,⟨_,rfl,.refl _⟩,⟨_,rfl,.refl _⟩,⟨_,rfl,.refl _⟩,⟨_,rfl,.refl _⟩,trivial⟩ ⟨⟨_,rfl,.refl _,(by simp)⟩,⟨_,rfl,.refl _,(by simp)⟩,⟨_,rfl,.refl _,(by simp)⟩,⟨_,rfl,.refl _,(by simp)⟩,⟨_,rfl,.refl _,(by simp)⟩,trivial⟩ ?_;obtain⟨hc25,h⟩:=z04 h;refine At.one rfl (z26 (e:=56) (es:=6) (z01) a8.2 ([(a3.2.a.getD a8.1.toNat zzd)]:List Update) rfl rfl rfl rfl rfl (.of 56 80 [.zero,.zero,.d (dU 0),.d (dU 0),.d (dU 0),.d (dI 0)] (by kernel_rfl) (by kernel_rfl) (by kernel_rfl) (by kernel_rfl) rfl (by kernel_rfl) rfl) rfl rfl rfl (.list rfl (fun _ _=>rfl)) hc25) ?_;refine At.sg 1 [1,2,4,7,8,9,10,11] [2,4,8,1011,30304] (z00 1) ?_;refine At.done rfl ?_;refine z08 ?_;refine At.sg 3 [1,2,4,7,8,9,10,11] [2,4,8,1011,30304] (z00 3) ?_;refine At.done rfl ?_;cases h;exact kr
       ·refine Tri.kp [1,2,4,7,8,9,10,11] [2,4,8,1011,30304] ?_;refine Tri.exit ?_;cases h;exact⟨rfl,kr⟩
      ·rcases z0x h with⟨hp26,h⟩|⟨hp26,h⟩
       ·obtain⟨hc27,h⟩:=z04 h;obtain⟨r28,hr28,h⟩:=z05 h;refine z0e [.a [9] [],.a [2] [],.a [46] [2],.a [47] [],.a [45,48] [],.m ⟨[(49,cD (.bool (decide (a8.1<(a3.2.a.length:Int)))))],[]⟩ ⟨[(50,.c (.d (.bool true)))],[]⟩ [] [] [],.a [2,50] [],.a [50,51] [2],.a [9,50] [],.a [50,52,53] [],.a [50,54] [],.a [8,50] [8],.m ⟨[(50,cD (.bool true)),(55,.agg (cUpdate (a3.2.a.getD a8.1.toNat zzd))),(56,.agg (cUpdate r7))],[]⟩ ⟨[(57,cD (dI r28))],[]⟩ [] [] [],.a [50,57] [],.a [50,58] []] [1,2,4,7,8,9,10,11,59] [2,4,8,1011,30304] (tN 8 (ai hc27 (z00 4))) (.a (.a (.a (.a (.a (.m ?_ (.a (.a (.a (.a (.a (.a (.m ?_ (.a (.a .z))))))))))))))) ?_
        ·exact z0a (fun b=> .val (.c (.d (.bool b))) (True)) (p:=(decide (a8.1<(a3.2.a.length:Int)))) hp26 (fun r=>by kernel_rfl) (fun r=>by kernel_rfl) trivial (by kernel_rfl) (by kernel_rfl) (fun r=>rfl)
        ·exact DOk.cA [] [.agg (cUpdate (a3.2.a.getD a8.1.toNat zzd)),.agg (cUpdate r7)] (z5h hr28) fun r=>(.cons (.refl _) (.cons (.refl _) .nil))
        exact⟨_,h,kr⟩
       ·refine z0e [.a [9] [],.a [2] [],.a [46] [2],.a [47] [],.a [45,48] [],.m ⟨[(49,cD (.bool (decide (a8.1<(a3.2.a.length:Int)))))],[]⟩ ⟨[(50,.c (.d (.bool false)))],[]⟩ [] [] [],.a [2,50] [],.a [50,51] [],.a [9,50] [],.a [50,52,53] [],.a [50,54] [],.a [8,50] [8],.a [50,55,56] [],.a [50,57] [],.a [50,58] []] [1,2,4,7,8,9,10,11,59] [2,4,8,1011,30304] (z00 6) (.a (.a (.a (.a (.a (.m ?_ (.a (.a (.a (.a (.a (.a (.a (.a (.a .z))))))))))))))) ?_
        ·exact z0a (fun b=> .val (.c (.d (.bool b))) (True)) (p:=(decide (a8.1<(a3.2.a.length:Int)))) hp26 (fun r=>by kernel_rfl) (fun r=>by kernel_rfl) trivial (by kernel_rfl) (by kernel_rfl) (fun r=>rfl)
        exact⟨_,h,kr⟩
     ·intro a9 h;refine z03 ?_;refine z2y (a3.2.j,a9.2) (fun(x:Empty) s=>False) (fun(a10:Int×(List Update))=>⟨[(1,cD (dI p1)),(2,.c (.ptr 2 0)),(4,.c (.ptr 4 0)),(7,cD (dI a3.1)),(8,.c (.ptr 8 0)),(9,cD (dI a9.1)),(10,cD (dI a10.1)),(11,.c (oC 1011 6 a10.2))],[(2,.box [.d (lD 6 z01 a3.2.a),.d (lD 6 z01 a3.2.b),.d (dI a3.2.i),.d (dI a3.2.j),.d (lD 3 z02 a3.2.since),oC 30304 6 a3.2.out]),(4,.box [.zero,.zero,.d (dI 0),.d (dI 0),.zero,.zero]),(8,.box (cUpdate r7)),(1011,vL 6 z01 a10.2),(30304,vL 6 z01 a3.2.out)]⟩) [1,2,4,7,8,9,10,11] [2,4,8,1011,30304] h ?_ ?_ ?_
      ·intro a10 c h;refine Tri.eqS ⟨[(1,cD (dI p1)),(2,.c (.ptr 2 0)),(4,.c (.ptr 4 0)),(7,cD (dI a3.1)),(8,.c (.ptr 8 0)),(9,cD (dI a9.1)),(10,cD (dI a10.1)),(11,.c (oC 1011 6 a10.2))],[(2,.box [.d (lD 6 z01 a3.2.a),.d (lD 6 z01 a3.2.b),.d (dI a3.2.i),.d (dI a3.2.j),.d (lD 3 z02 a3.2.since),oC 30304 6 a3.2.out]),(4,.box [.zero,.zero,.d (dI 0),.d (dI 0),.zero,.zero]),(8,.box (cUpdate r7)),(1011,vL 6 z01 a10.2),(30304,vL 6 z01 a3.2.out)]⟩ kr ?_;refine z03 ?_;refine z0d (fun(a15:Bool)=>⟨[(1,cD (dI p1)),(2,.c (.ptr 2 0)),(4,.c (.ptr 4 0)),(7,cD (dI a3.1)),(8,.c (.ptr 8 0)),(9,cD (dI a9.1)),(10,cD (dI a10.1)),(11,.c (oC 1011 6 a10.2)),(84,cD (.bool a15))],[(2,.box [.d (lD 6 z01 a3.2.a),.d (lD 6 z01 a3.2.b),.d (dI a3.2.i),.d (dI a3.2.j),.d (lD 3 z02 a3.2.since),oC 30304 6 a3.2.out]),(4,.box [.zero,.zero,.d (dI 0),.d (dI 0),.zero,.zero]),(8,.box (cUpdate r7)),(1011,vL 6 z01 a10.2),(30304,vL 6 z01 a3.2.out)]⟩) h (fun a15 h=>?_) (fun j16 h=>?_)
       ·refine z09 h (fun h=>?_) (fun h=>?_)
        ·refine Tri.skip ?_;refine z0k ?_;refine z03 ?_;refine z08 ?_;obtain⟨hc17,h⟩:=z04 h;refine At.seg 6 [1,2,4,7,8,9,10,85,90] [2,4,8,1011,30304] (s':=⟨[(1,cD (dI p1)),(2,.c (.ptr 2 0)),(4,.c (.ptr 4 0)),(7,cD (dI a3.1)),(8,.c (.ptr 8 0)),(9,cD (dI a9.1)),(10,cD (dI a10.1)),(85,.c (oC 1011 6 a10.2)),(90,.agg (cUpdate (a3.2.b.getD a10.1.toNat zzd)))],[(2,.box [.d (lD 6 z01 a3.2.a),.d (lD 6 z01 a3.2.b),.d (dI a3.2.i),.d (dI a3.2.j),.d (lD 3 z02 a3.2.since),oC 30304 6 a3.2.out]),(4,.box [.zero,.zero,.d (dI 0),.d (dI 0),.zero,.zero]),(8,.box (cUpdate r7)),(1011,vL 6 z01 a10.2),(30304,vL 6 z01 a3.2.out)]⟩) (by kernel_rfl) (tN 4 (ai hc17 (z00 1))) ?_;refine At.one rfl (One.buildSlice (z:=[.zero,.zero,.d (dU 0),.d (dU 0),.d (dU 0),.d (dI 0)]) (cells:=[.d (lD 3 z06 ((a3.2.b.getD a10.1.toNat zzd).key)),.d (lD 3 z06 ((a3.2.b.getD a10.1.toNat zzd).row)),.d (dU ((a3.2.b.getD a10.1.toNat zzd).time.epoch)),.d (dU ((a3.2.b.getD a10.1.toNat zzd).time.loop.1)),.d (dU ((a3.2.b.getD a10.1.toNat zzd).time.loop.2)),.d (dI ((a3.2.b.getD a10.1.toNat zzd).diff))]) (xs:=List.map (z01) ([(a3.2.b.getD a10.1.toNat zzd)]:List Update)) rfl rfl rfl rfl (by kernel_rfl) rfl rfl (by kernel_rfl) rfl rfl rfl (by kernel_rfl) rfl ⟨⟨rfl,.refl _⟩,trivial⟩) ?_;refine At.l [91] ⟨[(91,cD (lD 6 z01 ([(a3.2.b.getD a10.1.toNat zzd)]:List Update))),(1,cD (dI p1)),(2,.c (.ptr 2 0)),(4,.c (.ptr 4 0)),(7,cD (dI a3.1)),(8,.c (.ptr 8 0)),(9,cD (dI a9.1)),(10,cD (dI a10.1)),(85,.c (oC 1011 6 a10.2)),(90,.agg (cUpdate (a3.2.b.getD a10.1.toNat zzd)))],[(2,.box [.d (lD 6 z01 a3.2.a),.d (lD 6 z01 a3.2.b),.d (dI a3.2.i),.d (dI a3.2.j),.d (lD 3 z02 a3.2.since),oC 30304 6 a3.2.out]),(4,.box [.zero,.zero,.d (dI 0),.d (dI 0),.zero,.zero]),(8,.box (cUpdate r7)),(1011,vL 6 z01 a10.2),(30304,vL 6 z01 a3.2.out)]⟩ ⟨⟨_,rfl,.c (.own rfl (zz9.2 rfl) (zz5 rfl) rfl (z24 (z01) ([(a3.2.b.getD a10.1.toNat zzd)]:List Update)))⟩,⟨_,rfl,.refl _⟩,⟨_,rfl,.refl _⟩,⟨_,rfl,.refl _⟩,⟨_,rfl,.refl _⟩,⟨_,rfl,.refl _⟩,⟨_,rfl,.refl _⟩,⟨_,rfl,.refl _⟩,⟨_,rfl,.refl _⟩,⟨_,rfl,.refl _⟩,trivial⟩ ⟨⟨_,rfl,.refl _,(by simp)⟩,⟨_,rfl,.refl _,(by simp)⟩,⟨_,rfl,.refl _,(by simp)⟩,⟨_,rfl,.refl _,(by simp)⟩,⟨_,rfl,.refl _,(by simp)⟩,trivial⟩ ?_;obtain⟨hc18,h⟩:=z04 h;refine At.one rfl (z26 (e:=56) (es:=6) (z01) a10.2 ([(a3.2.b.getD a10.1.toNat zzd)]:List Update) rfl rfl rfl rfl rfl (.of 56 80 [.zero,.zero,.d (dU 0),.d (dU 0),.d (dU 0),.d (dI 0)] (by kernel_rfl) (by kernel_rfl) (by kernel_rfl) (by kernel_rfl) rfl (by kernel_rfl) rfl) rfl rfl rfl (.list rfl (fun _ _=>rfl)) hc18) ?_;refine At.sg 1 [1,2,4,7,8,9,10,11] [2,4,8,1011,30304] (z00 1) ?_;refine At.done rfl ?_;refine z08 ?_;refine At.sg 3 [1,2,4,7,8,9,10,11] [2,4,8,1011,30304] (z00 3) ?_;refine At.done rfl ?_;cases h;exact kr
        ·refine Tri.kp [1,2,4,7,8,9,10,11] [2,4,8,1011,30304] ?_;refine Tri.exit ?_;cases h;exact⟨rfl,kr⟩
       ·rcases z0x h with⟨hp19,h⟩|⟨hp19,h⟩
        ·obtain⟨hc20,h⟩:=z04 h;obtain⟨r21,hr21,h⟩:=z05 h;refine z0e [.a [10] [],.a [2] [],.a [71] [2],.a [72] [],.a [70,73] [],.m ⟨[(74,cD (.bool (decide (a10.1<(a3.2.b.length:Int)))))],[]⟩ ⟨[(75,.c (.d (.bool true)))],[]⟩ [] [] [],.a [2,75] [],.a [75,76] [2],.a [10,75] [],.a [75,77,78] [],.a [75,79] [],.a [8,75] [8],.m ⟨[(75,cD (.bool true)),(80,.agg (cUpdate (a3.2.b.getD a10.1.toNat zzd))),(81,.agg (cUpdate r7))],[]⟩ ⟨[(82,cD (dI r21))],[]⟩ [] [] [],.a [75,82] [],.a [75,83] []] [1,2,4,7,8,9,10,11,84] [2,4,8,1011,30304] (tN 8 (ai hc20 (z00 4))) (.a (.a (.a (.a (.a (.m ?_ (.a (.a (.a (.a (.a (.a (.m ?_ (.a (.a .z))))))))))))))) ?_
         ·exact z0a (fun b=> .val (.c (.d (.bool b))) (True)) (p:=(decide (a10.1<(a3.2.b.length:Int)))) hp19 (fun r=>by kernel_rfl) (fun r=>by kernel_rfl) trivial (by kernel_rfl) (by kernel_rfl) (fun r=>rfl)
         ·exact DOk.cA [] [.agg (cUpdate (a3.2.b.getD a10.1.toNat zzd)),.agg (cUpdate r7)] (z5h hr21) fun r=>(.cons (.refl _) (.cons (.refl _) .nil))
         exact⟨_,h,kr⟩
        ·refine z0e [.a [10] [],.a [2] [],.a [71] [2],.a [72] [],.a [70,73] [],.m ⟨[(74,cD (.bool (decide (a10.1<(a3.2.b.length:Int)))))],[]⟩ ⟨[(75,.c (.d (.bool false)))],[]⟩ [] [] [],.a [2,75] [],.a [75,76] [],.a [10,75] [],.a [75,77,78] [],.a [75,79] [],.a [8,75] [8],.a [75,80,81] [],.a [75,82] [],.a [75,83] []] [1,2,4,7,8,9,10,11,84] [2,4,8,1011,30304] (z00 6) (.a (.a (.a (.a (.a (.m ?_ (.a (.a (.a (.a (.a (.a (.a (.a (.a .z))))))))))))))) ?_
         ·exact z0a (fun b=> .val (.c (.d (.bool b))) (True)) (p:=(decide (a10.1<(a3.2.b.length:Int)))) hp19 (fun r=>by kernel_rfl) (fun r=>by kernel_rfl) trivial (by kernel_rfl) (by kernel_rfl) (fun r=>rfl)
         exact⟨_,h,kr⟩
      ·intro a11 h;refine z03 ?_;refine z08 ?_;refine At.seg 3 [1,2,4,7,9,10,11,96,98] [2,4,1011,30304] (s':=⟨[(1,cD (dI p1)),(2,.c (.ptr 2 0)),(4,.c (.ptr 4 0)),(7,cD (dI a3.1)),(9,cD (dI a9.1)),(10,cD (dI a11.1)),(11,.c (oC 1011 6 a11.2)),(96,.c (oC 1011 6 a11.2)),(98,cD (lD 3 z02 a3.2.since))],[(2,.box [.d (lD 6 z01 a3.2.a),.d (lD 6 z01 a3.2.b),.d (dI a3.2.i),.d (dI a3.2.j),.d (lD 3 z02 a3.2.since),oC 30304 6 a3.2.out]),(4,.box [.zero,.zero,.d (dI 0),.d (dI 0),.zero,.zero]),(1011,vL 6 z01 a11.2),(30304,vL 6 z01 a3.2.out)]⟩) (by kernel_rfl) (z00 3) ?_;obtain⟨r12,hr12,h⟩:=z05 h;refine At.cA [] [.c (oC 1011 6 a11.2),cD (lD 3 z02 a3.2.since)] (zbw hr12) (.cons (AVArg.view (z01) a11.2 rfl) (.cons (.refl _) .nil)) ?_;refine At.one rfl (One.buildSlice (z:=[.zero]) (cells:=[.d (lD 6 z01 r12)]) (xs:=List.map ((fun xs=>[encL 6 z01 xs])) ([r12]:List (List Update))) rfl rfl rfl rfl (by kernel_rfl) rfl rfl (by kernel_rfl) rfl rfl rfl (by kernel_rfl) rfl ⟨⟨rfl,.refl _⟩,trivial⟩) ?_;refine At.l [100] ⟨[(100,cD (lD 1 (fun xs=>[encL 6 z01 xs]) ([r12]:List (List Update)))),(1,cD (dI p1)),(2,.c (.ptr 2 0)),(4,.c (.ptr 4 0)),(7,cD (dI a3.1)),(9,cD (dI a9.1)),(10,cD (dI a11.1)),(11,.c (oC 1011 6 a11.2)),(99,cD (lD 6 z01 r12))],[(2,.box [.d (lD 6 z01 a3.2.a),.d (lD 6 z01 a3.2.b),.d (dI a3.2.i),.d (dI a3.2.j),.d (lD 3 z02 a3.2.since),oC 30304 6 a3.2.out]),(4,.box [.zero,.zero,.d (dI 0),.d (dI 0),.zero,.zero]),(1011,vL 6 z01 a11.2),(30304,vL 6 z01 a3.2.out)]⟩ ⟨⟨_,rfl,.c (.own rfl (zz9.2 rfl) (zz5 rfl) rfl (z24 ((fun xs=>[encL 6 z01 xs])) ([r12]:List (List Update))))⟩,⟨_,rfl,.refl _⟩,⟨_,rfl,.refl _⟩,⟨_,rfl,.refl _⟩,⟨_,rfl,.refl _⟩,⟨_,rfl,.refl _⟩,⟨_,rfl,.refl _⟩,⟨_,rfl,.refl _⟩,⟨_,rfl,.refl _⟩,trivial⟩ ⟨⟨_,rfl,.refl _,(by simp)⟩,⟨_,rfl,.refl _,(by simp)⟩,⟨_,rfl,.refl _,(by simp)⟩,⟨_,rfl,.refl _,(by simp)⟩,trivial⟩ ?_;obtain⟨r13,hr13,h⟩:=z05 h;refine At.cA [] [cD (lD 1 (fun xs=>[encL 6 z01 xs]) ([r12]:List (List Update)))] (zbo hr13) (.cons (.refl _) .nil) ?_;refine At.sg 5 [1,2,4,7,9,10,11,12,13] [2,4,1011,30304] (z00 5) ?_;refine At.done rfl ?_;refine z03 ?_;refine Tri.sg [1,2,4,7,9,10,11,12,13,105] [2,4,1011,30304] (z00 2) ?_;refine z09 h (fun h=>?_) (fun h=>?_)
       ·refine Tri.sg [4,5,6] [4,30304] (z00 6) ?_;refine Tri.keep [4,5,6] [4,30304] (s':=⟨[(4,.c (.ptr 4 0)),(5,cD (dI a3.1)),(6,cD (dI r13.2))],[(4,.box [.d (lD 6 z01 a3.2.a),.d (lD 6 z01 a3.2.b),.d (dI a3.2.i),.d (dI a3.2.j),.d (lD 3 z02 a3.2.since),oC 30304 6 a3.2.out]),(30304,vL 6 z01 a3.2.out)]⟩) (by kernel_rfl) ?_;refine Tri.l [30304] ⟨[(4,.c (.ptr 4 0)),(5,cD (dI a3.1)),(6,cD (dI r13.2))],[(4,.box (cMerger a3.2))]⟩ ⟨⟨_,rfl,.refl _⟩,⟨_,rfl,.refl _⟩,⟨_,rfl,.refl _⟩,trivial⟩ ⟨⟨_,rfl,.box (.cons (.refl _) (.cons (.refl _) (.cons (.refl _) (.cons (.refl _) (.cons (.refl _) (.cons (CLe.frozen (z01) a3.2.out rfl (by simp)) .nil)))))),(by simp)⟩,trivial⟩ ?_;refine Tri.ret ?_;cases h;exact RetAt.k
       ·refine Tri.skip ?_;refine Tri.sg [1,2,4,7,11,12] [2,4,1011,30304] (z00 6) ?_;refine z03 ?_;refine z08 ?_;refine At.seg 3 [1,2,4,7,11,114,115] [2,4,1011,30304] (s':=⟨[(1,cD (dI p1)),(2,.c (.ptr 2 0)),(4,.c (.ptr 4 0)),(7,cD (dI a3.1)),(11,.c (oC 1011 6 a11.2)),(114,.c (oC 30304 6 a3.2.out)),(115,cD (lD 6 z01 r13.1))],[(2,.box [.d (lD 6 z01 a3.2.a),.d (lD 6 z01 a3.2.b),.d (dI a9.1),.d (dI a11.1),.d (lD 3 z02 a3.2.since),oC 30304 6 a3.2.out]),(4,.box [.zero,.zero,.d (dI 0),.d (dI 0),.zero,.zero]),(1011,vL 6 z01 a11.2),(30304,vL 6 z01 a3.2.out)]⟩) (by kernel_rfl) (z00 3) ?_;obtain⟨hc14,h⟩:=z04 h;refine At.one rfl (z26 (e:=56) (es:=6) (z01) a3.2.out r13.1 rfl rfl rfl rfl rfl (.of 56 80 [.zero,.zero,.d (dU 0),.d (dU 0),.d (dU 0),.d (dI 0)] (by kernel_rfl) (by kernel_rfl) (by kernel_rfl) (by kernel_rfl) rfl (by kernel_rfl) rfl) rfl rfl rfl (.list rfl (fun _ _=>rfl)) hc14) ?_;refine At.sg 2 [1,2,4,7,11] [2,4,1011,30304] (z00 2) ?_;refine At.done rfl ?_;refine z08 ?_;refine At.sg 5 [1,2,4,7] [2,4,30304] (z00 5) ?_;refine At.done rfl ?_;cases h;exact kr
      ·exact fun x=>x.elim
     ·exact fun x=>x.elim
    ·refine Tri.kp [1,2,4,7] [2,4,30304] ?_;refine Tri.exit ?_;cases h;exact⟨rfl,kr⟩
   ·refine z08 ?_;refine At.sg 4 [1,2,4,7,23] [2,4,30304] (z00 4) ?_;refine At.cs [23] h (fun h=>?_) (fun h=>?_)
    ·refine At.sg 7 [1,2,4,7,23,30] [2,4,30304] (z00 7) ?_;refine At.cs [30] h (fun h=>?_) (fun h=>?_)
     ·refine At.sg 8 [1,2,4,7,38] [2,4,30304] (z00 2) ?_;refine At.done rfl ?_;exact⟨_,h,kr⟩
     ·refine At.sg 8 [1,2,4,7,38] [2,4,30304] (z00 8) ?_;refine At.done rfl ?_;exact⟨_,h,kr⟩
    ·refine At.sg 15 [1,2,4,7,38] [2,4,30304] (z00 1) ?_;refine At.done rfl ?_;exact⟨_,h,kr⟩
  ·intro a4 h;refine Tri.sg [4,5,6] [4,30304] (z00 5) ?_;refine Tri.keep [4,5,6] [4,30304] (s':=⟨[(4,.c (.ptr 4 0)),(5,cD (dI a4.1)),(6,cD (dI 0))],[(4,.box [.d (lD 6 z01 a4.2.a),.d (lD 6 z01 a4.2.b),.d (dI a4.2.i),.d (dI a4.2.j),.d (lD 3 z02 a4.2.since),oC 30304 6 a4.2.out]),(30304,vL 6 z01 a4.2.out)]⟩) (by kernel_rfl) ?_;refine Tri.l [30304] ⟨[(4,.c (.ptr 4 0)),(5,cD (dI a4.1)),(6,cD (dI 0))],[(4,.box (cMerger a4.2))]⟩ ⟨⟨_,rfl,.refl _⟩,⟨_,rfl,.refl _⟩,⟨_,rfl,.refl _⟩,trivial⟩ ⟨⟨_,rfl,.box (.cons (.refl _) (.cons (.refl _) (.cons (.refl _) (.cons (.refl _) (.cons (.refl _) (.cons (CLe.frozen (z01) a4.2.out rfl (by simp)) .nil)))))),(by simp)⟩,trivial⟩ ?_;refine Tri.ret ?_;cases h;exact RetAt.k
  ·exact fun x s hx hr=>by cases hx;exact hr
theorem zfx {fuel:Nat}{p0:Merger}{q:Batch×Int}(h:z77 fuel p0=some q):
 Summ Tryz.prog 23 [.agg (cMerger p0)] [] (.tup [(true,[.d (lD 3 z02 q.1.since),.d (lD 6 z01 q.1.updates)]),(false,[.d (dI q.2)])]) []:=by
 refine Summ.i Tryz.func23 rfl [] fun w0 G0 V LL φ0=>?_;unfold z77 at h;refine Tri.sg [1,2] [1,2] (z00 3) ?_;refine z03 ?_;refine z0d (fun(a1:Bool)=>⟨[(1,.c (.ptr 1 0)),(2,.c (.ptr 2 0)),(22,cD (.bool a1))],[(1,.box (cMerger p0)),(2,.box [.zero,.zero])]⟩) h (fun a1 h=>?_) (fun j2 h=>?_)
 ·refine z09 h (fun h=>?_) (fun h=>?_)
  ·refine Tri.sg [2,3] [2] (z00 3) ?_;refine Tri.keep [2,3] [2] (s':=⟨[(2,.c (.ptr 2 0)),(3,cD (dI 8))],[(2,.box [.zero,.zero])]⟩) (by kernel_rfl) ?_;refine Tri.l [] ⟨[(2,.c (.ptr 2 0)),(3,cD (dI 8))],[(2,.box [.d (lD 3 z02 ([]:List Time)),.d (lD 6 z01 ([]:List Update))])]⟩ ⟨⟨_,rfl,.refl _⟩,⟨_,rfl,.refl _⟩,trivial⟩ ⟨⟨_,rfl,.box (.cons (.zero _ _) (.cons (.zero _ _) .nil)),(by simp)⟩,trivial⟩ ?_;refine Tri.ret ?_;cases h;exact RetAt.k
  ·refine Tri.skip ?_;refine z03 ?_;refine z08 ?_;refine At.sg 1 [1,2,24] [1,2] (z00 1) ?_;obtain⟨r3,hr3,h⟩:=z05 h;refine At.cA [] [.agg (cMerger p0)] (zak hr3) (.cons (.refl _) .nil) ?_;refine At.sg 1 [1,2] [1,2] (z00 1) ?_;refine At.done rfl ?_;refine Tri.sg [2,3] [2] (z00 7) ?_;refine Tri.ret ?_;cases h;exact RetAt.k
 ·refine z08 ?_;refine At.sg 1 [1,2,4] [1,2] (z00 1) ?_;obtain⟨r4,hr4,h⟩:=z05 h;refine At.cA [] [.agg (cMerger p0)] (z4v hr4) (.cons (.refl _) .nil) ?_;refine At.sg 2 [1,2,7] [1,2] (z00 2) ?_;refine At.cs [7] h (fun h=>?_) (fun h=>?_)
  ·refine At.sg 15 [1,2,22] [1,2] (z00 3) ?_;refine At.done rfl ?_;exact⟨_,h,kr⟩
  ·refine At.sg 8 [1,2,15] [1,2] (z00 8) ?_;refine At.cs [15] h (fun h=>?_) (fun h=>?_)
   ·refine At.sg 7 [1,2,22] [1,2] (z00 1) ?_;refine At.done rfl ?_;exact⟨_,h,kr⟩
   ·refine At.sg 7 [1,2,22] [1,2] (z00 7) ?_;refine At.done rfl ?_;exact⟨_,h,kr⟩
theorem zej {fuel:Nat}{p0:List Time}{p1:Batch}{p2:Batch}{q:Merger×Int}(h:z64 fuel p0 p1 p2=some q):
 Summ Tryz.prog 25 [cD (lD 3 z02 p0),.agg (cBatch p1),.agg (cBatch p2)] [] (.tup [(true,[.d (lD 6 z01 q.1.a),.d (lD 6 z01 q.1.b),.d (dI q.1.i),.d (dI q.1.j),.d (lD 3 z02 q.1.since),.d (lD 6 z01 q.1.out)]),(false,[.d (dI q.2)])]) []:=by
 refine Summ.i Tryz.func25 rfl [] fun w0 G0 V LL φ0=>?_;unfold z64 at h;refine Tri.sg [0,4,5,6] [4,5,6] (z00 4) ?_;refine z03 ?_;refine z0k ?_;refine z0d (fun(a1:Bool)=>⟨[(0,cD (lD 3 z02 p0)),(4,.c (.ptr 4 0)),(5,.c (.ptr 5 0)),(6,.c (.ptr 6 0)),(8,cD (.bool a1))],[(4,.box (cBatch p1)),(5,.box (cBatch p2)),(6,.box [.zero,.zero,.d (dI 0),.d (dI 0),.zero,.zero])]⟩) h (fun a1 h=>?_) (fun j2 h=>?_)
 ·refine z09 h (fun h=>?_) (fun h=>?_)
  ·refine Tri.sg [6,7] [6] (z00 3) ?_;refine Tri.keep [6,7] [6] (s':=⟨[(6,.c (.ptr 6 0)),(7,cD (dI 4))],[(6,.box [.zero,.zero,.d (dI 0),.d (dI 0),.zero,.zero])]⟩) (by kernel_rfl) ?_;refine Tri.l [] ⟨[(6,.c (.ptr 6 0)),(7,cD (dI 4))],[(6,.box [.d (lD 6 z01 ([]:List Update)),.d (lD 6 z01 ([]:List Update)),.d (dI 0),.d (dI 0),.d (lD 3 z02 ([]:List Time)),.d (lD 6 z01 ([]:List Update))])]⟩ ⟨⟨_,rfl,.refl _⟩,⟨_,rfl,.refl _⟩,trivial⟩ ⟨⟨_,rfl,.box (.cons (.zero _ _) (.cons (.zero _ _) (.cons (.refl _) (.cons (.refl _) (.cons (.zero _ _) (.cons (.zero _ _) .nil)))))),(by simp)⟩,trivial⟩ ?_;refine Tri.ret ?_;cases h;exact RetAt.k
  ·refine z0d (fun(a3:Bool)=>⟨[(0,cD (lD 3 z02 p0)),(4,.c (.ptr 4 0)),(5,.c (.ptr 5 0)),(6,.c (.ptr 6 0)),(23,cD (.bool a3))],[(4,.box (cBatch p1)),(5,.box (cBatch p2)),(6,.box [.zero,.zero,.d (dI 0),.d (dI 0),.zero,.zero])]⟩) h (fun a3 h=>?_) (fun j4 h=>?_)
   ·refine z09 h (fun h=>?_) (fun h=>?_)
    ·refine Tri.sg [6,7] [6] (z00 3) ?_;refine Tri.keep [6,7] [6] (s':=⟨[(6,.c (.ptr 6 0)),(7,cD (dI 1))],[(6,.box [.zero,.zero,.d (dI 0),.d (dI 0),.zero,.zero])]⟩) (by kernel_rfl) ?_;refine Tri.l [] ⟨[(6,.c (.ptr 6 0)),(7,cD (dI 1))],[(6,.box [.d (lD 6 z01 ([]:List Update)),.d (lD 6 z01 ([]:List Update)),.d (dI 0),.d (dI 0),.d (lD 3 z02 ([]:List Time)),.d (lD 6 z01 ([]:List Update))])]⟩ ⟨⟨_,rfl,.refl _⟩,⟨_,rfl,.refl _⟩,trivial⟩ ⟨⟨_,rfl,.box (.cons (.zero _ _) (.cons (.zero _ _) (.cons (.refl _) (.cons (.refl _) (.cons (.zero _ _) (.cons (.zero _ _) .nil)))))),(by simp)⟩,trivial⟩ ?_;refine Tri.ret ?_;cases h;exact RetAt.k
    ·refine Tri.skip ?_;refine z03 ?_;obtain⟨r5,hr5,h⟩:=z05 h;obtain⟨r6,hr6,h⟩:=z05 h;obtain⟨hc7,h⟩:=z04 h;refine z0e [.a [4] [],.a [37] [4],.m ⟨[(38,cD (lD 6 z01 p1.updates))],[]⟩ ⟨[(39,cD (lD 6 z01 r5))],[]⟩ [] [] [],.a [5] [],.a [40] [5],.m ⟨[(41,cD (lD 6 z01 p2.updates))],[]⟩ ⟨[(42,cD (lD 6 z01 r6))],[]⟩ [] [] [],.m ⟨[],[]⟩ ⟨[(43,.c (.zero))],[]⟩ [] [] [],.a [0] [],.m ⟨[(43,.c (.zero)),(44,cD (lD 3 z02 p0))],[]⟩ ⟨[(45,.c (oC 45 3 p0))],[(45,vL 3 z02 p0)]⟩ [45] [] [],.a [39,42,45] [],.m ⟨[(6,.c (.ptr 6 0)),(46,.agg [.d (lD 6 z01 r5),.d (lD 6 z01 r6),.d (dI 0),.d (dI 0),oC 45 3 p0,.zero])],[(6,.box [.zero,.zero,.d (dI 0),.d (dI 0),.zero,.zero]),(45,vL 3 z02 p0)]⟩ ⟨[],[(6,.box [.d (lD 6 z01 r5),.d (lD 6 z01 r6),.d (dI 0),.d (dI 0),oC 45 3 p0,.zero])]⟩ [] [] [],.a [] []] [6,7] [6,45] (z00 7) (.a (.a (.m ?_ (.a (.a (.m ?_ (.m ?_ (.a (.m ?_ (.a (.m ?_ (.a .z)))))))))))) ?_
     ·exact DOk.cA [] [cD (lD 6 z01 p1.updates)] (z3q hr5) fun r=>(.cons (.refl _) .nil)
     ·exact DOk.cA [] [cD (lD 6 z01 p2.updates)] (z3q hr6) fun r=>(.cons (.refl _) .nil)
     ·exact DOk.one fun r _=>z5u (e:=54) (es:=3) rfl (by kernel_rfl) rfl rfl (by kernel_rfl) rfl
     ·exact DOk.one fun r hr=>z5c (e:=54) (es:=3) (m:=p0.length) (get:=fun i=>z02 (p0.getD i zzd)) rfl (by kernel_rfl) rfl rfl (z2i (by kernel_rfl) (hr 45 (by simp))) (.of 54 24 [.d (dU 0),.d (dU 0),.d (dU 0)] (by kernel_rfl) (by kernel_rfl) (by kernel_rfl) (by kernel_rfl) rfl (by kernel_rfl) rfl) rfl rfl (.list rfl (fun _ _=>rfl)) hc7
     ·exact DOk.step (.turn 6 (.box [.d (lD 6 z01 r5),.d (lD 6 z01 r6),.d (dI 0),.d (dI 0),oC 45 3 p0,.zero])) (fun r=>by kernel_rfl) (fun r=>by kernel_rfl) trivial (by kernel_rfl) (by kernel_rfl) (fun r=>rfl)
     refine Tri.keep [6,7] [6,45] (s':=⟨[(6,.c (.ptr 6 0)),(7,cD (dI 0))],[(6,.box [.d (lD 6 z01 r5),.d (lD 6 z01 r6),.d (dI 0),.d (dI 0),oC 45 3 p0,.zero]),(45,vL 3 z02 p0)]⟩) (by kernel_rfl) ?_;refine Tri.l [45] ⟨[(6,.c (.ptr 6 0)),(7,cD (dI 0))],[(6,.box [.d (lD 6 z01 r5),.d (lD 6 z01 r6),.d (dI 0),.d (dI 0),.d (lD 3 z02 p0),.d (lD 6 z01 ([]:List Update))])]⟩ ⟨⟨_,rfl,.refl _⟩,⟨_,rfl,.refl _⟩,trivial⟩ ⟨⟨_,rfl,.box (.cons (.refl _) (.cons (.refl _) (.cons (.refl _) (.cons (.refl _) (.cons (CLe.frozen (z02) p0 rfl (by simp)) (.cons (.zero _ _) .nil)))))),(by simp)⟩,trivial⟩ ?_;refine Tri.ret ?_;cases h;exact RetAt.k
   ·refine z08 ?_;refine At.sg 3 [0,4,5,6,24,26] [4,5,6] (z00 3) ?_;obtain⟨r8,hr8,h⟩:=z05 h;refine At.cA [] [cD (lD 3 z02 p0),cD (lD 3 z02 p1.since)] (za8 hr8) (.cons (.refl _) (.cons (.refl _) .nil)) ?_;refine At.sg 2 [0,4,5,6,29] [4,5,6] (z00 2) ?_;refine At.cs [29] h (fun h=>?_) (fun h=>?_)
    ·refine At.sg 7 [0,4,5,6,23] [4,5,6] (z00 2) ?_;refine At.done rfl ?_;exact⟨_,h,kr⟩
    ·refine At.sg 3 [0,4,5,6,29,30,32] [4,5,6] (z00 3) ?_;obtain⟨r9,hr9,h⟩:=z05 h;refine At.cA [] [cD (lD 3 z02 p0),cD (lD 3 z02 p2.since)] (za8 hr9) (.cons (.refl _) (.cons (.refl _) .nil)) ?_;refine At.sg 3 [0,4,5,6,23] [4,5,6] (z00 3) ?_;refine At.done rfl ?_;exact⟨_,h,kr⟩
 ·refine z08 ?_;refine At.sg 1 [0,4,5,6,9] [4,5,6] (z00 1) ?_;obtain⟨r10,hr10,h⟩:=z05 h;refine At.cA [] [.agg (cBatch p1)] (za7 hr10) (.cons (.refl _) .nil) ?_;refine At.sg 2 [0,4,5,6,12] [4,5,6] (z00 2) ?_;refine At.cs [12] h (fun h=>?_) (fun h=>?_)
  ·refine At.sg 10 [0,4,5,6,8] [4,5,6] (z00 4) ?_;refine At.done rfl ?_;exact⟨_,h,kr⟩
  ·refine At.sg 1 [0,4,5,6,12,13] [4,5,6] (z00 1) ?_;obtain⟨r11,hr11,h⟩:=z05 h;refine At.cA [] [.agg (cBatch p2)] (za7 hr11) (.cons (.refl _) .nil) ?_;refine At.sg 3 [0,4,5,6,17] [4,5,6] (z00 3) ?_;refine At.cs [17] h (fun h=>?_) (fun h=>?_)
   ·refine At.sg 5 [0,4,5,6,8] [4,5,6] (z00 2) ?_;refine At.done rfl ?_;exact⟨_,h,kr⟩
   ·refine At.sg 1 [0,4,5,6,17,18] [4,5,6] (z00 1) ?_;obtain⟨r12,hr12,h⟩:=z05 h;refine At.cA [] [cD (lD 3 z02 p0)] (z85 hr12) (.cons (.refl _) .nil) ?_;refine At.sg 3 [0,4,5,6,8] [4,5,6] (z00 3) ?_;refine At.done rfl ?_;exact⟨_,h,kr⟩
theorem z1m {p0:Merger}{p1:Merger}{q:Bool}(h:z4t p0 p1=some q):
 Summ Tryz.prog 26 [.agg (cMerger p0),.agg (cMerger p1)] [] (cD (.bool q)) []:=by
 refine Summ.i Tryz.func26 rfl [] fun w0 G0 V LL φ0=>?_;unfold z4t at h;refine Tri.sg [2,3] [2,3] (z00 3) ?_;refine z0d (fun(a1:Bool)=>⟨[(4,cD (.bool a1))],[]⟩) h (fun a1 h=>?_) (fun j2 h=>?_)
 ·refine Tri.ret ?_;cases h;exact RetAt.k
 ·refine z08 ?_;refine At.sg 4 [2,3,6,8] [2,3] (z00 4) ?_;obtain⟨r3,hr3,h⟩:=z05 h;refine At.cA [] [cD (lD 6 z01 p0.a),cD (lD 6 z01 p1.a)] (z6s hr3) (.cons (.refl _) (.cons (.refl _) .nil)) ?_;refine At.sg 1 [2,3,10] [2,3] (z00 1) ?_;refine At.cs [10] h (fun h=>?_) (fun h=>?_)
  ·refine At.sg 4 [2,3,10,12,14] [2,3] (z00 4) ?_;obtain⟨r4,hr4,h⟩:=z05 h;refine At.cA [] [cD (lD 6 z01 p0.b),cD (lD 6 z01 p1.b)] (z6s hr4) (.cons (.refl _) (.cons (.refl _) .nil)) ?_;refine At.sg 2 [2,3,17] [2,3] (z00 2) ?_;refine At.cs [17] h (fun h=>?_) (fun h=>?_)
   ·refine At.sg 7 [2,3,24] [2,3] (z00 7) ?_;refine At.cs [24] h (fun h=>?_) (fun h=>?_)
    ·refine At.sg 7 [2,3,31] [2,3] (z00 7) ?_;refine At.cs [31] h (fun h=>?_) (fun h=>?_)
     ·refine At.sg 4 [2,3,31,33,35] [2,3] (z00 4) ?_;obtain⟨r5,hr5,h⟩:=z05 h;refine At.cA [] [cD (lD 3 z02 p0.since),cD (lD 3 z02 p1.since)] (z8i hr5) (.cons (.refl _) (.cons (.refl _) .nil)) ?_;refine At.sg 2 [2,3,38] [2,3] (z00 2) ?_;refine At.cs [38] h (fun h=>?_) (fun h=>?_)
      ·refine At.sg 4 [38,40,42] [] (z00 4) ?_;obtain⟨r6,hr6,h⟩:=z05 h;refine At.cA [] [cD (lD 6 z01 p0.out),cD (lD 6 z01 p1.out)] (z6s hr6) (.cons (.refl _) (.cons (.refl _) .nil)) ?_;refine At.sg 2 [4] [] (z00 2) ?_;refine At.done rfl ?_;exact⟨_,h,kr⟩
      ·refine At.sg 7 [4] [] (z00 2) ?_;refine At.done rfl ?_;exact⟨_,h,kr⟩
     ·refine At.sg 14 [4] [] (z00 4) ?_;refine At.done rfl ?_;exact⟨_,h,kr⟩
    ·refine At.sg 21 [4] [] (z00 6) ?_;refine At.done rfl ?_;exact⟨_,h,kr⟩
   ·refine At.sg 28 [4] [] (z00 8) ?_;refine At.done rfl ?_;exact⟨_,h,kr⟩
  ·refine At.sg 35 [4] [] (z00 10) ?_;refine At.done rfl ?_;exact⟨_,h,kr⟩
theorem zbn {fuel:Nat}{p0:Merger}{p1:Int}{p2:List Time}{p3:Batch}{p4:Batch}{q:Bool}(h:z4d fuel p0 p1 p2 p3 p4=some q):
 Summ Tryz.prog 4 [.agg (cMerger p0),cD (dI p1),cD (lD 3 z02 p2),.agg (cBatch p3),.agg (cBatch p4)] [] (cD (.bool q)) []:=by
 refine Summ.i Tryz.func4 rfl [] fun w0 G0 V LL φ0=>?_;unfold z4d at h;refine Tri.sg [1,2,5,8,9] [5,8,9] (z00 4) ?_;refine z03 ?_;refine z08 ?_;refine At.sg 1 [1,2,5,8,9,26] [5,8,9] (z00 1) ?_;obtain⟨r1,hr1,h⟩:=z05 h;refine At.cA [] [.agg (cMerger p0)] (zak hr1) (.cons (.refl _) .nil) ?_;refine At.sg 2 [1,2,5,8,9,11] [5,8,9,11] (z00 2) ?_;refine At.done rfl ?_;refine z03 ?_;refine z08 ?_;refine At.sg 2 [1,2,5,8,9,11,29,30] [5,8,9,11] (z00 2) ?_;obtain⟨r2,hr2,h⟩:=z05 h;refine At.cA [] [.agg (cMerger r1),cD (dI p1)] (zbv hr2) (.cons (.refl _) (.cons (.refl _) .nil)) ?_;refine At.sg 8 [1,2,5,8,9,11,12,13,14] [5,8,9,11,12] (z00 8) ?_;refine At.done rfl ?_;refine z03 ?_;refine z08 ?_;refine At.sg 2 [2,5,8,9,11,12,13,14,36,37] [5,8,9,11,12] (z00 2) ?_;obtain⟨r3,hr3,h⟩:=z05 h;refine At.cA [] [.agg (cMerger p0),cD (dI p1)] (zf4 hr3) (.cons (.refl _) (.cons (.refl _) .nil)) ?_;refine At.sg 8 [2,5,8,9,11,12,13,14,15,16,17] [5,8,9,11,12,15] (z00 8) ?_;refine At.done rfl ?_;refine z03 ?_;refine z08 ?_;refine At.sg 1 [2,5,8,9,11,12,13,14,15,16,17,43] [5,8,9,11,12,15] (z00 1) ?_;obtain⟨r4,hr4,h⟩:=z05 h;refine At.cA [] [.agg (cMerger r1)] (zcn hr4) (.cons (.refl _) .nil) ?_;refine At.sg 6 [2,5,8,9,11,12,13,14,15,16,17,18,19] [5,8,9,11,12,15,18] (z00 6) ?_;refine At.done rfl ?_;refine z03 ?_;refine z08 ?_;refine At.sg 1 [2,5,8,9,11,12,13,14,15,16,17,18,19,48] [5,8,9,11,12,15,18] (z00 1) ?_;obtain⟨r5,hr5,h⟩:=z05 h;refine At.cA [] [.agg (cMerger p0)] (zfx hr5) (.cons (.refl _) .nil) ?_;refine At.sg 6 [2,5,8,9,11,12,13,14,15,16,17,18,19,20,21] [5,8,9,11,12,15,18,20] (z00 6) ?_;refine At.done rfl ?_;refine z03 ?_;refine z08 ?_;refine At.sg 3 [2,5,8,9,11,12,13,14,15,16,17,18,19,20,21,53,54,55] [5,8,9,11,12,15,18,20] (z00 3) ?_;obtain⟨r6,hr6,h⟩:=z05 h;refine At.cA [] [cD (lD 3 z02 p2),.agg (cBatch p3),.agg (cBatch p4)] (ze7 hr6) (.cons (.refl _) (.cons (.refl _) (.cons (.refl _) .nil))) ?_;refine At.sg 6 [2,5,8,9,11,12,13,14,15,16,17,18,19,20,21,22,23] [5,8,9,11,12,15,18,20,22] (z00 6) ?_;refine At.done rfl ?_;refine z03 ?_;refine z08 ?_;refine At.sg 3 [5,11,12,13,14,15,16,17,18,19,20,21,22,23,60,61,62] [5,11,12,15,18,20,22] (z00 3) ?_;obtain⟨r7,hr7,h⟩:=z05 h;refine At.cA [] [cD (lD 3 z02 p2),.agg (cBatch p3),.agg (cBatch p4)] (zej hr7) (.cons (.refl _) (.cons (.refl _) (.cons (.refl _) .nil))) ?_;refine At.seg 6 [5,11,12,13,14,15,16,17,18,19,20,21,22,23,24,25] [5,11,12,15,18,20,22,24] (s':=⟨[(5,.c (.ptr 5 0)),(11,.c (.ptr 11 0)),(12,.c (.ptr 12 0)),(13,cD (dI r2.2.1)),(14,cD (dI r2.2.2)),(15,.c (.ptr 15 0)),(16,cD (dI r3.2.1)),(17,cD (dI r3.2.2)),(18,.c (.ptr 18 0)),(19,cD (dI r4.2)),(20,.c (.ptr 20 0)),(21,cD (dI r5.2)),(22,.c (.ptr 22 0)),(23,cD (dI r6.2)),(24,.c (.ptr 24 0)),(25,cD (dI r7.2))],[(5,.box (cMerger p0)),(11,.box (cMerger r1)),(12,.box (cMerger r2.1)),(15,.box (cMerger r3.1)),(18,.box (cBatch r4.1)),(20,.box (cBatch r5.1)),(22,.box (cMerger r6.1)),(24,.box (cMerger r7.1))]⟩) (by kernel_rfl) (z00 6) ?_;refine At.done rfl ?_;refine z0d (fun(a8:Bool)=>⟨[(10,cD (.bool a8))],[]⟩) h (fun a8 h=>?_) (fun j9 h=>?_)
 ·refine Tri.ret ?_;cases h;exact RetAt.k
 ·obtain⟨r10,hr10,h⟩:=z05 h;rcases z0x h with⟨hp11,h⟩|⟨hp11,h⟩
  ·obtain⟨r12,hr12,h⟩:=z05 h;rcases z0x h with⟨hp13,h⟩|⟨hp13,h⟩
   ·rcases z0x h with⟨hp14,h⟩|⟨hp14,h⟩
    ·rcases z0x h with⟨hp15,h⟩|⟨hp15,h⟩
     ·obtain⟨r16,hr16,h⟩:=z05 h;rcases z0x h with⟨hp17,h⟩|⟨hp17,h⟩
      ·rcases z0x h with⟨hp18,h⟩|⟨hp18,h⟩
       ·obtain⟨r19,hr19,h⟩:=z05 h;rcases z0x h with⟨hp20,h⟩|⟨hp20,h⟩
        ·rcases z0x h with⟨hp21,h⟩|⟨hp21,h⟩
         ·obtain⟨r22,hr22,h⟩:=z05 h;obtain⟨r23,hr23,h⟩:=z05 h;rcases z0x h with⟨hp24,h⟩|⟨hp24,h⟩
          ·obtain⟨r25,hr25,h⟩:=z05 h;refine z0e [.m ⟨[],[]⟩ ⟨[(66,cD (.bool r10))],[]⟩ [] [] [],.m ⟨[(66,cD (.bool r10))],[]⟩ ⟨[(67,.c (.d (.bool true)))],[]⟩ [] [] [],.a [12,67] [12],.a [15,67] [15],.m ⟨[(67,cD (.bool true)),(68,.agg (cMerger r2.1)),(69,.agg (cMerger r3.1))],[]⟩ ⟨[(70,cD (.bool r12))],[]⟩ [] [] [],.a [67,70] [],.m ⟨[(71,cD (.bool r12))],[]⟩ ⟨[(72,.c (.d (.bool true)))],[]⟩ [] [] [],.a [13,72] [],.a [16,72] [],.a [72,73,74] [],.a [72,75] [],.m ⟨[(76,cD (.bool (decide (r2.2.1=r3.2.1))))],[]⟩ ⟨[(77,.c (.d (.bool true)))],[]⟩ [] [] [],.a [14,77] [],.a [17,77] [],.a [77,78,79] [],.a [77,80] [],.m ⟨[(81,cD (.bool (decide (r2.2.2=r3.2.2))))],[]⟩ ⟨[(82,.c (.d (.bool true)))],[]⟩ [] [] [],.a [18,82] [18],.a [20,82] [20],.m ⟨[(82,cD (.bool true)),(83,.agg (cBatch r4.1)),(84,.agg (cBatch r5.1))],[]⟩ ⟨[(85,cD (.bool r16))],[]⟩ [] [] [],.a [82,85] [],.m ⟨[(86,cD (.bool r16))],[]⟩ ⟨[(87,.c (.d (.bool true)))],[]⟩ [] [] [],.a [19,87] [],.a [21,87] [],.a [87,88,89] [],.a [87,90] [],.m ⟨[(91,cD (.bool (decide (r4.2=r5.2))))],[]⟩ ⟨[(92,.c (.d (.bool true)))],[]⟩ [] [] [],.a [22,92] [22],.a [24,92] [24],.m ⟨[(92,cD (.bool true)),(93,.agg (cMerger r6.1)),(94,.agg (cMerger r7.1))],[]⟩ ⟨[(95,cD (.bool r19))],[]⟩ [] [] [],.a [92,95] [],.m ⟨[(96,cD (.bool r19))],[]⟩ ⟨[(97,.c (.d (.bool true)))],[]⟩ [] [] [],.a [23,97] [],.a [25,97] [],.a [97,98,99] [],.a [97,100] [],.m ⟨[(101,cD (.bool (decide (r6.2=r7.2))))],[]⟩ ⟨[(102,.c (.d (.bool true)))],[]⟩ [] [] [],.a [11,102] [11],.m ⟨[(102,cD (.bool true)),(103,.agg (cMerger r1))],[]⟩ ⟨[(104,cD (dI r22))],[]⟩ [] [] [],.a [5,102] [5],.m ⟨[(102,cD (.bool true)),(105,.agg (cMerger p0))],[]⟩ ⟨[(106,cD (dI r23))],[]⟩ [] [] [],.a [102,104,106] [],.a [102,107] [],.m ⟨[(108,cD (.bool (decide (r22=r23))))],[]⟩ ⟨[(109,.c (.d (.bool true)))],[]⟩ [] [] [],.a [11,109] [11],.a [5,109] [5],.m ⟨[(109,cD (.bool true)),(110,.agg (cMerger r1)),(111,.agg (cMerger p0))],[]⟩ ⟨[(112,cD (.bool r25))],[]⟩ [] [] [],.a [109,112] [],.a [113] []] [10] [] (z00 33) (.m ?_ (.m ?_ (.a (.a (.m ?_ (.a (.m ?_ (.a (.a (.a (.a (.m ?_ (.a (.a (.a (.a (.m ?_ (.a (.a (.m ?_ (.a (.m ?_ (.a (.a (.a (.a (.m ?_ (.a (.a (.m ?_ (.a (.m ?_ (.a (.a (.a (.a (.m ?_ (.a (.m ?_ (.a (.m ?_ (.a (.a (.m ?_ (.a (.a (.m ?_ (.a (.a .z))))))))))))))))))))))))))))))))))))))))))))))))) ?_
           ·exact DOk.cA [] [] (z29 hr10) fun r=> .nil
           ·exact z0a (fun b=> .val (.c (.d (.bool b))) (True)) (p:=r10) hp11 (fun r=>by kernel_rfl) (fun r=>by kernel_rfl) trivial (by kernel_rfl) (by kernel_rfl) (fun r=>rfl)
           ·exact DOk.cA [] [.agg (cMerger r2.1),.agg (cMerger r3.1)] (z1m hr12) fun r=>(.cons (.refl _) (.cons (.refl _) .nil))
           ·exact z0a (fun b=> .val (.c (.d (.bool b))) (True)) (p:=r12) hp13 (fun r=>by kernel_rfl) (fun r=>by kernel_rfl) trivial (by kernel_rfl) (by kernel_rfl) (fun r=>rfl)
           ·exact z0a (fun b=> .val (.c (.d (.bool b))) (True)) (p:=(decide (r2.2.1=r3.2.1))) hp14 (fun r=>by kernel_rfl) (fun r=>by kernel_rfl) trivial (by kernel_rfl) (by kernel_rfl) (fun r=>rfl)
           ·exact z0a (fun b=> .val (.c (.d (.bool b))) (True)) (p:=(decide (r2.2.2=r3.2.2))) hp15 (fun r=>by kernel_rfl) (fun r=>by kernel_rfl) trivial (by kernel_rfl) (by kernel_rfl) (fun r=>rfl)
           ·exact DOk.cA [] [.agg (cBatch r4.1),.agg (cBatch r5.1)] (z39 hr16) fun r=>(.cons (.refl _) (.cons (.refl _) .nil))
           ·exact z0a (fun b=> .val (.c (.d (.bool b))) (True)) (p:=r16) hp17 (fun r=>by kernel_rfl) (fun r=>by kernel_rfl) trivial (by kernel_rfl) (by kernel_rfl) (fun r=>rfl)
           ·exact z0a (fun b=> .val (.c (.d (.bool b))) (True)) (p:=(decide (r4.2=r5.2))) hp18 (fun r=>by kernel_rfl) (fun r=>by kernel_rfl) trivial (by kernel_rfl) (by kernel_rfl) (fun r=>rfl)
           ·exact DOk.cA [] [.agg (cMerger r6.1),.agg (cMerger r7.1)] (z1m hr19) fun r=>(.cons (.refl _) (.cons (.refl _) .nil))
           ·exact z0a (fun b=> .val (.c (.d (.bool b))) (True)) (p:=r19) hp20 (fun r=>by kernel_rfl) (fun r=>by kernel_rfl) trivial (by kernel_rfl) (by kernel_rfl) (fun r=>rfl)
           ·exact z0a (fun b=> .val (.c (.d (.bool b))) (True)) (p:=(decide (r6.2=r7.2))) hp21 (fun r=>by kernel_rfl) (fun r=>by kernel_rfl) trivial (by kernel_rfl) (by kernel_rfl) (fun r=>rfl)
           ·exact DOk.cA [] [.agg (cMerger r1)] (z6l hr22) fun r=>(.cons (.refl _) .nil)
           ·exact DOk.cA [] [.agg (cMerger p0)] (z4v hr23) fun r=>(.cons (.refl _) .nil)
           ·exact z0a (fun b=> .val (.c (.d (.bool b))) (True)) (p:=(decide (r22=r23))) hp24 (fun r=>by kernel_rfl) (fun r=>by kernel_rfl) trivial (by kernel_rfl) (by kernel_rfl) (fun r=>rfl)
           ·exact DOk.cA [] [.agg (cMerger r1),.agg (cMerger p0)] (z1m hr25) fun r=>(.cons (.refl _) (.cons (.refl _) .nil))
           exact⟨_,h,kr⟩
          ·refine z0e [.m ⟨[],[]⟩ ⟨[(66,cD (.bool r10))],[]⟩ [] [] [],.m ⟨[(66,cD (.bool r10))],[]⟩ ⟨[(67,.c (.d (.bool true)))],[]⟩ [] [] [],.a [12,67] [12],.a [15,67] [15],.m ⟨[(67,cD (.bool true)),(68,.agg (cMerger r2.1)),(69,.agg (cMerger r3.1))],[]⟩ ⟨[(70,cD (.bool r12))],[]⟩ [] [] [],.a [67,70] [],.m ⟨[(71,cD (.bool r12))],[]⟩ ⟨[(72,.c (.d (.bool true)))],[]⟩ [] [] [],.a [13,72] [],.a [16,72] [],.a [72,73,74] [],.a [72,75] [],.m ⟨[(76,cD (.bool (decide (r2.2.1=r3.2.1))))],[]⟩ ⟨[(77,.c (.d (.bool true)))],[]⟩ [] [] [],.a [14,77] [],.a [17,77] [],.a [77,78,79] [],.a [77,80] [],.m ⟨[(81,cD (.bool (decide (r2.2.2=r3.2.2))))],[]⟩ ⟨[(82,.c (.d (.bool true)))],[]⟩ [] [] [],.a [18,82] [18],.a [20,82] [20],.m ⟨[(82,cD (.bool true)),(83,.agg (cBatch r4.1)),(84,.agg (cBatch r5.1))],[]⟩ ⟨[(85,cD (.bool r16))],[]⟩ [] [] [],.a [82,85] [],.m ⟨[(86,cD (.bool r16))],[]⟩ ⟨[(87,.c (.d (.bool true)))],[]⟩ [] [] [],.a [19,87] [],.a [21,87] [],.a [87,88,89] [],.a [87,90] [],.m ⟨[(91,cD (.bool (decide (r4.2=r5.2))))],[]⟩ ⟨[(92,.c (.d (.bool true)))],[]⟩ [] [] [],.a [22,92] [22],.a [24,92] [24],.m ⟨[(92,cD (.bool true)),(93,.agg (cMerger r6.1)),(94,.agg (cMerger r7.1))],[]⟩ ⟨[(95,cD (.bool r19))],[]⟩ [] [] [],.a [92,95] [],.m ⟨[(96,cD (.bool r19))],[]⟩ ⟨[(97,.c (.d (.bool true)))],[]⟩ [] [] [],.a [23,97] [],.a [25,97] [],.a [97,98,99] [],.a [97,100] [],.m ⟨[(101,cD (.bool (decide (r6.2=r7.2))))],[]⟩ ⟨[(102,.c (.d (.bool true)))],[]⟩ [] [] [],.a [11,102] [11],.m ⟨[(102,cD (.bool true)),(103,.agg (cMerger r1))],[]⟩ ⟨[(104,cD (dI r22))],[]⟩ [] [] [],.a [5,102] [5],.m ⟨[(102,cD (.bool true)),(105,.agg (cMerger p0))],[]⟩ ⟨[(106,cD (dI r23))],[]⟩ [] [] [],.a [102,104,106] [],.a [102,107] [],.m ⟨[(108,cD (.bool (decide (r22=r23))))],[]⟩ ⟨[(109,.c (.d (.bool false)))],[]⟩ [] [] [],.a [11,109] [11],.a [5,109] [5],.a [109,110,111] [],.a [109,112] [],.a [113] []] [10] [] (z00 31) (.m ?_ (.m ?_ (.a (.a (.m ?_ (.a (.m ?_ (.a (.a (.a (.a (.m ?_ (.a (.a (.a (.a (.m ?_ (.a (.a (.m ?_ (.a (.m ?_ (.a (.a (.a (.a (.m ?_ (.a (.a (.m ?_ (.a (.m ?_ (.a (.a (.a (.a (.m ?_ (.a (.m ?_ (.a (.m ?_ (.a (.a (.m ?_ (.a (.a (.a (.a (.a .z))))))))))))))))))))))))))))))))))))))))))))))))) ?_
           ·exact DOk.cA [] [] (z29 hr10) fun r=> .nil
           ·exact z0a (fun b=> .val (.c (.d (.bool b))) (True)) (p:=r10) hp11 (fun r=>by kernel_rfl) (fun r=>by kernel_rfl) trivial (by kernel_rfl) (by kernel_rfl) (fun r=>rfl)
           ·exact DOk.cA [] [.agg (cMerger r2.1),.agg (cMerger r3.1)] (z1m hr12) fun r=>(.cons (.refl _) (.cons (.refl _) .nil))
           ·exact z0a (fun b=> .val (.c (.d (.bool b))) (True)) (p:=r12) hp13 (fun r=>by kernel_rfl) (fun r=>by kernel_rfl) trivial (by kernel_rfl) (by kernel_rfl) (fun r=>rfl)
           ·exact z0a (fun b=> .val (.c (.d (.bool b))) (True)) (p:=(decide (r2.2.1=r3.2.1))) hp14 (fun r=>by kernel_rfl) (fun r=>by kernel_rfl) trivial (by kernel_rfl) (by kernel_rfl) (fun r=>rfl)
           ·exact z0a (fun b=> .val (.c (.d (.bool b))) (True)) (p:=(decide (r2.2.2=r3.2.2))) hp15 (fun r=>by kernel_rfl) (fun r=>by kernel_rfl) trivial (by kernel_rfl) (by kernel_rfl) (fun r=>rfl)
           ·exact DOk.cA [] [.agg (cBatch r4.1),.agg (cBatch r5.1)] (z39 hr16) fun r=>(.cons (.refl _) (.cons (.refl _) .nil))
           ·exact z0a (fun b=> .val (.c (.d (.bool b))) (True)) (p:=r16) hp17 (fun r=>by kernel_rfl) (fun r=>by kernel_rfl) trivial (by kernel_rfl) (by kernel_rfl) (fun r=>rfl)
           ·exact z0a (fun b=> .val (.c (.d (.bool b))) (True)) (p:=(decide (r4.2=r5.2))) hp18 (fun r=>by kernel_rfl) (fun r=>by kernel_rfl) trivial (by kernel_rfl) (by kernel_rfl) (fun r=>rfl)
           ·exact DOk.cA [] [.agg (cMerger r6.1),.agg (cMerger r7.1)] (z1m hr19) fun r=>(.cons (.refl _) (.cons (.refl _) .nil))
           ·exact z0a (fun b=> .val (.c (.d (.bool b))) (True)) (p:=r19) hp20 (fun r=>by kernel_rfl) (fun r=>by kernel_rfl) trivial (by kernel_rfl) (by kernel_rfl) (fun r=>rfl)
           ·exact z0a (fun b=> .val (.c (.d (.bool b))) (True)) (p:=(decide (r6.2=r7.2))) hp21 (fun r=>by kernel_rfl) (fun r=>by kernel_rfl) trivial (by kernel_rfl) (by kernel_rfl) (fun r=>rfl)
           ·exact DOk.cA [] [.agg (cMerger r1)] (z6l hr22) fun r=>(.cons (.refl _) .nil)
           ·exact DOk.cA [] [.agg (cMerger p0)] (z4v hr23) fun r=>(.cons (.refl _) .nil)
           ·exact z0a (fun b=> .val (.c (.d (.bool b))) (True)) (p:=(decide (r22=r23))) hp24 (fun r=>by kernel_rfl) (fun r=>by kernel_rfl) trivial (by kernel_rfl) (by kernel_rfl) (fun r=>rfl)
           exact⟨_,h,kr⟩
         ·refine z0e [.m ⟨[],[]⟩ ⟨[(66,cD (.bool r10))],[]⟩ [] [] [],.m ⟨[(66,cD (.bool r10))],[]⟩ ⟨[(67,.c (.d (.bool true)))],[]⟩ [] [] [],.a [12,67] [12],.a [15,67] [15],.m ⟨[(67,cD (.bool true)),(68,.agg (cMerger r2.1)),(69,.agg (cMerger r3.1))],[]⟩ ⟨[(70,cD (.bool r12))],[]⟩ [] [] [],.a [67,70] [],.m ⟨[(71,cD (.bool r12))],[]⟩ ⟨[(72,.c (.d (.bool true)))],[]⟩ [] [] [],.a [13,72] [],.a [16,72] [],.a [72,73,74] [],.a [72,75] [],.m ⟨[(76,cD (.bool (decide (r2.2.1=r3.2.1))))],[]⟩ ⟨[(77,.c (.d (.bool true)))],[]⟩ [] [] [],.a [14,77] [],.a [17,77] [],.a [77,78,79] [],.a [77,80] [],.m ⟨[(81,cD (.bool (decide (r2.2.2=r3.2.2))))],[]⟩ ⟨[(82,.c (.d (.bool true)))],[]⟩ [] [] [],.a [18,82] [18],.a [20,82] [20],.m ⟨[(82,cD (.bool true)),(83,.agg (cBatch r4.1)),(84,.agg (cBatch r5.1))],[]⟩ ⟨[(85,cD (.bool r16))],[]⟩ [] [] [],.a [82,85] [],.m ⟨[(86,cD (.bool r16))],[]⟩ ⟨[(87,.c (.d (.bool true)))],[]⟩ [] [] [],.a [19,87] [],.a [21,87] [],.a [87,88,89] [],.a [87,90] [],.m ⟨[(91,cD (.bool (decide (r4.2=r5.2))))],[]⟩ ⟨[(92,.c (.d (.bool true)))],[]⟩ [] [] [],.a [22,92] [22],.a [24,92] [24],.m ⟨[(92,cD (.bool true)),(93,.agg (cMerger r6.1)),(94,.agg (cMerger r7.1))],[]⟩ ⟨[(95,cD (.bool r19))],[]⟩ [] [] [],.a [92,95] [],.m ⟨[(96,cD (.bool r19))],[]⟩ ⟨[(97,.c (.d (.bool true)))],[]⟩ [] [] [],.a [23,97] [],.a [25,97] [],.a [97,98,99] [],.a [97,100] [],.m ⟨[(101,cD (.bool (decide (r6.2=r7.2))))],[]⟩ ⟨[(102,.c (.d (.bool false)))],[]⟩ [] [] [],.a [11,102] [11],.a [102,103] [],.a [5,102] [5],.a [102,105] [],.a [102,104,106] [],.a [102,107] [],.a [108] [],.a [11,109] [11],.a [5,109] [5],.a [109,110,111] [],.a [109,112] [],.a [113] []] [10] [] (z00 29) (.m ?_ (.m ?_ (.a (.a (.m ?_ (.a (.m ?_ (.a (.a (.a (.a (.m ?_ (.a (.a (.a (.a (.m ?_ (.a (.a (.m ?_ (.a (.m ?_ (.a (.a (.a (.a (.m ?_ (.a (.a (.m ?_ (.a (.m ?_ (.a (.a (.a (.a (.m ?_ (.a (.a (.a (.a (.a (.a (.a (.a (.a (.a (.a (.a .z))))))))))))))))))))))))))))))))))))))))))))))))) ?_
          ·exact DOk.cA [] [] (z29 hr10) fun r=> .nil
          ·exact z0a (fun b=> .val (.c (.d (.bool b))) (True)) (p:=r10) hp11 (fun r=>by kernel_rfl) (fun r=>by kernel_rfl) trivial (by kernel_rfl) (by kernel_rfl) (fun r=>rfl)
          ·exact DOk.cA [] [.agg (cMerger r2.1),.agg (cMerger r3.1)] (z1m hr12) fun r=>(.cons (.refl _) (.cons (.refl _) .nil))
          ·exact z0a (fun b=> .val (.c (.d (.bool b))) (True)) (p:=r12) hp13 (fun r=>by kernel_rfl) (fun r=>by kernel_rfl) trivial (by kernel_rfl) (by kernel_rfl) (fun r=>rfl)
          ·exact z0a (fun b=> .val (.c (.d (.bool b))) (True)) (p:=(decide (r2.2.1=r3.2.1))) hp14 (fun r=>by kernel_rfl) (fun r=>by kernel_rfl) trivial (by kernel_rfl) (by kernel_rfl) (fun r=>rfl)
          ·exact z0a (fun b=> .val (.c (.d (.bool b))) (True)) (p:=(decide (r2.2.2=r3.2.2))) hp15 (fun r=>by kernel_rfl) (fun r=>by kernel_rfl) trivial (by kernel_rfl) (by kernel_rfl) (fun r=>rfl)
          ·exact DOk.cA [] [.agg (cBatch r4.1),.agg (cBatch r5.1)] (z39 hr16) fun r=>(.cons (.refl _) (.cons (.refl _) .nil))
          ·exact z0a (fun b=> .val (.c (.d (.bool b))) (True)) (p:=r16) hp17 (fun r=>by kernel_rfl) (fun r=>by kernel_rfl) trivial (by kernel_rfl) (by kernel_rfl) (fun r=>rfl)
          ·exact z0a (fun b=> .val (.c (.d (.bool b))) (True)) (p:=(decide (r4.2=r5.2))) hp18 (fun r=>by kernel_rfl) (fun r=>by kernel_rfl) trivial (by kernel_rfl) (by kernel_rfl) (fun r=>rfl)
          ·exact DOk.cA [] [.agg (cMerger r6.1),.agg (cMerger r7.1)] (z1m hr19) fun r=>(.cons (.refl _) (.cons (.refl _) .nil))
          ·exact z0a (fun b=> .val (.c (.d (.bool b))) (True)) (p:=r19) hp20 (fun r=>by kernel_rfl) (fun r=>by kernel_rfl) trivial (by kernel_rfl) (by kernel_rfl) (fun r=>rfl)
          ·exact z0a (fun b=> .val (.c (.d (.bool b))) (True)) (p:=(decide (r6.2=r7.2))) hp21 (fun r=>by kernel_rfl) (fun r=>by kernel_rfl) trivial (by kernel_rfl) (by kernel_rfl) (fun r=>rfl)
          exact⟨_,h,kr⟩
        ·refine z0e [.m ⟨[],[]⟩ ⟨[(66,cD (.bool r10))],[]⟩ [] [] [],.m ⟨[(66,cD (.bool r10))],[]⟩ ⟨[(67,.c (.d (.bool true)))],[]⟩ [] [] [],.a [12,67] [12],.a [15,67] [15],.m ⟨[(67,cD (.bool true)),(68,.agg (cMerger r2.1)),(69,.agg (cMerger r3.1))],[]⟩ ⟨[(70,cD (.bool r12))],[]⟩ [] [] [],.a [67,70] [],.m ⟨[(71,cD (.bool r12))],[]⟩ ⟨[(72,.c (.d (.bool true)))],[]⟩ [] [] [],.a [13,72] [],.a [16,72] [],.a [72,73,74] [],.a [72,75] [],.m ⟨[(76,cD (.bool (decide (r2.2.1=r3.2.1))))],[]⟩ ⟨[(77,.c (.d (.bool true)))],[]⟩ [] [] [],.a [14,77] [],.a [17,77] [],.a [77,78,79] [],.a [77,80] [],.m ⟨[(81,cD (.bool (decide (r2.2.2=r3.2.2))))],[]⟩ ⟨[(82,.c (.d (.bool true)))],[]⟩ [] [] [],.a [18,82] [18],.a [20,82] [20],.m ⟨[(82,cD (.bool true)),(83,.agg (cBatch r4.1)),(84,.agg (cBatch r5.1))],[]⟩ ⟨[(85,cD (.bool r16))],[]⟩ [] [] [],.a [82,85] [],.m ⟨[(86,cD (.bool r16))],[]⟩ ⟨[(87,.c (.d (.bool true)))],[]⟩ [] [] [],.a [19,87] [],.a [21,87] [],.a [87,88,89] [],.a [87,90] [],.m ⟨[(91,cD (.bool (decide (r4.2=r5.2))))],[]⟩ ⟨[(92,.c (.d (.bool true)))],[]⟩ [] [] [],.a [22,92] [22],.a [24,92] [24],.m ⟨[(92,cD (.bool true)),(93,.agg (cMerger r6.1)),(94,.agg (cMerger r7.1))],[]⟩ ⟨[(95,cD (.bool r19))],[]⟩ [] [] [],.a [92,95] [],.m ⟨[(96,cD (.bool r19))],[]⟩ ⟨[(97,.c (.d (.bool false)))],[]⟩ [] [] [],.a [23,97] [],.a [25,97] [],.a [97,98,99] [],.a [97,100] [],.a [101] [],.a [11,102] [11],.a [102,103] [],.a [5,102] [5],.a [102,105] [],.a [102,104,106] [],.a [102,107] [],.a [108] [],.a [11,109] [11],.a [5,109] [5],.a [109,110,111] [],.a [109,112] [],.a [113] []] [10] [] (z00 27) (.m ?_ (.m ?_ (.a (.a (.m ?_ (.a (.m ?_ (.a (.a (.a (.a (.m ?_ (.a (.a (.a (.a (.m ?_ (.a (.a (.m ?_ (.a (.m ?_ (.a (.a (.a (.a (.m ?_ (.a (.a (.m ?_ (.a (.m ?_ (.a (.a (.a (.a (.a (.a (.a (.a (.a (.a (.a (.a (.a (.a (.a (.a (.a .z))))))))))))))))))))))))))))))))))))))))))))))))) ?_
         ·exact DOk.cA [] [] (z29 hr10) fun r=> .nil
         ·exact z0a (fun b=> .val (.c (.d (.bool b))) (True)) (p:=r10) hp11 (fun r=>by kernel_rfl) (fun r=>by kernel_rfl) trivial (by kernel_rfl) (by kernel_rfl) (fun r=>rfl)
         ·exact DOk.cA [] [.agg (cMerger r2.1),.agg (cMerger r3.1)] (z1m hr12) fun r=>(.cons (.refl _) (.cons (.refl _) .nil))
         ·exact z0a (fun b=> .val (.c (.d (.bool b))) (True)) (p:=r12) hp13 (fun r=>by kernel_rfl) (fun r=>by kernel_rfl) trivial (by kernel_rfl) (by kernel_rfl) (fun r=>rfl)
         ·exact z0a (fun b=> .val (.c (.d (.bool b))) (True)) (p:=(decide (r2.2.1=r3.2.1))) hp14 (fun r=>by kernel_rfl) (fun r=>by kernel_rfl) trivial (by kernel_rfl) (by kernel_rfl) (fun r=>rfl)
         ·exact z0a (fun b=> .val (.c (.d (.bool b))) (True)) (p:=(decide (r2.2.2=r3.2.2))) hp15 (fun r=>by kernel_rfl) (fun r=>by kernel_rfl) trivial (by kernel_rfl) (by kernel_rfl) (fun r=>rfl)
         ·exact DOk.cA [] [.agg (cBatch r4.1),.agg (cBatch r5.1)] (z39 hr16) fun r=>(.cons (.refl _) (.cons (.refl _) .nil))
         ·exact z0a (fun b=> .val (.c (.d (.bool b))) (True)) (p:=r16) hp17 (fun r=>by kernel_rfl) (fun r=>by kernel_rfl) trivial (by kernel_rfl) (by kernel_rfl) (fun r=>rfl)
         ·exact z0a (fun b=> .val (.c (.d (.bool b))) (True)) (p:=(decide (r4.2=r5.2))) hp18 (fun r=>by kernel_rfl) (fun r=>by kernel_rfl) trivial (by kernel_rfl) (by kernel_rfl) (fun r=>rfl)
         ·exact DOk.cA [] [.agg (cMerger r6.1),.agg (cMerger r7.1)] (z1m hr19) fun r=>(.cons (.refl _) (.cons (.refl _) .nil))
         ·exact z0a (fun b=> .val (.c (.d (.bool b))) (True)) (p:=r19) hp20 (fun r=>by kernel_rfl) (fun r=>by kernel_rfl) trivial (by kernel_rfl) (by kernel_rfl) (fun r=>rfl)
         exact⟨_,h,kr⟩
       ·refine z0e [.m ⟨[],[]⟩ ⟨[(66,cD (.bool r10))],[]⟩ [] [] [],.m ⟨[(66,cD (.bool r10))],[]⟩ ⟨[(67,.c (.d (.bool true)))],[]⟩ [] [] [],.a [12,67] [12],.a [15,67] [15],.m ⟨[(67,cD (.bool true)),(68,.agg (cMerger r2.1)),(69,.agg (cMerger r3.1))],[]⟩ ⟨[(70,cD (.bool r12))],[]⟩ [] [] [],.a [67,70] [],.m ⟨[(71,cD (.bool r12))],[]⟩ ⟨[(72,.c (.d (.bool true)))],[]⟩ [] [] [],.a [13,72] [],.a [16,72] [],.a [72,73,74] [],.a [72,75] [],.m ⟨[(76,cD (.bool (decide (r2.2.1=r3.2.1))))],[]⟩ ⟨[(77,.c (.d (.bool true)))],[]⟩ [] [] [],.a [14,77] [],.a [17,77] [],.a [77,78,79] [],.a [77,80] [],.m ⟨[(81,cD (.bool (decide (r2.2.2=r3.2.2))))],[]⟩ ⟨[(82,.c (.d (.bool true)))],[]⟩ [] [] [],.a [18,82] [18],.a [20,82] [20],.m ⟨[(82,cD (.bool true)),(83,.agg (cBatch r4.1)),(84,.agg (cBatch r5.1))],[]⟩ ⟨[(85,cD (.bool r16))],[]⟩ [] [] [],.a [82,85] [],.m ⟨[(86,cD (.bool r16))],[]⟩ ⟨[(87,.c (.d (.bool true)))],[]⟩ [] [] [],.a [19,87] [],.a [21,87] [],.a [87,88,89] [],.a [87,90] [],.m ⟨[(91,cD (.bool (decide (r4.2=r5.2))))],[]⟩ ⟨[(92,.c (.d (.bool false)))],[]⟩ [] [] [],.a [22,92] [22],.a [24,92] [24],.a [92,93,94] [],.a [92,95] [],.a [96] [],.a [23,97] [],.a [25,97] [],.a [97,98,99] [],.a [97,100] [],.a [101] [],.a [11,102] [11],.a [102,103] [],.a [5,102] [5],.a [102,105] [],.a [102,104,106] [],.a [102,107] [],.a [108] [],.a [11,109] [11],.a [5,109] [5],.a [109,110,111] [],.a [109,112] [],.a [113] []] [10] [] (z00 26) (.m ?_ (.m ?_ (.a (.a (.m ?_ (.a (.m ?_ (.a (.a (.a (.a (.m ?_ (.a (.a (.a (.a (.m ?_ (.a (.a (.m ?_ (.a (.m ?_ (.a (.a (.a (.a (.m ?_ (.a (.a (.a (.a (.a (.a (.a (.a (.a (.a (.a (.a (.a (.a (.a (.a (.a (.a (.a (.a (.a (.a .z))))))))))))))))))))))))))))))))))))))))))))))))) ?_
        ·exact DOk.cA [] [] (z29 hr10) fun r=> .nil
        ·exact z0a (fun b=> .val (.c (.d (.bool b))) (True)) (p:=r10) hp11 (fun r=>by kernel_rfl) (fun r=>by kernel_rfl) trivial (by kernel_rfl) (by kernel_rfl) (fun r=>rfl)
        ·exact DOk.cA [] [.agg (cMerger r2.1),.agg (cMerger r3.1)] (z1m hr12) fun r=>(.cons (.refl _) (.cons (.refl _) .nil))
        ·exact z0a (fun b=> .val (.c (.d (.bool b))) (True)) (p:=r12) hp13 (fun r=>by kernel_rfl) (fun r=>by kernel_rfl) trivial (by kernel_rfl) (by kernel_rfl) (fun r=>rfl)
        ·exact z0a (fun b=> .val (.c (.d (.bool b))) (True)) (p:=(decide (r2.2.1=r3.2.1))) hp14 (fun r=>by kernel_rfl) (fun r=>by kernel_rfl) trivial (by kernel_rfl) (by kernel_rfl) (fun r=>rfl)
        ·exact z0a (fun b=> .val (.c (.d (.bool b))) (True)) (p:=(decide (r2.2.2=r3.2.2))) hp15 (fun r=>by kernel_rfl) (fun r=>by kernel_rfl) trivial (by kernel_rfl) (by kernel_rfl) (fun r=>rfl)
        ·exact DOk.cA [] [.agg (cBatch r4.1),.agg (cBatch r5.1)] (z39 hr16) fun r=>(.cons (.refl _) (.cons (.refl _) .nil))
        ·exact z0a (fun b=> .val (.c (.d (.bool b))) (True)) (p:=r16) hp17 (fun r=>by kernel_rfl) (fun r=>by kernel_rfl) trivial (by kernel_rfl) (by kernel_rfl) (fun r=>rfl)
        ·exact z0a (fun b=> .val (.c (.d (.bool b))) (True)) (p:=(decide (r4.2=r5.2))) hp18 (fun r=>by kernel_rfl) (fun r=>by kernel_rfl) trivial (by kernel_rfl) (by kernel_rfl) (fun r=>rfl)
        exact⟨_,h,kr⟩
      ·refine z0e [.m ⟨[],[]⟩ ⟨[(66,cD (.bool r10))],[]⟩ [] [] [],.m ⟨[(66,cD (.bool r10))],[]⟩ ⟨[(67,.c (.d (.bool true)))],[]⟩ [] [] [],.a [12,67] [12],.a [15,67] [15],.m ⟨[(67,cD (.bool true)),(68,.agg (cMerger r2.1)),(69,.agg (cMerger r3.1))],[]⟩ ⟨[(70,cD (.bool r12))],[]⟩ [] [] [],.a [67,70] [],.m ⟨[(71,cD (.bool r12))],[]⟩ ⟨[(72,.c (.d (.bool true)))],[]⟩ [] [] [],.a [13,72] [],.a [16,72] [],.a [72,73,74] [],.a [72,75] [],.m ⟨[(76,cD (.bool (decide (r2.2.1=r3.2.1))))],[]⟩ ⟨[(77,.c (.d (.bool true)))],[]⟩ [] [] [],.a [14,77] [],.a [17,77] [],.a [77,78,79] [],.a [77,80] [],.m ⟨[(81,cD (.bool (decide (r2.2.2=r3.2.2))))],[]⟩ ⟨[(82,.c (.d (.bool true)))],[]⟩ [] [] [],.a [18,82] [18],.a [20,82] [20],.m ⟨[(82,cD (.bool true)),(83,.agg (cBatch r4.1)),(84,.agg (cBatch r5.1))],[]⟩ ⟨[(85,cD (.bool r16))],[]⟩ [] [] [],.a [82,85] [],.m ⟨[(86,cD (.bool r16))],[]⟩ ⟨[(87,.c (.d (.bool false)))],[]⟩ [] [] [],.a [19,87] [],.a [21,87] [],.a [87,88,89] [],.a [87,90] [],.a [91] [],.a [22,92] [22],.a [24,92] [24],.a [92,93,94] [],.a [92,95] [],.a [96] [],.a [23,97] [],.a [25,97] [],.a [97,98,99] [],.a [97,100] [],.a [101] [],.a [11,102] [11],.a [102,103] [],.a [5,102] [5],.a [102,105] [],.a [102,104,106] [],.a [102,107] [],.a [108] [],.a [11,109] [11],.a [5,109] [5],.a [109,110,111] [],.a [109,112] [],.a [113] []] [10] [] (z00 24) (.m ?_ (.m ?_ (.a (.a (.m ?_ (.a (.m ?_ (.a (.a (.a (.a (.m ?_ (.a (.a (.a (.a (.m ?_ (.a (.a (.m ?_ (.a (.m ?_ (.a (.a (.a (.a (.a (.a (.a (.a (.a (.a (.a (.a (.a (.a (.a (.a (.a (.a (.a (.a (.a (.a (.a (.a (.a (.a (.a .z))))))))))))))))))))))))))))))))))))))))))))))))) ?_
       ·exact DOk.cA [] [] (z29 hr10) fun r=> .nil
       ·exact z0a (fun b=> .val (.c (.d (.bool b))) (True)) (p:=r10) hp11 (fun r=>by kernel_rfl) (fun r=>by kernel_rfl) trivial (by kernel_rfl) (by kernel_rfl) (fun r=>rfl)
       ·exact DOk.cA [] [.agg (cMerger r2.1),.agg (cMerger r3.1)] (z1m hr12) fun r=>(.cons (.refl _) (.cons (.refl _) .nil))
       ·exact z0a (fun b=> .val (.c (.d (.bool b))) (True)) (p:=r12) hp13 (fun r=>by kernel_rfl) (fun r=>by kernel_rfl) trivial (by kernel_rfl) (by kernel_rfl) (fun r=>rfl)
       ·exact z0a (fun b=> .val (.c (.d (.bool b))) (True)) (p:=(decide (r2.2.1=r3.2.1))) hp14 (fun r=>by kernel_rfl) (fun r=>by kernel_rfl) trivial (by kernel_rfl) (by kernel_rfl) (fun r=>rfl)
       ·exact z0a (fun b=> .val (.c (.d (.bool b))) (True)) (p:=(decide (r2.2.2=r3.2.2))) hp15 (fun r=>by kernel_rfl) (fun r=>by kernel_rfl) trivial (by kernel_rfl) (by kernel_rfl) (fun r=>rfl)
       ·exact DOk.cA [] [.agg (cBatch r4.1),.agg (cBatch r5.1)] (z39 hr16) fun r=>(.cons (.refl _) (.cons (.refl _) .nil))
       ·exact z0a (fun b=> .val (.c (.d (.bool b))) (True)) (p:=r16) hp17 (fun r=>by kernel_rfl) (fun r=>by kernel_rfl) trivial (by kernel_rfl) (by kernel_rfl) (fun r=>rfl)
       exact⟨_,h,kr⟩
     ·refine z0e [.m ⟨[],[]⟩ ⟨[(66,cD (.bool r10))],[]⟩ [] [] [],.m ⟨[(66,cD (.bool r10))],[]⟩ ⟨[(67,.c (.d (.bool true)))],[]⟩ [] [] [],.a [12,67] [12],.a [15,67] [15],.m ⟨[(67,cD (.bool true)),(68,.agg (cMerger r2.1)),(69,.agg (cMerger r3.1))],[]⟩ ⟨[(70,cD (.bool r12))],[]⟩ [] [] [],.a [67,70] [],.m ⟨[(71,cD (.bool r12))],[]⟩ ⟨[(72,.c (.d (.bool true)))],[]⟩ [] [] [],.a [13,72] [],.a [16,72] [],.a [72,73,74] [],.a [72,75] [],.m ⟨[(76,cD (.bool (decide (r2.2.1=r3.2.1))))],[]⟩ ⟨[(77,.c (.d (.bool true)))],[]⟩ [] [] [],.a [14,77] [],.a [17,77] [],.a [77,78,79] [],.a [77,80] [],.m ⟨[(81,cD (.bool (decide (r2.2.2=r3.2.2))))],[]⟩ ⟨[(82,.c (.d (.bool false)))],[]⟩ [] [] [],.a [18,82] [18],.a [20,82] [20],.a [82,83,84] [],.a [82,85] [],.a [86] [],.a [19,87] [],.a [21,87] [],.a [87,88,89] [],.a [87,90] [],.a [91] [],.a [22,92] [22],.a [24,92] [24],.a [92,93,94] [],.a [92,95] [],.a [96] [],.a [23,97] [],.a [25,97] [],.a [97,98,99] [],.a [97,100] [],.a [101] [],.a [11,102] [11],.a [102,103] [],.a [5,102] [5],.a [102,105] [],.a [102,104,106] [],.a [102,107] [],.a [108] [],.a [11,109] [11],.a [5,109] [5],.a [109,110,111] [],.a [109,112] [],.a [113] []] [10] [] (z00 23) (.m ?_ (.m ?_ (.a (.a (.m ?_ (.a (.m ?_ (.a (.a (.a (.a (.m ?_ (.a (.a (.a (.a (.m ?_ (.a (.a (.a (.a (.a (.a (.a (.a (.a (.a (.a (.a (.a (.a (.a (.a (.a (.a (.a (.a (.a (.a (.a (.a (.a (.a (.a (.a (.a (.a (.a (.a .z))))))))))))))))))))))))))))))))))))))))))))))))) ?_
      ·exact DOk.cA [] [] (z29 hr10) fun r=> .nil
      ·exact z0a (fun b=> .val (.c (.d (.bool b))) (True)) (p:=r10) hp11 (fun r=>by kernel_rfl) (fun r=>by kernel_rfl) trivial (by kernel_rfl) (by kernel_rfl) (fun r=>rfl)
      ·exact DOk.cA [] [.agg (cMerger r2.1),.agg (cMerger r3.1)] (z1m hr12) fun r=>(.cons (.refl _) (.cons (.refl _) .nil))
      ·exact z0a (fun b=> .val (.c (.d (.bool b))) (True)) (p:=r12) hp13 (fun r=>by kernel_rfl) (fun r=>by kernel_rfl) trivial (by kernel_rfl) (by kernel_rfl) (fun r=>rfl)
      ·exact z0a (fun b=> .val (.c (.d (.bool b))) (True)) (p:=(decide (r2.2.1=r3.2.1))) hp14 (fun r=>by kernel_rfl) (fun r=>by kernel_rfl) trivial (by kernel_rfl) (by kernel_rfl) (fun r=>rfl)
      ·exact z0a (fun b=> .val (.c (.d (.bool b))) (True)) (p:=(decide (r2.2.2=r3.2.2))) hp15 (fun r=>by kernel_rfl) (fun r=>by kernel_rfl) trivial (by kernel_rfl) (by kernel_rfl) (fun r=>rfl)
      exact⟨_,h,kr⟩
    ·refine z0e [.m ⟨[],[]⟩ ⟨[(66,cD (.bool r10))],[]⟩ [] [] [],.m ⟨[(66,cD (.bool r10))],[]⟩ ⟨[(67,.c (.d (.bool true)))],[]⟩ [] [] [],.a [12,67] [12],.a [15,67] [15],.m ⟨[(67,cD (.bool true)),(68,.agg (cMerger r2.1)),(69,.agg (cMerger r3.1))],[]⟩ ⟨[(70,cD (.bool r12))],[]⟩ [] [] [],.a [67,70] [],.m ⟨[(71,cD (.bool r12))],[]⟩ ⟨[(72,.c (.d (.bool true)))],[]⟩ [] [] [],.a [13,72] [],.a [16,72] [],.a [72,73,74] [],.a [72,75] [],.m ⟨[(76,cD (.bool (decide (r2.2.1=r3.2.1))))],[]⟩ ⟨[(77,.c (.d (.bool false)))],[]⟩ [] [] [],.a [14,77] [],.a [17,77] [],.a [77,78,79] [],.a [77,80] [],.a [81] [],.a [18,82] [18],.a [20,82] [20],.a [82,83,84] [],.a [82,85] [],.a [86] [],.a [19,87] [],.a [21,87] [],.a [87,88,89] [],.a [87,90] [],.a [91] [],.a [22,92] [22],.a [24,92] [24],.a [92,93,94] [],.a [92,95] [],.a [96] [],.a [23,97] [],.a [25,97] [],.a [97,98,99] [],.a [97,100] [],.a [101] [],.a [11,102] [11],.a [102,103] [],.a [5,102] [5],.a [102,105] [],.a [102,104,106] [],.a [102,107] [],.a [108] [],.a [11,109] [11],.a [5,109] [5],.a [109,110,111] [],.a [109,112] [],.a [113] []] [10] [] (z00 21) (.m ?_ (.m ?_ (.a (.a (.m ?_ (.a (.m ?_ (.a (.a (.a (.a (.m ?_ (.a (.a (.a (.a (.a (.a (.a (.a (.a (.a (.a (.a (.a (.a (.a (.a (.a (.a (.a (.a (.a (.a (.a (.a (.a (.a (.a (.a (.a (.a (.a (.a (.a (.a (.a (.a (.a .z))))))))))))))))))))))))))))))))))))))))))))))))) ?_
     ·exact DOk.cA [] [] (z29 hr10) fun r=> .nil
     ·exact z0a (fun b=> .val (.c (.d (.bool b))) (True)) (p:=r10) hp11 (fun r=>by kernel_rfl) (fun r=>by kernel_rfl) trivial (by kernel_rfl) (by kernel_rfl) (fun r=>rfl)
     ·exact DOk.cA [] [.agg (cMerger r2.1),.agg (cMerger r3.1)] (z1m hr12) fun r=>(.cons (.refl _) (.cons (.refl _) .nil))
     ·exact z0a (fun b=> .val (.c (.d (.bool b))) (True)) (p:=r12) hp13 (fun r=>by kernel_rfl) (fun r=>by kernel_rfl) trivial (by kernel_rfl) (by kernel_rfl) (fun r=>rfl)
     ·exact z0a (fun b=> .val (.c (.d (.bool b))) (True)) (p:=(decide (r2.2.1=r3.2.1))) hp14 (fun r=>by kernel_rfl) (fun r=>by kernel_rfl) trivial (by kernel_rfl) (by kernel_rfl) (fun r=>rfl)
     exact⟨_,h,kr⟩
   ·refine z0e [.m ⟨[],[]⟩ ⟨[(66,cD (.bool r10))],[]⟩ [] [] [],.m ⟨[(66,cD (.bool r10))],[]⟩ ⟨[(67,.c (.d (.bool true)))],[]⟩ [] [] [],.a [12,67] [12],.a [15,67] [15],.m ⟨[(67,cD (.bool true)),(68,.agg (cMerger r2.1)),(69,.agg (cMerger r3.1))],[]⟩ ⟨[(70,cD (.bool r12))],[]⟩ [] [] [],.a [67,70] [],.m ⟨[(71,cD (.bool r12))],[]⟩ ⟨[(72,.c (.d (.bool false)))],[]⟩ [] [] [],.a [13,72] [],.a [16,72] [],.a [72,73,74] [],.a [72,75] [],.a [76] [],.a [14,77] [],.a [17,77] [],.a [77,78,79] [],.a [77,80] [],.a [81] [],.a [18,82] [18],.a [20,82] [20],.a [82,83,84] [],.a [82,85] [],.a [86] [],.a [19,87] [],.a [21,87] [],.a [87,88,89] [],.a [87,90] [],.a [91] [],.a [22,92] [22],.a [24,92] [24],.a [92,93,94] [],.a [92,95] [],.a [96] [],.a [23,97] [],.a [25,97] [],.a [97,98,99] [],.a [97,100] [],.a [101] [],.a [11,102] [11],.a [102,103] [],.a [5,102] [5],.a [102,105] [],.a [102,104,106] [],.a [102,107] [],.a [108] [],.a [11,109] [11],.a [5,109] [5],.a [109,110,111] [],.a [109,112] [],.a [113] []] [10] [] (z00 19) (.m ?_ (.m ?_ (.a (.a (.m ?_ (.a (.m ?_ (.a (.a (.a (.a (.a (.a (.a (.a (.a (.a (.a (.a (.a (.a (.a (.a (.a (.a (.a (.a (.a (.a (.a (.a (.a (.a (.a (.a (.a (.a (.a (.a (.a (.a (.a (.a (.a (.a (.a (.a (.a (.a .z))))))))))))))))))))))))))))))))))))))))))))))))) ?_
    ·exact DOk.cA [] [] (z29 hr10) fun r=> .nil
    ·exact z0a (fun b=> .val (.c (.d (.bool b))) (True)) (p:=r10) hp11 (fun r=>by kernel_rfl) (fun r=>by kernel_rfl) trivial (by kernel_rfl) (by kernel_rfl) (fun r=>rfl)
    ·exact DOk.cA [] [.agg (cMerger r2.1),.agg (cMerger r3.1)] (z1m hr12) fun r=>(.cons (.refl _) (.cons (.refl _) .nil))
    ·exact z0a (fun b=> .val (.c (.d (.bool b))) (True)) (p:=r12) hp13 (fun r=>by kernel_rfl) (fun r=>by kernel_rfl) trivial (by kernel_rfl) (by kernel_rfl) (fun r=>rfl)
    exact⟨_,h,kr⟩
  ·refine z0e [.m ⟨[],[]⟩ ⟨[(66,cD (.bool r10))],[]⟩ [] [] [],.m ⟨[(66,cD (.bool r10))],[]⟩ ⟨[(67,.c (.d (.bool false)))],[]⟩ [] [] [],.a [12,67] [12],.a [15,67] [15],.a [67,68,69] [],.a [67,70] [],.a [71] [],.a [13,72] [],.a [16,72] [],.a [72,73,74] [],.a [72,75] [],.a [76] [],.a [14,77] [],.a [17,77] [],.a [77,78,79] [],.a [77,80] [],.a [81] [],.a [18,82] [18],.a [20,82] [20],.a [82,83,84] [],.a [82,85] [],.a [86] [],.a [19,87] [],.a [21,87] [],.a [87,88,89] [],.a [87,90] [],.a [91] [],.a [22,92] [22],.a [24,92] [24],.a [92,93,94] [],.a [92,95] [],.a [96] [],.a [23,97] [],.a [25,97] [],.a [97,98,99] [],.a [97,100] [],.a [101] [],.a [11,102] [11],.a [102,103] [],.a [5,102] [5],.a [102,105] [],.a [102,104,106] [],.a [102,107] [],.a [108] [],.a [11,109] [11],.a [5,109] [5],.a [109,110,111] [],.a [109,112] [],.a [113] []] [10] [] (z00 18) (.m ?_ (.m ?_ (.a (.a (.a (.a (.a (.a (.a (.a (.a (.a (.a (.a (.a (.a (.a (.a (.a (.a (.a (.a (.a (.a (.a (.a (.a (.a (.a (.a (.a (.a (.a (.a (.a (.a (.a (.a (.a (.a (.a (.a (.a (.a (.a (.a (.a (.a (.a .z))))))))))))))))))))))))))))))))))))))))))))))))) ?_
   ·exact DOk.cA [] [] (z29 hr10) fun r=> .nil
   ·exact z0a (fun b=> .val (.c (.d (.bool b))) (True)) (p:=r10) hp11 (fun r=>by kernel_rfl) (fun r=>by kernel_rfl) trivial (by kernel_rfl) (by kernel_rfl) (fun r=>rfl)
   exact⟨_,h,kr⟩
end Go.Av
namespace Go.Av
open Go Go.Proofs
def zam (x:Time):Prop:=(okInt .u64) x.epoch∧(fun p=>(okInt .u64) p.1∧(okInt .u64) p.2) x.loop∧True
def z6h (x:Time):Nat:=((fun _=>1) x.epoch+((fun p=>(fun _=>1) p.1+(fun _=>1) p.2+1) x.loop+0))+1
def zen (x:Value):Prop:=(fun _=>True) x.isText∧(okInt .i64) x.n∧(fun s=>s.size≤maxN) x.s∧True
def z8e (x:Value):Nat:=((fun _=>1) x.isText+((fun _=>1) x.n+((fun s=>s.size+1) x.s+0)))+1
def z81 (x:Update):Prop:=(fun xs=>xs.length≤maxN∧ ∀x∈xs,(zen) x) x.key∧(fun xs=>xs.length≤maxN∧ ∀x∈xs,(zen) x) x.row∧(zam) x.time∧(okInt .i64) x.diff∧True
def z32 (x:Update):Nat:=((fun xs=>(xs.map (z8e)).sum+1) x.key+((fun xs=>(xs.map (z8e)).sum+1) x.row+((z6h) x.time+((fun _=>1) x.diff+0))))+1
def zjw (x:Batch):Prop:=(fun xs=>xs.length≤maxN∧ ∀x∈xs,(zam) x) x.since∧(fun xs=>xs.length≤maxN∧ ∀x∈xs,(z81) x) x.updates∧True
def zbh (x:Batch):Nat:=((fun xs=>(xs.map (z6h)).sum+1) x.since+((fun xs=>(xs.map (z32)).sum+1) x.updates+0))+1
def okWide (x:Wide):Prop:=(okInt .i64) x.high∧(okInt .u64) x.low∧True
def zi6 (x:Merger):Prop:=(fun xs=>xs.length≤maxN∧ ∀x∈xs,(z81) x) x.a∧(fun xs=>xs.length≤maxN∧ ∀x∈xs,(z81) x) x.b∧(okInt .i64) x.i∧(okInt .i64) x.j∧(fun xs=>xs.length≤maxN∧ ∀x∈xs,(zam) x) x.since∧(fun xs=>xs.length≤maxN∧ ∀x∈xs,(z81) x) x.out∧True
def zc2 (x:Merger):Nat:=((fun xs=>(xs.map (z32)).sum+1) x.a+((fun xs=>(xs.map (z32)).sum+1) x.b+((fun _=>1) x.i+((fun _=>1) x.j+((fun xs=>(xs.map (z6h)).sum+1) x.since+((fun xs=>(xs.map (z32)).sum+1) x.out+0))))))+1
theorem zdk {H:Type}{enc:TypeId×Go.Value→H}{W:World}{Z:TypeId→DataW H→Prop}{B:DataW H→Nat}(hZ:Fine Tryz.prog Z)(hB:BulkOk B):Reads enc Tryz.prog W Z B 54 z02 zam z6h:=fun n=>by
 have h:=z1a.struct (n:=n) (enc:=enc) (W:=W) (tot:=3) hZ hB Tryz.underlying54 (by kernel_rfl) (fun m _=>(z3a.cons (k:=1) (z1a.int hB Tryz.underlying51) rfl (by kernel_rfl) (z3a.cons (k:=2) (zle hZ hB Tryz.underlying52 (k:=1) (by kernel_rfl) (by kernel_rfl) (fun m _=>(z1a.int hB Tryz.underlying51))) rfl (by kernel_rfl) (z3a.nil (off:=3)))));exact h.map (fun(p:Int×(Int×Int)×Unit)=>(⟨p.1,p.2.1⟩:Time)) (fun _ _=>rfl) (fun _ h=>h) (fun _ _=>zzc _)
theorem zj7 {H:Type}{enc:TypeId×Go.Value→H}{W:World}{Z:TypeId→DataW H→Prop}{B:DataW H→Nat}(hZ:Fine Tryz.prog Z)(hB:BulkOk B):Reads enc Tryz.prog W Z B 58 z06 zen z8e:=fun n=>by
 have h:=z1a.struct (n:=n) (enc:=enc) (W:=W) (tot:=3) hZ hB Tryz.underlying58 (by kernel_rfl) (fun m _=>(z3a.cons (k:=1) (z1a.bool hB Tryz.underlying4) rfl (by kernel_rfl) (z3a.cons (k:=1) (z1a.int hB Tryz.underlying2) rfl (by kernel_rfl) (z3a.cons (k:=1) (z1a.string hZ hB Tryz.underlying9) rfl (by kernel_rfl) (z3a.nil (off:=3))))));exact h.map (fun(p:Bool×Int×ByteArray×Unit)=>(⟨p.1,p.2.1,p.2.2.1⟩:Value)) (fun _ _=>rfl) (fun _ h=>h) (fun _ _=>zzc _)
theorem zbc {H:Type}{enc:TypeId×Go.Value→H}{W:World}{Z:TypeId→DataW H→Prop}{B:DataW H→Nat}(hZ:Fine Tryz.prog Z)(hB:BulkOk B):Reads enc Tryz.prog W Z B 56 z01 z81 z32:=fun n=>by
 have h:=z1a.struct (n:=n) (enc:=enc) (W:=W) (tot:=6) hZ hB Tryz.underlying56 (by kernel_rfl) (fun m _=>(z3a.cons (k:=1) (z1a.slice (es:=3) (e:=z06) (ok:=zen) (bulk:=z8e) hZ hB Tryz.underlying50 (by kernel_rfl) (by kernel_rfl) rfl (fun _ _=>rfl) (fun m _=>(zj7 hZ hB m))) rfl (by kernel_rfl) (z3a.cons (k:=1) (z1a.slice (es:=3) (e:=z06) (ok:=zen) (bulk:=z8e) hZ hB Tryz.underlying50 (by kernel_rfl) (by kernel_rfl) rfl (fun _ _=>rfl) (fun m _=>(zj7 hZ hB m))) rfl (by kernel_rfl) (z3a.cons (k:=3) (zdk hZ hB m) rfl (by kernel_rfl) (z3a.cons (k:=1) (z1a.int hB Tryz.underlying2) rfl (by kernel_rfl) (z3a.nil (off:=6)))))));exact h.map (fun(p:(List Value)×(List Value)×Time×Int×Unit)=>(⟨p.1,p.2.1,p.2.2.1,p.2.2.2.1⟩:Update)) (fun _ _=>rfl) (fun _ h=>h) (fun _ _=>zzc _)
theorem zj6 {H:Type}{enc:TypeId×Go.Value→H}{W:World}{Z:TypeId→DataW H→Prop}{B:DataW H→Nat}(hZ:Fine Tryz.prog Z)(hB:BulkOk B):Reads enc Tryz.prog W Z B 26 zqe zjw zbh:=fun n=>by
 have h:=z1a.struct (n:=n) (enc:=enc) (W:=W) (tot:=2) hZ hB Tryz.underlying26 (by kernel_rfl) (fun m _=>(z3a.cons (k:=1) (z1a.slice (es:=3) (e:=z02) (ok:=zam) (bulk:=z6h) hZ hB Tryz.underlying22 (by kernel_rfl) (by kernel_rfl) rfl (fun _ _=>rfl) (fun m _=>(zdk hZ hB m))) rfl (by kernel_rfl) (z3a.cons (k:=1) (z1a.slice (es:=6) (e:=z01) (ok:=z81) (bulk:=z32) hZ hB Tryz.underlying24 (by kernel_rfl) (by kernel_rfl) rfl (fun _ _=>rfl) (fun m _=>(zbc hZ hB m))) rfl (by kernel_rfl) (z3a.nil (off:=2)))));exact h.map (fun(p:(List Time)×(List Update)×Unit)=>(⟨p.1,p.2.1⟩:Batch)) (fun _ _=>rfl) (fun _ h=>h) (fun _ _=>zzc _)
theorem zn1 {H:Type}{enc:TypeId×Go.Value→H}{W:World}{Z:TypeId→DataW H→Prop}{B:DataW H→Nat}(hZ:Fine Tryz.prog Z)(hB:BulkOk B):Reads enc Tryz.prog W Z B 36 zp3 zi6 zc2:=fun n=>by
 have h:=z1a.struct (n:=n) (enc:=enc) (W:=W) (tot:=6) hZ hB Tryz.underlying36 (by kernel_rfl) (fun m _=>(z3a.cons (k:=1) (z1a.slice (es:=6) (e:=z01) (ok:=z81) (bulk:=z32) hZ hB Tryz.underlying24 (by kernel_rfl) (by kernel_rfl) rfl (fun _ _=>rfl) (fun m _=>(zbc hZ hB m))) rfl (by kernel_rfl) (z3a.cons (k:=1) (z1a.slice (es:=6) (e:=z01) (ok:=z81) (bulk:=z32) hZ hB Tryz.underlying24 (by kernel_rfl) (by kernel_rfl) rfl (fun _ _=>rfl) (fun m _=>(zbc hZ hB m))) rfl (by kernel_rfl) (z3a.cons (k:=1) (z1a.int hB Tryz.underlying3) rfl (by kernel_rfl) (z3a.cons (k:=1) (z1a.int hB Tryz.underlying3) rfl (by kernel_rfl) (z3a.cons (k:=1) (z1a.slice (es:=3) (e:=z02) (ok:=zam) (bulk:=z6h) hZ hB Tryz.underlying22 (by kernel_rfl) (by kernel_rfl) rfl (fun _ _=>rfl) (fun m _=>(zdk hZ hB m))) rfl (by kernel_rfl) (z3a.cons (k:=1) (z1a.slice (es:=6) (e:=z01) (ok:=z81) (bulk:=z32) hZ hB Tryz.underlying24 (by kernel_rfl) (by kernel_rfl) rfl (fun _ _=>rfl) (fun m _=>(zbc hZ hB m))) rfl (by kernel_rfl) (z3a.nil (off:=6)))))))));exact h.map (fun(p:(List Update)×(List Update)×Int×Int×(List Time)×(List Update)×Unit)=>(⟨p.1,p.2.1,p.2.2.1,p.2.2.2.1,p.2.2.2.2.1,p.2.2.2.2.2.1⟩:Merger)) (fun _ _=>rfl) (fun _ h=>h) (fun _ _=>zzc _)
end Go.Av
/-
 Av,part V:of loops,without any program.
-/
namespace Go.Av
section
variable {S R Q A X:Type}
theorem        zaq {B : Nat → S → Option (Ctl S R)} {n : Nat} (I : Nat → S → Prop) {s : S} (h0 : I 0 s) (hs : ∀ i s, i < n → I i s → ∃ s', B i s = some (.next s') ∧ I (i + 1) s') :
    ∃ s',    z0c B n 0 s = some (.done s') ∧ I n s' := by
  have key : ∀ k i s, i + k = n → I i s → ∃ s',    z0c B k i s = some (.done s') ∧ I n s' := by
    intro k
    induction k with
    | zero => intro i s hi h; exact ⟨s, rfl, by have : i = n := by omega
                                                subst this; exact h⟩
    | succ k ih =>
      intro i s hi h
      obtain ⟨s', h1, h2⟩ := hs i s (by omega) h
      obtain ⟨s2, h3, h4⟩ := ih (i + 1) s' (by omega) h2
      exact ⟨s2, by simp only [   z0c, h1, h3], h4⟩
  exact key n 0 s (by omega) h0
theorem z3m {B:Nat→S→Option (Ctl S R)}{n:Nat}{s:S}(r:S)(I:Nat→S→Prop)(hr: ∀s,I n s→s=r)(hs: ∀i s,i<n→I i s→ ∃s',B i s=some (.next s')∧I (i+1) s')(h0:I 0 s):
 z0c B n 0 s=some (.done r):=by
 obtain⟨s',h1,h2⟩:=zaq I h0 hs;rw[h1,hr s' h2]
theorem         zho {B : Nat → S → Option (Ctl S R)} {n : Nat} (I : Nat → S → Prop) (D : S → Prop) (J : R → Prop) {s : S} (h0 : I 0 s)
    (hs : ∀ i s, i < n → I i s → (∃ s', B i s = some (.next s') ∧ I (i + 1) s') ∨ (∃ s', B i s = some (.brk s') ∧ D s') ∨ ∃ r, B i s = some (.ret r) ∧ J r) (hD : ∀ s, I n s → D s) :
    (∃ s',    z0c B n 0 s = some (.done s') ∧ D s') ∨ ∃ r,    z0c B n 0 s = some (.ret r) ∧ J r := by
  have key : ∀ k i s, i + k = n → I i s → (∃ s',    z0c B k i s = some (.done s') ∧ D s') ∨ ∃ r,    z0c B k i s = some (.ret r) ∧ J r := by
    intro k
    induction k with
    | zero => intro i s hi h; exact .inl ⟨s, rfl, by have : i = n := by omega
                                                     subst this; exact hD s h⟩
    | succ k ih =>
      intro i s hi h
      rcases hs i s (by omega) h with ⟨s', h1, h2⟩ | ⟨s', h1, h2⟩ | ⟨r, h1, h2⟩
      · rcases ih (i + 1) s' (by omega) h2 with ⟨s2, h3, h4⟩ | ⟨r, h3, h4⟩
        · exact .inl ⟨s2, by simp only [   z0c, h1, h3], h4⟩
        · exact .inr ⟨r, by simp only [   z0c, h1, h3], h4⟩
      · exact .inl ⟨s', by simp only [   z0c, h1], h2⟩
      · exact .inr ⟨r, by simp only [   z0c, h1], h2⟩
  exact key n 0 s (by omega) h0
theorem z27 [Inhabited X]{l:List X}{i:Nat}(h:i<l.length):l.take (i+1)=l.take i++[l.getD i zzd]:=by
 rw[List.take_add_one,List.getElem?_eq_getElem h,List.getD_eq_getElem?_getD,List.getElem?_eq_getElem h];rfl
theorem z25 [Inhabited X]{l:List X}{i:Nat}(h:i<l.length):l.getD i zzd∈l:=by
 rw[List.getD_eq_getElem?_getD,List.getElem?_eq_getElem h];exact List.getElem_mem h
theorem zm6 [Inhabited X]{B:Nat→S→Option (Ctl S R)}{l:List X}(f:S→X→S){s:S}(hB: ∀i a,i<l.length→B i a=some (.next (f a (l.getD i zzd)))):
 z0c B l.length 0 s=some (.done (l.foldl f s)):=by
 obtain⟨s',h1,h2⟩:=zaq (B:=B) (n:=l.length) (fun i a=>a=(l.take i).foldl f s) (s:=s) rfl fun i a hi ha=>⟨_,hB i a hi,by rw[z27 hi,List.foldl_append,←ha];rfl⟩;rw[h1,h2,List.take_length]
@[simp] theorem z2k {s:S} {kn:S→Option Q} {kr:R→Option Q}:outK (some (.done s)) kn kr=kn s:=rfl
@[simp] theorem zsi {r:R} {kn:S→Option Q} {kr:R→Option Q}:outK (some (.ret r)) kn kr=kr r:=rfl
@[simp] theorem z3o {x y:Option Q}:bf true x y=x:=rfl
@[simp] theorem z0l {x y:Option Q}:bf false x y=y:=rfl
theorem z07 {c:Prop}[Decidable c]{k:Option Q}(h:c):need c k=k:=by unfold need;rw[if_pos h]
@[simp] theorem jn_eq {j:A→Option Q} {k:(A→Option Q)→Option Q}:jn j k=k j:=rfl
@[simp] theorem z0b {p:Prop} [Decidable p] {x y:Option Q}:bf (decide p) x y=if p then x else y:=by by_cases h:p<;>simp[h,bf]
@[simp] theorem z4q {b:Bool} {x y:Option Q}:bf (!b) x y=bf b y x:=by cases b<;>rfl
end
end Go.Av
/-
 Orders,as comparisons with three answers:without any program.
-/
namespace Go.Av
open Go
structure IsCmp {α:Type} (c:α→α→Int):Prop where
 vals: ∀a b,c a b= -1∨c a b=0∨c a b=1
 anti: ∀a b,c b a= - c a b
 tr: ∀a b d,c a b≤0→c b d≤0→c a d≤0
namespace IsCmp
variable {α β:Type} {c:α→α→Int}
theorem refl (h:IsCmp c)(a:α):c a a=0:=by have:=h.anti a a;omega
theorem lt_tr (h:IsCmp c){a b d:α}(h1:c a b<0)(h2:c b d≤0):c a d<0:=by
 have:=h.tr a b d (by omega) h2;rcases h.vals a d with g|g|g
 ·omega
 ·have g1:=h.anti a d;have g2:=h.tr b d a h2 (by omega)
  have g3:=h.anti a b;omega
 ·omega
theorem eqL (h:IsCmp c){a b:α}(d:α)(h1:c a b=0):c a d=c b d:=by
 have h2:=h.anti a b;have t1:=h.tr a b d (by omega)
 have t2:=h.tr b a d (by omega);have t3:=h.tr d a b
 have t4:=h.tr d b a;have a1:=h.anti a d
 have a2:=h.anti b d;rcases h.vals a d with g|g|g<;>rcases h.vals b d with k|k|k<;>omega
theorem eqR (h:IsCmp c){a b:α}(d:α)(h1:c a b=0):c d a=c d b:=by
 have:=h.eqL d h1;have a1:=h.anti a d
 have a2:=h.anti b d;omega
theorem symm0 (h:IsCmp c){a b:α}(h1:c a b=0):c b a=0:=by have:=h.anti a b;omega
theorem gt_iff (h:IsCmp c){a b:α}:0<c a b↔c b a<0:=by have:=h.anti a b;omega
theorem on (h:IsCmp c)(f:β→α):IsCmp fun x y=>c (f x) (f y):=⟨fun a b=>h.vals _ _,fun a b=>h.anti _ _,fun a b d=>h.tr _ _ _⟩
end IsCmp
def cmpZ (a b:Int):Int:=if a<b then -1 else if b<a then 1 else 0
theorem zb0:IsCmp cmpZ where
 vals a b:=by unfold cmpZ;split<;>(try split)<;>simp
 anti a b:=by unfold cmpZ;split<;>(try split)<;>(try split)<;>(try split)<;>omega
 tr a b d:=by unfold cmpZ;split<;>(try split)<;>(try split)<;>(try split)<;>(try split)<;>(try split)<;>omega
theorem zkb {a b:Int}:cmpZ a b=0↔a=b:=by unfold cmpZ;split<;>(try split)<;>omega
def thenC (u v:Int):Int:=if u=0 then v else u
theorem IsCmp.lex {α:Type}{c d:α→α→Int}(hc:IsCmp c)(hd:IsCmp d):IsCmp fun a b=>thenC (c a b) (d a b) where
 vals a b:=by
  unfold thenC;split
  ·exact hd.vals a b
  ·exact hc.vals a b
 anti a b:=by
  have h1:=hc.anti a b;have h2:=hd.anti a b
  unfold thenC;split<;>split<;>omega
 tr a b e h1 h2:=by
  unfold thenC at*;by_cases g1:c a b=0<;>by_cases g2:c b e=0
  ·have:=hc.eqL e g1;rw[if_pos g1]at h1;rw[if_pos g2]at h2;rw[if_pos (by omega)];exact hd.tr a b e h1 h2
  ·have:=hc.eqL e g1;rw[if_neg g2]at h2;rw[if_neg (by omega)];omega
  ·have:=hc.eqR a g2;rw[if_neg g1]at h1;rw[if_neg (by omega)];omega
  ·rw[if_neg g1]at h1;rw[if_neg g2]at h2;have:=hc.lt_tr (a:=a) (b:=b) (d:=e) (by omega) h2
   rw[if_neg (by omega)];omega
def cmpL {α:Type}(c:α→α→Int):List α→List α→Int
 |[],[]=>0
 |[],_::_=> -1
 |_::_,[]=>1
 |a::x,b::y=>thenC (c a b) (cmpL c x y)
theorem IsCmp.list {α:Type}{c:α→α→Int}(h:IsCmp c):IsCmp (cmpL c) where
 vals:=by
  intro a;induction a with
  |nil=>intro b;cases b<;>simp[cmpL]
  |cons x a ih=>
   intro b;cases b with
   |nil=>simp[cmpL]
   |cons y b=>
    simp only[cmpL,thenC];split
    ·exact ih b
    ·exact h.vals x y
 anti:=by
  intro a;induction a with
  |nil=>intro b;cases b<;>simp[cmpL]
  |cons x a ih=>
   intro b;cases b with
   |nil=>simp[cmpL]
   |cons y b=>
    have h1:=h.anti x y;have h2:=ih b
    simp only[cmpL,thenC];split<;>split<;>omega
 tr:=by
  intro a;induction a with
  |nil=>intro b d _ _;cases d<;>simp[cmpL]
  |cons x a ih=>
   intro b d h1 h2;cases b with
   |nil=>simp[cmpL]at h1
   |cons y b=>
    cases d with
    |nil=>simp[cmpL]at h2
    |cons z d=>
     simp only[cmpL]at*;unfold thenC at*;by_cases g1:c x y=0<;>by_cases g2:c y z=0
     ·have:=h.eqL z g1;rw[if_pos g1]at h1;rw[if_pos g2]at h2;rw[if_pos (by omega)];exact ih b d h1 h2
     ·have:=h.eqL z g1;rw[if_neg g2]at h2;rw[if_neg (by omega)];omega
     ·have:=h.eqR x g2;rw[if_neg g1]at h1;rw[if_neg (by omega)];omega
     ·rw[if_neg g1]at h1;rw[if_neg g2]at h2;have:=h.lt_tr (a:=x) (b:=y) (d:=z) (by omega) h2
      rw[if_neg (by omega)];omega
def cmpU8 (a b:UInt8):Int:=cmpZ (a.toNat:Int) (b.toNat:Int)
theorem zqd:IsCmp cmpU8:=zb0.on fun a:UInt8=>(a.toNat:Int)
theorem zfi: ∀x y:List UInt8,Op.bytesLess x y=decide (cmpL cmpU8 x y<0)
 |[],[]=>by simp[Op.bytesLess,cmpL]
 |[],_::_=>by simp[Op.bytesLess,cmpL]
 |_::_,[]=>by simp[Op.bytesLess,cmpL]
 |a::x,b::y=>by
  rw[Op.bytesLess,zfi x y,cmpL];have e1:(a<b)↔(a.toNat:Int)<(b.toNat:Int):=by rw[UInt8.lt_iff_toNat_lt];omega
  have e2:(a=b)↔(a.toNat:Int)=(b.toNat:Int):=by rw[←UInt8.toNat_inj];omega
  unfold cmpU8 thenC cmpZ;rw[Bool.eq_iff_iff];simp only[Bool.or_eq_true,Bool.and_eq_true,decide_eq_true_eq,beq_iff_eq,e1,e2];by_cases h1:(a.toNat:Int)<(b.toNat:Int)
  ·simp[h1]
  ·by_cases h2:(b.toNat:Int)<(a.toNat:Int)
   ·simp[h1,h2];omega
   ·have:(a.toNat:Int)=(b.toNat:Int):=by omega
    simp[this]
theorem zhi: ∀x y:List UInt8,(x==y)=decide (cmpL cmpU8 x y=0)
 |[],[]=>by simp[cmpL]
 |[],_::_=>by simp[cmpL]
 |_::_,[]=>by simp[cmpL]
 |a::x,b::y=>by
  rw[List.cons_beq_cons,zhi x y,cmpL];have e2:(a=b)↔(a.toNat:Int)=(b.toNat:Int):=by rw[←UInt8.toNat_inj];omega
  have e3:cmpU8 a b=0↔(a.toNat:Int)=(b.toNat:Int):=zkb;unfold thenC;rw[Bool.eq_iff_iff];simp only[Bool.and_eq_true,decide_eq_true_eq,beq_iff_eq,e2];by_cases h:cmpU8 a b=0
  ·rw[if_pos h];simp[e3.1 h]
  ·rw[if_neg h];constructor
   ·rintro⟨g,_⟩;exact absurd (e3.2 g) h
   ·intro g;exact absurd g h
def cmpS (a b:ByteArray):Int:=cmpL cmpU8 a.toList b.toList
theorem ze8:IsCmp cmpS:=zqd.list.on fun a:ByteArray=>a.toList
theorem zgx (a b:ByteArray):strLt a b=decide (cmpS a b<0):=zfi _ _
theorem zkt (a b:ByteArray):strEq a b=decide (cmpS a b=0):=zhi _ _
theorem zon (a:ByteArray):strEq a a=true:=by unfold strEq;simp
theorem zl0 {a b:ByteArray}(h:a.toList=b.toList):a=b:=by
 rw[ByteArray.toList_eq,ByteArray.toList_eq]at h;cases a;cases b;simp at h;simp[h]
theorem zgw {a b:ByteArray}:strEq a b=true↔a=b:=by
 unfold strEq;rw[beq_iff_eq];exact⟨zl0,fun h=>by rw[h]⟩
theorem zov {a b:ByteArray}:cmpS a b=0↔a=b:=by
 rw[←zgw,zkt,decide_eq_true_eq]
theorem z1e {α:Type}[Inhabited α]{l:List α}{i:Nat}(h:i<l.length):l.drop i=l.getD i zzd::l.drop (i+1):=by
 rw[List.drop_eq_getElem_cons h,List.getD_eq_getElem?_getD,List.getElem?_eq_getElem h];rfl
theorem zrj {α:Type}[Inhabited α]{c:α→α→Int}{p0 p1:List α}{B:Nat→Unit→Option (Ctl Unit Int)}{kn:Unit→Option Int}
 (hB: ∀i,i<p0.length→B i ()=if p1.length≤i then some (.ret 1)else if c (p0.getD i zzd) (p1.getD i zzd)=0 then some (.next ())else some (.ret (c (p0.getD i zzd) (p1.getD i zzd))))
 (hk:kn ()=some (if p0.length<p1.length then -1 else 0)):outK (z0c B p0.length 0 ()) kn (fun x=>some x)=some (cmpL c p0 p1):=by
 have key: ∀k i,i+k=p0.length→i≤p1.length→outK (z0c B k i ()) kn (fun x=>some x)=some (cmpL c (p0.drop i) (p1.drop i)):=by
  intro k;induction k with
  |zero=>
   intro i hi hle;simp only[z0c,z2k,hk];rw[zzk (by omega:p0.length≤i)];by_cases h:p0.length<p1.length
   ·rw[if_pos h,z1e (by omega:i<p1.length)];rfl
   ·rw[if_neg h,zzk (by omega:p1.length≤i)];rfl
  |succ k ih=>
   intro i hi hle;simp only[z0c,hB i (by omega)];rw[z1e (by omega:i<p0.length)];by_cases h:p1.length≤i
   ·rw[if_pos h,zzk (by omega:p1.length≤i)];rfl
   ·rw[if_neg h,z1e (by omega:i<p1.length)];simp only[cmpL,thenC];by_cases h0:c (p0.getD i zzd) (p1.getD i zzd)=0
    ·rw[if_pos h0,if_pos h0];exact ih (i+1) (by omega) (by omega)
    ·rw[if_neg h0,if_neg h0];rfl
 exact key p0.length 0 (by omega) (by omega)
theorem zqb {α:Type}[Inhabited α]{c:α→α→Int}{p0 p1:List α}{B:Int→Option (Ctl Int Int)}{kn:Int→Option Int}{fuel:Nat}(hf:p0.length<fuel)
 (hB: ∀i:Nat,i≤p0.length→i≤p1.length→B (i:Int)=if i<p0.length∧i<p1.length then(if c (p0.getD i zzd) (p1.getD i zzd)=0 then some (.next ((i+1:Nat):Int))else some (.ret (c (p0.getD i zzd) (p1.getD i zzd))))else some (.brk (i:Int)))
 (hk: ∀i,kn i=some (if p0.length<p1.length then -1 else if p1.length<p0.length then 1 else 0)):outK (loopN B fuel 0) kn (fun x=>some x)=some (cmpL c p0 p1):=by
 have key: ∀k i fuel,i+k=p0.length→i≤p1.length→k<fuel→outK (loopN B fuel (i:Int)) kn (fun x=>some x)=some (cmpL c (p0.drop i) (p1.drop i)):=by
  intro k;induction k with
  |zero=>
   intro i fuel hi hle hf;cases fuel with
   |zero=>omega
   |succ fuel=>
    simp only[loopN,hB i (by omega) hle];rw[if_neg (by omega)];simp only[z2k,hk];rw[zzk (by omega:p0.length≤i)];by_cases h:p0.length<p1.length
    ·rw[if_pos h,z1e (by omega:i<p1.length)];rfl
    ·rw[if_neg h,if_neg (by omega),zzk (by omega:p1.length≤i)];rfl
  |succ k ih=>
   intro i fuel hi hle hf;cases fuel with
   |zero=>omega
   |succ fuel=>
    simp only[loopN,hB i (by omega) hle];rw[z1e (by omega:i<p0.length)];by_cases h:i<p1.length
    ·rw[if_pos ⟨by omega,h⟩,z1e (by omega:i<p1.length)];simp only[cmpL,thenC];by_cases h0:c (p0.getD i zzd) (p1.getD i zzd)=0
     ·rw[if_pos h0,if_pos h0];exact ih (i+1) fuel (by omega) (by omega) (by omega)
     ·rw[if_neg h0,if_neg h0];rfl
    ·rw[if_neg (by omega),zzk (by omega:p1.length≤i)];simp only[z2k,hk];rw[if_neg (by omega),if_pos (by omega)];rfl
 exact key p0.length 0 fuel (by omega) (by omega) hf
theorem zmz {S R:Type}{B:S→Option (Ctl S R)}(f:Nat→S){n fuel:Nat}{z:S}(hf:n<fuel)(hs: ∀i,i<n→B (f i)=some (.next (f (i+1)))) (he:B (f n)=some (.brk z)):loopN B fuel (f 0)=some (.done z):=by
 have key: ∀k i fuel,i+k=n→k<fuel→loopN B fuel (f i)=some (.done z):=by
  intro k;induction k with
  |zero=>
   intro i fuel hi hf;have:i=n:=by omega
   subst this;cases fuel with
   |zero=>omega
   |succ fuel=>simp only[loopN,he]
  |succ k ih=>
   intro i fuel hi hf;cases fuel with
   |zero=>omega
   |succ fuel=>simp only[loopN,hs i (by omega)];exact ih (i+1) fuel (by omega) (by omega)
 exact key n 0 fuel (by omega) hf
end Go.Av
/-
 Numbers and bits:without any program.
-/
namespace Go.Av
open Go
theorem z9z (n:Int):zzu.wrap n=n % 18446744073709551616:=by simp[IntKind.wrap,IntKind.bits,IntKind.signed]
theorem z9y (n:Int):zzi.wrap n=if n % 18446744073709551616≥9223372036854775808 then n % 18446744073709551616-18446744073709551616 else n % 18446744073709551616:=by
 simp[IntKind.wrap,IntKind.bits,IntKind.signed]
def in64 (x:Int):Prop:= -9223372036854775808≤x∧x<9223372036854775808
def inU64 (x:Int):Prop:=0≤x∧x<18446744073709551616
theorem z6y {x:Int}(h:in64 x):zzi.wrap x=x:=by
 unfold in64 at h;rw[z9y];split<;>omega
theorem shr63 {x:Int}(h:in64 x):shrOp .i64 x 63=if x<0 then -1 else 0:=by
 unfold in64 at h;unfold shrOp;have e:(2:Int)^(min (63:Int).toNat zzi.bits)=9223372036854775808:=by decide
 rw[e,Int.fdiv_eq_ediv_of_nonneg _ (by decide)];split<;>omega
theorem zet (k:IntKind)(n m:Nat)(hm:m≤k.bits):shrOp k (n:Int) (m:Int)=((n / 2^m:Nat):Int):=by
 unfold shrOp;rw[zz1,Nat.min_eq_left hm,Int.fdiv_eq_ediv_of_nonneg _ (by exact Int.le_of_lt (Int.pow_pos (by decide)))]
 push_cast
 rfl
theorem zbb {w:Nat}(n:Nat)(h:n<2^w):(BitVec.ofInt w (n:Int)).toNat=n:=by
 rw[BitVec.toNat_ofInt];have e:((n:Int) % ((2^w:Nat):Int))=(n:Int):=Int.emod_eq_of_lt (by omega) (by exact_mod_cast h);rw[e,zz1]
theorem uwrap {k:IntKind}(hs:k.signed=false){n:Nat}(h:n<2^k.bits):k.wrap (n:Int)=(n:Int):=by
 unfold IntKind.wrap;simp only[hs,Bool.false_and,zzl,if_false];have:((2:Int)^k.bits)=((2^k.bits:Nat):Int):=by push_cast;rfl
 rw[this];exact Int.emod_eq_of_lt (by omega) (by exact_mod_cast h)
theorem zk3 {k:IntKind}(hs:k.signed=false){x y:Nat}(hx:x<2^k.bits)(hy:y<2^k.bits):z0v .xor k (x:Int) (y:Int)=((x^^^y:Nat):Int):=by
 unfold z0v;simp only;rw[BitVec.toNat_xor,zbb x hx,zbb y hy,uwrap hs (Nat.xor_lt_two_pow hx hy)]
theorem zrf {k:IntKind}(hs:k.signed=false){x y:Nat}(hx:x<2^k.bits)(hy:y<2^k.bits):z0v .and k (x:Int) (y:Int)=((x &&& y:Nat):Int):=by
 unfold z0v;simp only;rw[BitVec.toNat_and,zbb x hx,zbb y hy,uwrap hs (Nat.and_lt_two_pow x hy)]
theorem zjz {k:IntKind}(n m:Nat)(hm:m≤k.bits):shlOp k (n:Int) (m:Int)=k.wrap ((n*2^m:Nat):Int):=by
 unfold shlOp;rw[zz1,Nat.min_eq_left hm]
 push_cast
 rfl
end Go.Av
namespace Go.Av
open Go
section
variable {α:Type} {c:α→α→Int}
def sm (c:α→α→Int):List (α×Int)→α→Int
 |[],_=>0
 |p::l,y=>(if c y p.1=0 then p.2 else 0)+sm c l y
theorem zks (l l':List (α×Int))(y:α):sm c (l++l') y=sm c l y+sm c l' y:=by
 induction l with
 |nil=>simp[sm]
 |cons p l ih=>simp only[List.cons_append,sm,ih];omega
theorem zs3 {l l':List (α×Int)}(h:l.Perm l')(y:α):sm c l y=sm c l' y:=by
 induction h with
 |nil=>rfl
 |cons p _ ih=>simp only[sm,ih]
 |swap p q l=>simp only[sm];omega
 |trans _ _ h1 h2=>exact h1.trans h2
theorem z97 (hC:IsCmp c){y z:α}(h:c y z=0): ∀l:List (α×Int),sm c l y=sm c l z
 |[]=>rfl
 |p::l=>by simp only[sm,z97 hC h l,hC.eqL p.1 h]
theorem zk0 {y:α}: ∀{l:List (α×Int)},(∀p∈l,c y p.1≠0)→sm c l y=0
 |[],_=>rfl
 |p::l,h=>by simp only[sm,if_neg (h p (zza ..)),zk0 fun q hq=>h q (zzf _ hq)];omega
theorem zk1 {y:α}{l:List (α×Int)}(h:sm c l y≠0): ∃p∈l,c y p.1=0:=by
 apply Classical.byContradiction;intro hn;exact h (zk0 fun p hp e=>hn ⟨p,hp,e⟩)
structure SS (c:α→α→Int) (l S:List (α×Int)):Prop where
 strict:S.Pairwise fun a b=>c a.1 b.1<0
 sum: ∀p∈S,p.2=sm c l p.1
 mem: ∀p∈S,∃y∈l,y.1=p.1
 all: ∀y∈l,∃p∈S,c p.1 y.1=0
theorem zpx:SS c [] []:=⟨List.Pairwise.nil,fun p h=>(by cases h),fun p h=>(by cases h),fun p h=>(by cases h)⟩
theorem zpv (x y:α)(n:Int):sm c [(x,n)] y=if c y x=0 then n else 0:=by simp[sm]
theorem zmj (hC:IsCmp c){l A B:List (α×Int)}{x:α}{n:Int}(h:SS c l (A++B))(hA: ∀p∈A,c p.1 x<0)(hB: ∀p∈B,c x p.1<0):SS c (l++[(x,n)]) (A++(x,n)::B):=by
 have hne: ∀p∈A++B,c p.1 x≠0:=fun p hp=>by
  rcases zz6.1 hp with hp|hp
  ·have:=hA p hp;omega
  ·have:=hB p hp;have:=hC.anti x p.1;omega
 have hs:=h.strict;rw[List.pairwise_append]at hs;refine⟨?_,?_,?_,?_⟩
 ·rw[List.pairwise_append];refine⟨hs.1,List.pairwise_cons.2 ⟨hB,hs.2.1⟩,fun a ha b hb=>?_⟩;rcases zzm.1 hb with rfl|hb
  ·exact hA a ha
  ·exact hs.2.2 a ha b hb
 ·intro p hp;rw[zks,zpv];have hp':p=(x,n)∨p∈A++B:=by
   rcases zz6.1 hp with hp|hp
   ·exact .inr (zz6.2 (.inl hp))
   ·rcases zzm.1 hp with hp|hp
    ·exact .inl hp
    ·exact .inr (zz6.2 (.inr hp))
  rcases hp' with rfl|hp'
  ·simp only[hC.refl];rw[zk0 fun q hq e=>?_]
   ·simp
   ·obtain⟨p,hp,e2⟩:=h.all q hq;exact hne p hp (by rw[hC.eqL x e2];exact hC.symm0 e)
  ·rw[if_neg (hne p hp'),←h.sum p hp'];omega
 ·intro p hp;rcases zz6.1 hp with hp|hp
  ·obtain⟨y,h1,h2⟩:=h.mem p (zz6.2 (.inl hp));exact⟨y,zz6.2 (.inl h1),h2⟩
  ·rcases zzm.1 hp with rfl|hp
   ·exact⟨(x,n),zz6.2 (.inr (zz9.2 rfl)),rfl⟩
   ·obtain⟨y,h1,h2⟩:=h.mem p (zz6.2 (.inr hp));exact⟨y,zz6.2 (.inl h1),h2⟩
 ·intro y hy;rcases zz6.1 hy with hy|hy
  ·obtain⟨p,h1,h2⟩:=h.all y hy;refine⟨p,?_,h2⟩;rcases zz6.1 h1 with h1|h1
   ·exact zz6.2 (.inl h1)
   ·exact zz6.2 (.inr (zzf _ h1))
  ·rw[zz9.1 hy];exact⟨(x,n),zz6.2 (.inr (zza ..)),hC.refl x⟩
theorem zpw (hC:IsCmp c){l A B:List (α×Int)}{x:α}{p:α×Int}{n:Int}(h:SS c l (A++p::B))(hp:c p.1 x=0):SS c (l++[(x,n)]) (A++(p.1,p.2+n)::B):=by
 have hs:=h.strict;rw[List.pairwise_append,List.pairwise_cons]at hs;have hx:=hC.symm0 hp
 have hA: ∀q∈A,c q.1 x≠0:=fun q hq e=>by
  have:=hs.2.2 q hq p (zza ..);rw[hC.eqR q.1 hp]at this;omega
 have hB: ∀q∈B,c q.1 x≠0:=fun q hq e=>by
  have:=hs.2.1.1 q hq;rw[hC.eqL q.1 hp,hC.symm0 e]at this;omega
 refine⟨?_,?_,?_,?_⟩
 ·rw[List.pairwise_append,List.pairwise_cons];refine⟨hs.1,⟨hs.2.1.1,hs.2.1.2⟩,fun a ha b hb=>?_⟩;rcases zzm.1 hb with rfl|hb
  ·exact hs.2.2 a ha p (zza ..)
  ·exact hs.2.2 a ha b (zzf _ hb)
 ·intro q hq;rw[zks,zpv];rcases zz6.1 hq with hq|hq
  ·rw[if_neg (hA q hq),h.sum q (zz6.2 (.inl hq))];omega
  ·rcases zzm.1 hq with rfl|hq
   ·simp only;rw[if_pos hp,h.sum p (zz6.2 (.inr (zza ..)))]
   ·rw[if_neg (hB q hq),h.sum q (zz6.2 (.inr (zzf _ hq)))];omega
 ·intro q hq;have: ∃q'∈A++p::B,q'.1=q.1:=by
   rcases zz6.1 hq with hq|hq
   ·exact⟨q,zz6.2 (.inl hq),rfl⟩
   ·rcases zzm.1 hq with rfl|hq
    ·exact⟨p,zz6.2 (.inr (zza ..)),rfl⟩
    ·exact⟨q,zz6.2 (.inr (zzf _ hq)),rfl⟩
  obtain⟨q',h1,h2⟩:=this;obtain⟨y,h3,h4⟩:=h.mem q' h1;exact⟨y,zz6.2 (.inl h3),h4.trans h2⟩
 ·intro y hy;rcases zz6.1 hy with hy|hy
  ·obtain⟨q,h1,h2⟩:=h.all y hy;rcases zz6.1 h1 with h1|h1
   ·exact⟨q,zz6.2 (.inl h1),h2⟩
   ·rcases zzm.1 h1 with rfl|h1
    ·exact⟨(q.1,q.2+n),zz6.2 (.inr (zza ..)),h2⟩
    ·exact⟨q,zz6.2 (.inr (zzf _ h1)),h2⟩
  ·rw[zz9.1 hy];exact⟨(p.1,p.2+n),zz6.2 (.inr (zza ..)),hp⟩
def Fits (c:α→α→Int)(l:List (α×Int)):Prop:= ∀y,in64 (sm c l y)
theorem zha (hC:IsCmp c){l S:List (α×Int)}(h:SS c l S):Fits c l↔ ∀p∈S,in64 p.2:=by
 constructor
 ·intro hf p hp;rw[h.sum p hp];exact hf p.1
 ·intro hf y;by_cases e:sm c l y=0
  ·rw[e];unfold in64;omega
  ·obtain⟨q,h1,h2⟩:=zk1 e;obtain⟨p,h3,h4⟩:=h.all q h1;have e2:c p.1 y=0:=by rw[hC.eqL y h4];exact hC.symm0 h2
   rw[←z97 hC e2,←h.sum p h3];exact hf p h3
structure Res (c:α→α→Int) (num:α→Int) (put:α→Int→α) (l:List (α×Int)) (R:List α):Prop where
 strict:R.Pairwise fun a b=>c a b<0
 sum: ∀r∈R,num r=sm c l r∧num r≠0
 mem: ∀r∈R,∃y∈l,r=put y.1 (num r)
 all: ∀y∈l,sm c l y.1≠0→ ∃r∈R,c r y.1=0
def Tot (c:α→α→Int)(num:α→Int)(put:α→Int→α)(l:List (α×Int))(R:List α)(e:Int):Prop:=(e=0∧Res c num put l R∧Fits c l)∨(e=10∧R=[]∧ ¬Fits c l)
def left0 (put:α→Int→α)(S:List (α×Int)):List α:=(S.filter fun p=> !decide (p.2=0)).map fun p=>put p.1 p.2
theorem zpo (hC:IsCmp c){num:α→Int}{put:α→Int→α}(h1: ∀x n,num (put x n)=n)(h2: ∀x n y,c (put x n) y=c x y){l S:List (α×Int)}(h:SS c l S):Res c num put l (left0 put S):=by
 have h3: ∀x n y,c y (put x n)=c y x:=fun x n y=>by have:=hC.anti y (put x n);have:=hC.anti y x;have:=h2 x n y;omega
 unfold left0;refine⟨?_,?_,?_,?_⟩
 ·rw[List.pairwise_map];refine List.Pairwise.imp (fun{a b} hab=>?_) (h.strict.filter _);rw[h2,h3];exact hab
 ·intro r hr;obtain⟨p,hp,rfl⟩:=List.mem_map.1 hr;obtain⟨hp,hz⟩:=List.mem_filter.1 hp;rw[h1];refine⟨?_,by simpa using hz⟩;rw[z97 hC (show c (put p.1 p.2) p.1=0 by rw[h2];exact hC.refl _)];exact h.sum p hp
 ·intro r hr;obtain⟨p,hp,rfl⟩:=List.mem_map.1 hr;obtain⟨hp,hz⟩:=List.mem_filter.1 hp;obtain⟨y,g1,g2⟩:=h.mem p hp;exact⟨y,g1,by rw[h1,g2]⟩
 ·intro y hy hn;obtain⟨p,g1,g2⟩:=h.all y hy;refine⟨put p.1 p.2,List.mem_map.2 ⟨p,List.mem_filter.2 ⟨g1,?_⟩,rfl⟩,by rw[h2];exact g2⟩;have:=h.sum p g1
  rw[z97 hC g2]at this;simp only[Bool.not_eq_eq_eq_not,zzj,decide_eq_false_iff_not];omega
theorem zji (hC:IsCmp c): ∀{R R':List α},R.Pairwise (fun a b=>c a b<0)→R'.Pairwise (fun a b=>c a b<0)→(∀x,x∈R↔x∈R')→R=R'
 |[],[],_,_,_=>rfl
 |[],x::_,_,_,h=>by cases (h x).2 (zza ..)
 |x::_,[],_,_,h=>by cases (h x).1 (zza ..)
 |a::R,b::R',h1,h2,h=>by
  rw[List.pairwise_cons]at h1 h2;have hab:a=b:=by
   rcases zzm.1 ((h a).1 (zza ..))with e|e
   ·exact e
   ·rcases zzm.1 ((h b).2 (zza ..))with e2|e2
    ·exact e2.symm
    ·have:=h2.1 a e;have:=h1.1 b e2;have:=hC.anti a b;omega
  subst hab;have ne1:a∉R:=fun g=>by have:=h1.1 a g;rw[hC.refl]at this;omega
  have ne2:a∉R':=fun g=>by have:=h2.1 a g;rw[hC.refl]at this;omega
  rw[zji hC h1.2 h2.2 fun x=>?_];constructor
  ·intro hx;rcases zzm.1 ((h x).1 (zzf _ hx))with rfl|g
   ·exact absurd hx ne1
   ·exact g
  ·intro hx;rcases zzm.1 ((h x).2 (zzf _ hx))with rfl|g
   ·exact absurd hx ne2
   ·exact g
theorem zoj (hC:IsCmp c){num:α→Int}{put:α→Int→α}{l l':List (α×Int)}{R R':List α}(h:Res c num put l R)(h':Res c num put l' R')(hs: ∀y,sm c l y=sm c l' y)
 (hV: ∀r∈R,∀r'∈R',c r r'=0→num r=num r'→r=r'):R=R':=by
 refine zji hC h.strict h'.strict fun x=>⟨fun hx=>?_,fun hx=>?_⟩
 ·obtain⟨e1,e2⟩:=h.sum x hx;rw[hs]at e1;obtain⟨y,hy,e3⟩:=zk1 (c:=c) (l:=l') (y:=x) (by omega);obtain⟨r,hr,e4⟩:=h'.all y hy (by rw[←z97 hC e3];omega);have e5:c x r=0:=by rw[hC.eqL r e3];exact hC.symm0 e4
  rw[hV x hx r hr e5 (by rw[(h'.sum r hr).1,←z97 hC e5];exact e1)];exact hr
 ·obtain⟨e1,e2⟩:=h'.sum x hx;rw[←hs]at e1;obtain⟨y,hy,e3⟩:=zk1 (c:=c) (l:=l) (y:=x) (by omega);obtain⟨r,hr,e4⟩:=h.all y hy (by rw[←z97 hC e3];omega);have e5:c r x=0:=by rw[hC.eqL x e4];exact hC.symm0 e3
  rw[←hV r hr x hx e5 (by rw[(h.sum r hr).1,z97 hC e5];omega)];exact hr
theorem zoo (hC:IsCmp c){num:α→Int}{put:α→Int→α}{l l':List (α×Int)}{R R':List α}{e e':Int}(h:Tot c num put l R e)(h':Tot c num put l' R' e')(hs: ∀y,sm c l y=sm c l' y)
 (hV: ∀r∈R,∀r'∈R',c r r'=0→num r=num r'→r=r'):R=R'∧e=e':=by
 have hf:Fits c l↔Fits c l':=by unfold Fits;simp only[hs]
 rcases h with⟨rfl,h1,h2⟩|⟨rfl,rfl,h2⟩
 ·rcases h' with⟨rfl,g1,g2⟩|⟨rfl,rfl,g2⟩
  ·exact⟨zoj hC h1 g1 hs hV,rfl⟩
  ·exact absurd (hf.1 h2) g2
 ·rcases h' with⟨rfl,g1,g2⟩|⟨rfl,rfl,g2⟩
  ·exact absurd (hf.2 g2) h2
  ·exact⟨rfl,rfl⟩
end
end Go.Av
namespace Go.Av
open Go
section
variable {α:Type} [Inhabited α]
def insG (cmp:α→α→Option Int)(fuel:Nat)(p1:Int)(p2:Int)(l0:List α):Option (List α):=
 outK (loopN (S:=Int×(List α)) (R:=Empty) (fun(a1:Int×(List α))=>bf (decide (a1.1<p2)) (outK (loopN (S:=Int×(List α)) (R:=Empty) (fun(a3:Int×(List α))=>jn (fun(a5:Bool)=>bf a5 (need ((0:Int)≤(zzi.wrap (a3.1-1))∧(zzi.wrap (a3.1-1))<(a3.2.length:Int))<|need ((0+(zzi.wrap (a3.1-1)).toNat)<a3.2.length)<|need ((0:Int)≤a3.1∧a3.1<(a3.2.length:Int))<|need ((0+a3.1.toNat)<a3.2.length)<|need ((0:Int)≤a3.1∧a3.1<(a3.2.length:Int))<|need ((0+a3.1.toNat)<a3.2.length)<|need ((0:Int)≤(zzi.wrap (a3.1-1))∧(zzi.wrap (a3.1-1))<(a3.2.length:Int))<|need ((0+(zzi.wrap (a3.1-1)).toNat)<(a3.2.set (0+a3.1.toNat) (a3.2.getD (0+(zzi.wrap (a3.1-1)).toNat) zzd)).length)<|some (.next ((zzi.wrap (a3.1-1)),((a3.2.set (0+a3.1.toNat) (a3.2.getD (0+(zzi.wrap (a3.1-1)).toNat) zzd)).set (0+(zzi.wrap (a3.1-1)).toNat) (a3.2.getD (0+a3.1.toNat) zzd))))) (some (.brk (a3.1,a3.2)))) fun j6=>bf (decide (p1<a3.1)) (need ((0:Int)≤a3.1∧a3.1<(a3.2.length:Int))<|need ((0+a3.1.toNat)<a3.2.length)<|need ((0:Int)≤(zzi.wrap (a3.1-1))∧(zzi.wrap (a3.1-1))<(a3.2.length:Int))<|need ((0+(zzi.wrap (a3.1-1)).toNat)<a3.2.length)<|(cmp (a3.2.getD (0+a3.1.toNat) zzd) (a3.2.getD (0+(zzi.wrap (a3.1-1)).toNat) zzd)).bind fun r20=>j6 (decide (r20<0))) (j6 false)) fuel (a1.1,a1.2)) (fun(a4:Int×(List α))=>some (.next ((zzi.wrap (a1.1+1)),a4.2))) (fun(x:Empty)=>x.elim)) (some (.brk (a1.1,a1.2)))) fuel ((zzi.wrap (p1+1)),l0)) (fun(a2:Int×(List α))=>some a2.2) (fun(x:Empty)=>x.elim)
def swapG (fuel:Nat)(p1:Int)(p2:Int)(p3:Int)(l0:List α):Option (List α):=
 outK (loopN (S:=Int×(List α)) (R:=Empty) (fun(a1:Int×(List α))=>bf (decide (a1.1<p3)) (need ((0:Int)≤(zzi.wrap (p2+a1.1))∧(zzi.wrap (p2+a1.1))<(a1.2.length:Int))<|need ((0+(zzi.wrap (p2+a1.1)).toNat)<a1.2.length)<|need ((0:Int)≤(zzi.wrap (p1+a1.1))∧(zzi.wrap (p1+a1.1))<(a1.2.length:Int))<|need ((0+(zzi.wrap (p1+a1.1)).toNat)<a1.2.length)<|need ((0:Int)≤(zzi.wrap (p1+a1.1))∧(zzi.wrap (p1+a1.1))<(a1.2.length:Int))<|need ((0+(zzi.wrap (p1+a1.1)).toNat)<a1.2.length)<|need ((0:Int)≤(zzi.wrap (p2+a1.1))∧(zzi.wrap (p2+a1.1))<(a1.2.length:Int))<|need ((0+(zzi.wrap (p2+a1.1)).toNat)<(a1.2.set (0+(zzi.wrap (p1+a1.1)).toNat) (a1.2.getD (0+(zzi.wrap (p2+a1.1)).toNat) zzd)).length)<|some (.next ((zzi.wrap (a1.1+1)),((a1.2.set (0+(zzi.wrap (p1+a1.1)).toNat) (a1.2.getD (0+(zzi.wrap (p2+a1.1)).toNat) zzd)).set (0+(zzi.wrap (p2+a1.1)).toNat) (a1.2.getD (0+(zzi.wrap (p1+a1.1)).toNat) zzd))))) (some (.brk (a1.1,a1.2)))) fuel (0,l0)) (fun(a2:Int×(List α))=>some a2.2) (fun(x:Empty)=>x.elim)
def rotG (fuel:Nat)(p1:Int)(p2:Int)(p3:Int)(l0:List α):Option (List α):=
 outK (loopN (S:=Int×Int×(List α)) (R:=Empty) (fun(a1:Int×Int×(List α))=>bf (!decide (a1.1=a1.2.1)) (bf (decide (a1.2.1<a1.1)) ((swapG fuel (zzi.wrap (p2-a1.1)) p2 a1.2.1 a1.2.2).bind fun r4=>need (r4.length=a1.2.2.length)<|some (.next ((zzi.wrap (a1.1-a1.2.1)),a1.2.1,r4))) ((swapG fuel (zzi.wrap (p2-a1.1)) (zzi.wrap ((zzi.wrap (p2+a1.2.1))-a1.1)) a1.1 a1.2.2).bind fun r6=>need (r6.length=a1.2.2.length)<|some (.next (a1.1,(zzi.wrap (a1.2.1-a1.1)),r6)))) (some (.brk (a1.1,a1.2.1,a1.2.2)))) fuel ((zzi.wrap (p2-p1)),(zzi.wrap (p3-p2)),l0)) (fun(a2:Int×Int×(List α))=>(swapG fuel (zzi.wrap (p2-a2.1)) p2 a2.1 a2.2.2).bind fun r3=>some r3) (fun(x:Empty)=>x.elim)
def symG (cmp:α→α→Option Int):Nat→Int→Int→Int→(List α)→Option (List α)
 |0,_,_,_,_=>none
 |fuel+1,p1,p2,p3,l0=>
 bf (decide ((zzi.wrap (p2-p1))=1)) (outK (loopN (S:=Int×Int) (R:=Empty) (fun(a1:Int×Int)=>bf (decide (a1.1<a1.2)) (need ((0:Int)≤(zzi.wrap (shrOp .u64 (zzu.wrap (zzi.wrap (a1.1+a1.2))) 1))∧(zzi.wrap (shrOp .u64 (zzu.wrap (zzi.wrap (a1.1+a1.2))) 1))<(l0.length:Int))<|need ((0+(zzi.wrap (shrOp .u64 (zzu.wrap (zzi.wrap (a1.1+a1.2))) 1)).toNat)<l0.length)<|need ((0:Int)≤p1∧p1<(l0.length:Int))<|need ((0+p1.toNat)<l0.length)<|(cmp (l0.getD (0+(zzi.wrap (shrOp .u64 (zzu.wrap (zzi.wrap (a1.1+a1.2))) 1)).toNat) zzd) (l0.getD (0+p1.toNat) zzd)).bind fun r17=>bf (decide (r17<0)) (some (.next ((zzi.wrap ((zzi.wrap (shrOp .u64 (zzu.wrap (zzi.wrap (a1.1+a1.2))) 1))+1)),a1.2))) (some (.next (a1.1,(zzi.wrap (shrOp .u64 (zzu.wrap (zzi.wrap (a1.1+a1.2))) 1)))))) (some (.brk (a1.1,a1.2)))) fuel (p2,p3)) (fun(a2:Int×Int)=>outK (loopN (S:=Int×(List α)) (R:=Empty) (fun(a3:Int×(List α))=>bf (decide (a3.1<(zzi.wrap (a2.1-1)))) (need ((0:Int)≤(zzi.wrap (a3.1+1))∧(zzi.wrap (a3.1+1))<(a3.2.length:Int))<|need ((0+(zzi.wrap (a3.1+1)).toNat)<a3.2.length)<|need ((0:Int)≤a3.1∧a3.1<(a3.2.length:Int))<|need ((0+a3.1.toNat)<a3.2.length)<|need ((0:Int)≤a3.1∧a3.1<(a3.2.length:Int))<|need ((0+a3.1.toNat)<a3.2.length)<|need ((0:Int)≤(zzi.wrap (a3.1+1))∧(zzi.wrap (a3.1+1))<(a3.2.length:Int))<|need ((0+(zzi.wrap (a3.1+1)).toNat)<(a3.2.set (0+a3.1.toNat) (a3.2.getD (0+(zzi.wrap (a3.1+1)).toNat) zzd)).length)<|some (.next ((zzi.wrap (a3.1+1)),((a3.2.set (0+a3.1.toNat) (a3.2.getD (0+(zzi.wrap (a3.1+1)).toNat) zzd)).set (0+(zzi.wrap (a3.1+1)).toNat) (a3.2.getD (0+a3.1.toNat) zzd))))) (some (.brk (a3.1,a3.2)))) fuel (p1,l0)) (fun(a4:Int×(List α))=>some a4.2) (fun(x:Empty)=>x.elim)) (fun(x:Empty)=>x.elim)) (bf (decide ((zzi.wrap (p3-p2))=1)) (outK (loopN (S:=Int×Int) (R:=Empty) (fun(a18:Int×Int)=>bf (decide (a18.1<a18.2)) (need ((0:Int)≤p2∧p2<(l0.length:Int))<|need ((0+p2.toNat)<l0.length)<|need ((0:Int)≤(zzi.wrap (shrOp .u64 (zzu.wrap (zzi.wrap (a18.1+a18.2))) 1))∧(zzi.wrap (shrOp .u64 (zzu.wrap (zzi.wrap (a18.1+a18.2))) 1))<(l0.length:Int))<|need ((0+(zzi.wrap (shrOp .u64 (zzu.wrap (zzi.wrap (a18.1+a18.2))) 1)).toNat)<l0.length)<|(cmp (l0.getD (0+p2.toNat) zzd) (l0.getD (0+(zzi.wrap (shrOp .u64 (zzu.wrap (zzi.wrap (a18.1+a18.2))) 1)).toNat) zzd)).bind fun r34=>bf (!(decide (r34<0))) (some (.next ((zzi.wrap ((zzi.wrap (shrOp .u64 (zzu.wrap (zzi.wrap (a18.1+a18.2))) 1))+1)),a18.2))) (some (.next (a18.1,(zzi.wrap (shrOp .u64 (zzu.wrap (zzi.wrap (a18.1+a18.2))) 1)))))) (some (.brk (a18.1,a18.2)))) fuel (p1,p2)) (fun(a19:Int×Int)=>outK (loopN (S:=Int×(List α)) (R:=Empty) (fun(a20:Int×(List α))=>bf (decide (a19.1<a20.1)) (need ((0:Int)≤(zzi.wrap (a20.1-1))∧(zzi.wrap (a20.1-1))<(a20.2.length:Int))<|need ((0+(zzi.wrap (a20.1-1)).toNat)<a20.2.length)<|need ((0:Int)≤a20.1∧a20.1<(a20.2.length:Int))<|need ((0+a20.1.toNat)<a20.2.length)<|need ((0:Int)≤a20.1∧a20.1<(a20.2.length:Int))<|need ((0+a20.1.toNat)<a20.2.length)<|need ((0:Int)≤(zzi.wrap (a20.1-1))∧(zzi.wrap (a20.1-1))<(a20.2.length:Int))<|need ((0+(zzi.wrap (a20.1-1)).toNat)<(a20.2.set (0+a20.1.toNat) (a20.2.getD (0+(zzi.wrap (a20.1-1)).toNat) zzd)).length)<|some (.next ((zzi.wrap (a20.1-1)),((a20.2.set (0+a20.1.toNat) (a20.2.getD (0+(zzi.wrap (a20.1-1)).toNat) zzd)).set (0+(zzi.wrap (a20.1-1)).toNat) (a20.2.getD (0+a20.1.toNat) zzd))))) (some (.brk (a20.1,a20.2)))) fuel (p2,l0)) (fun(a21:Int×(List α))=>some a21.2) (fun(x:Empty)=>x.elim)) (fun(x:Empty)=>x.elim)) (jn (fun(a35:Int×Int×Int×Int)=>outK (loopN (S:=Int×Int) (R:=Empty) (fun(a37:Int×Int)=>bf (decide (a37.1<a37.2)) (need ((0:Int)≤(zzi.wrap ((zzi.wrap (a35.2.1-1))-(zzi.wrap (shrOp .u64 (zzu.wrap (zzi.wrap (a37.1+a37.2))) 1))))∧(zzi.wrap ((zzi.wrap (a35.2.1-1))-(zzi.wrap (shrOp .u64 (zzu.wrap (zzi.wrap (a37.1+a37.2))) 1))))<(l0.length:Int))<|need ((0+(zzi.wrap ((zzi.wrap (a35.2.1-1))-(zzi.wrap (shrOp .u64 (zzu.wrap (zzi.wrap (a37.1+a37.2))) 1)))).toNat)<l0.length)<|need ((0:Int)≤(zzi.wrap (shrOp .u64 (zzu.wrap (zzi.wrap (a37.1+a37.2))) 1))∧(zzi.wrap (shrOp .u64 (zzu.wrap (zzi.wrap (a37.1+a37.2))) 1))<(l0.length:Int))<|need ((0+(zzi.wrap (shrOp .u64 (zzu.wrap (zzi.wrap (a37.1+a37.2))) 1)).toNat)<l0.length)<|(cmp (l0.getD (0+(zzi.wrap ((zzi.wrap (a35.2.1-1))-(zzi.wrap (shrOp .u64 (zzu.wrap (zzi.wrap (a37.1+a37.2))) 1)))).toNat) zzd) (l0.getD (0+(zzi.wrap (shrOp .u64 (zzu.wrap (zzi.wrap (a37.1+a37.2))) 1)).toNat) zzd)).bind fun r58=>bf (!(decide (r58<0))) (some (.next ((zzi.wrap ((zzi.wrap (shrOp .u64 (zzu.wrap (zzi.wrap (a37.1+a37.2))) 1))+1)),a37.2))) (some (.next (a37.1,(zzi.wrap (shrOp .u64 (zzu.wrap (zzi.wrap (a37.1+a37.2))) 1)))))) (some (.brk (a37.1,a37.2)))) fuel (a35.2.2.1,a35.2.2.2)) (fun(a38:Int×Int)=>jn (fun(a39:Int×(List α))=>jn (fun(a41:List α)=>jn (fun(a43:Bool)=>bf a43 ((symG cmp fuel a35.1 a39.1 p3 a41).bind fun r45=>some r45) (some a41)) fun j44=>bf (decide (a35.1<a39.1)) (j44 (decide (a39.1<p3))) (j44 false)) fun j42=>jn (fun(a46:Bool)=>bf a46 ((symG cmp fuel p1 a38.1 a35.1 a39.2).bind fun r48=>need (r48.length=a39.2.length)<|j42 r48) (j42 a39.2)) fun j47=>bf (decide (p1<a38.1)) (j47 (decide (a38.1<a35.1))) (j47 false)) fun j40=>jn (fun(a50:Int×Bool)=>bf a50.2 ((rotG fuel a38.1 p2 a50.1 l0).bind fun r52=>need (r52.length=l0.length)<|j40 (a50.1,r52)) (j40 (a50.1,l0))) fun j51=>bf (decide (a38.1<p2)) (j51 ((zzi.wrap (a35.2.1-a38.1)),(decide (p2<(zzi.wrap (a35.2.1-a38.1)))))) (j51 ((zzi.wrap (a35.2.1-a38.1)),false))) (fun(x:Empty)=>x.elim)) fun j36=>bf (decide ((zzi.wrap (shrOp .u64 (zzu.wrap (zzi.wrap (p1+p3))) 1))<p2)) (j36 ((zzi.wrap (shrOp .u64 (zzu.wrap (zzi.wrap (p1+p3))) 1)),(zzi.wrap ((zzi.wrap (shrOp .u64 (zzu.wrap (zzi.wrap (p1+p3))) 1))+p2)),(zzi.wrap ((zzi.wrap ((zzi.wrap (shrOp .u64 (zzu.wrap (zzi.wrap (p1+p3))) 1))+p2))-p3)),(zzi.wrap (shrOp .u64 (zzu.wrap (zzi.wrap (p1+p3))) 1)))) (j36 ((zzi.wrap (shrOp .u64 (zzu.wrap (zzi.wrap (p1+p3))) 1)),(zzi.wrap ((zzi.wrap (shrOp .u64 (zzu.wrap (zzi.wrap (p1+p3))) 1))+p2)),p1,p2))))
def stabG (cmp:α→α→Option Int)(fuel:Nat)(p1:Int)(l0:List α):Option (List α):=
 outK (loopN (S:=Int×Int×(List α)) (R:=Empty) (fun(a1:Int×Int×(List α))=>bf (decide (a1.2.1≤p1)) ((insG cmp fuel a1.1 a1.2.1 a1.2.2).bind fun r15=>need (r15.length=a1.2.2.length)<|some (.next (a1.2.1,(zzi.wrap (a1.2.1+20)),r15))) (some (.brk (a1.1,a1.2.1,a1.2.2)))) fuel (0,20,l0)) (fun(a2:Int×Int×(List α))=>(insG cmp fuel a2.1 p1 a2.2.2).bind fun r3=>need (r3.length=a2.2.2.length)<|outK (loopN (S:=Int×(List α)) (R:=Empty) (fun(a5:Int×(List α))=>bf (decide (a5.1<p1)) (outK (loopN (S:=Int×Int×(List α)) (R:=Empty) (fun(a7:Int×Int×(List α))=>bf (decide (a7.2.1≤p1)) ((symG cmp fuel a7.1 (zzi.wrap (a7.1+a5.1)) a7.2.1 a7.2.2).bind fun r13=>need (r13.length=a7.2.2.length)<|some (.next (a7.2.1,(zzi.wrap (a7.2.1+(zzi.wrap ((2:Int)*a5.1)))),r13))) (some (.brk (a7.1,a7.2.1,a7.2.2)))) fuel (0,(zzi.wrap ((2:Int)*a5.1)),a5.2)) (fun(a8:Int×Int×(List α))=>jn (fun(a9:List α)=>some (.next ((zzi.wrap (a5.1*2)),a9))) fun j10=>bf (decide ((zzi.wrap (a8.1+a5.1))<p1)) ((symG cmp fuel a8.1 (zzi.wrap (a8.1+a5.1)) p1 a8.2.2).bind fun r11=>need (r11.length=a8.2.2.length)<|j10 r11) (j10 a8.2.2)) (fun(x:Empty)=>x.elim)) (some (.brk (a5.1,a5.2)))) fuel (20,r3)) (fun(a6:Int×(List α))=>some a6.2) (fun(x:Empty)=>x.elim)) (fun(x:Empty)=>x.elim)
end
end Go.Av
namespace Go.Av
open Go
section
variable {α:Type} [Inhabited α]
theorem z20 (d:Array α)(j:Nat):d.toList.getD j zzd=d[j]! :=by
 rw[List.getD_eq_getElem?_getD,Array.getElem?_toList,getElem!_def];cases d[j]?<;>rfl
theorem z3n (d:Array α)(i j:Nat):(d.toList.set i d[j]!).set j d[i]! =(Sort.swp d i j).toList:=by
 unfold Sort.swp;rw[Array.toList_setIfInBounds,Array.toList_setIfInBounds]
theorem z1f (d:Array α)(i j:Nat):(Sort.swp d i j).size=d.size:=by unfold Sort.swp;simp
theorem wsub1 {j:Nat}(h1:1≤j)(h:j<4611686018427387904):zzi.wrap ((j:Int)-1)=((j-1:Nat):Int):=by
 rw[z2b (by omega) (by omega)];omega
theorem wadd1 {j:Nat}(h:j<4611686018427387904):zzi.wrap ((j:Int)+1)=((j+1:Nat):Int):=by
 rw[z2b (by omega) (by omega)];omega
theorem wsub {i j:Nat}(h1:j≤i)(h:i<4611686018427387904):zzi.wrap ((i:Int)-(j:Int))=((i-j:Nat):Int):=by
 rw[z2b (by omega) (by omega)];omega
theorem wadd {i j:Nat}(h:i+j<4611686018427387904):zzi.wrap ((i:Int)+(j:Int))=((i+j:Nat):Int):=by
 rw[z2b (by omega) (by omega)];omega
theorem wtwo {i:Nat}(h:2*i<4611686018427387904):zzi.wrap ((2:Int)*(i:Int))=((2*i:Nat):Int):=by
 rw[z2b (by omega) (by omega)];omega
theorem intle {i j:Nat}:((i:Int)≤(j:Int))=(i≤j):=propext (by omega)
theorem intlt {i j:Nat}:((i:Int)<(j:Int))=(i<j):=propext (by omega)
theorem z1i {S R:Type}{B:S→Option (Ctl S R)}{fuel:Nat}{s s':S}(h:B s=some (.next s')):loopN B (fuel+1) s=loopN B fuel s':=by rw[loopN,h]
theorem z11 {S R:Type}{B:S→Option (Ctl S R)}{fuel:Nat}{s s':S}(h:B s=some (.brk s')):loopN B (fuel+1) s=some (.done s'):=by rw[loopN,h]
theorem z8f {S R:Type}{B:S→Option (Ctl S R)}{fuel:Nat}{s:S}{r:R}(h:B s=some (.ret r)):loopN B (fuel+1) s=some (.ret r):=by rw[loopN,h]
theorem z87 {X Y R Q:Type}{o:Option (Out (X×Y) R)}{kn:X×Y→Option Q}{kr:R→Option Q}{r:Y}{q:Option Q}(h: ∃x:X,o=some (.done (x,r)))(hk: ∀x,kn (x,r)=q):outK o kn kr=q:=by
 obtain⟨x,h⟩:=h;rw[h];exact hk x
end
end Go.Av
namespace Go.Av
open Go
section
variable {α:Type} [Inhabited α]
theorem zml (d:Array α){i j:Nat}(hi:i<d.size)(hj:j<d.size)(k:Nat):(Sort.swp d i j)[k]! =if k=j then d[i]! else if k=i then d[j]! else d[k]! :=Sort.swp_get d hi hj k
def swpN (p q:Nat):Nat→Array α→Array α
 |0,d=>d
 |k+1,d=>Sort.swp (swpN p q k d) (p+k) (q+k)
theorem z7k (p q:Nat): ∀(n:Nat) (d:Array α),(swpN p q n d).size=d.size
 |0,d=>rfl
 |k+1,d=>by unfold swpN;rw[z1f,z7k p q k]
def srF (p q n:Nat)(d:Array α)(x:Nat):α:=if p≤x∧x<p+n then d[x-p+q]! else if q≤x∧x<q+n then d[x-q+p]! else d[x]!
theorem zfe {p q:Nat}{d:Array α}: ∀{n:Nat},(p+n≤q∨q+n≤p)→p+n≤d.size→q+n≤d.size→ ∀x,(swpN p q n d)[x]! =srF p q n d x
 |0,_,_,_,x=>by
  unfold swpN srF;rw[if_neg (by omega),if_neg (by omega)]
 |k+1,h,hp,hq,x=>by
  have ih:=zfe (p:=p) (q:=q) (d:=d) (n:=k) (by omega) (by omega) (by omega);unfold swpN;rw[zml _ (by rw[z7k];omega) (by rw[z7k];omega),ih,ih,ih];unfold srF;by_cases h1:x=q+k
  ·subst h1;rw[if_pos rfl,if_neg (by omega),if_neg (by omega),if_neg (by omega),if_pos (by omega)];congr 1;omega
  ·rw[if_neg h1];by_cases h2:x=p+k
   ·subst h2;rw[if_pos rfl,if_neg (by omega),if_neg (by omega),if_pos (by omega)];congr 1;omega
   ·rw[if_neg h2];by_cases h3:p≤x∧x<p+k
    ·rw[if_pos h3,if_pos (by omega)]
    ·rw[if_neg h3,if_neg (show ¬(p≤x∧x<p+(k+1))by omega)];by_cases h4:q≤x∧x<q+k
     ·rw[if_pos h4,if_pos (by omega)]
     ·rw[if_neg h4,if_neg (by omega)]
theorem zdp {p q a b:Nat}{d:Array α}(hb:b≤d.size): ∀{n:Nat},a≤p→a≤q→p+n≤b→q+n≤b→Sort.PermIn a b d (swpN p q n d)
 |0,_,_,_,_=>Sort.permIn_refl d a b
 |k+1,h1,h2,h3,h4=>by
  unfold swpN;exact Sort.permIn_trans _ _ _ a b (zdp hb h1 h2 (by omega) (by omega)) (Sort.swp_permIn _ a b _ _ (by omega) (by omega) (by omega) (by omega) (by rw[z7k];exact hb))
theorem zq2 {R:Type}{B:Int×List α→Option (Ctl (Int×List α) R)}{p q n fuel:Nat}{d:Array α}(hf:n<fuel)
 (hB: ∀(i:Nat) (d':Array α),d'.size=d.size→i≤n→B ((i:Int),d'.toList)=if i<n then some (.next (((i+1:Nat):Int),(Sort.swp d' (p+i) (q+i)).toList))else some (.brk ((i:Int),d'.toList))):
 ∃x:Int,loopN B fuel ((0:Int),d.toList)=some (.done (x,(swpN p q n d).toList)):=by
 have key: ∀k i fuel,i+k=n→k<fuel→ ∃x:Int,loopN B fuel ((i:Int),(swpN p q i d).toList)=some (.done (x,(swpN p q n d).toList)):=by
  intro k;induction k with
  |zero=>
   intro i fuel hi hf;cases fuel with
   |zero=>omega
   |succ fuel=>
    have h:=hB i (swpN p q i d) (z7k ..) (by omega);rw[if_neg (by omega)]at h;rw[z11 h,show i=n by omega];exact⟨_,rfl⟩
  |succ k ih=>
   intro i fuel hi hf;cases fuel with
   |zero=>omega
   |succ fuel=>
    have h:=hB i (swpN p q i d) (z7k ..) (by omega);rw[if_pos (by omega)]at h;rw[z1i h];exact ih (i+1) fuel (by omega) (by omega)
 exact key n 0 fuel (by omega) hf
def rotF (a m b:Nat)(d:Array α)(x:Nat):α:=if a≤x∧x<a+(b-m)then d[x-a+m]! else if a+(b-m)≤x∧x<b then d[x-(a+(b-m))+a]! else d[x]!
structure RotTo (a m b:Nat) (d d':Array α):Prop where
 perm:Sort.PermIn a b d d'
 get: ∀x,d'[x]! =rotF a m b d x
theorem zr2 {m i j:Nat}{d:Array α}(him:i≤m)(hij:j<i)(x:Nat)(d':Array α)(hd': ∀x,d'[x]! =srF (m-i) m j d x):rotF (m-i+j) m (m+j) d' x=rotF (m-i) m (m+j) d x:=by
 unfold rotF;rw[hd',hd',hd'];unfold srF
 repeat' split
 all_goals first|omega|(congr 1;done)|(congr 1;omega)
theorem zpq {m i j:Nat}{d:Array α}(him:i≤m)(hij:i<j)(x:Nat)(d':Array α)(hd': ∀x,d'[x]! =srF (m-i) (m+j-i) i d x):rotF (m-i) m (m+j-i) d' x=rotF (m-i) m (m+j) d x:=by
 unfold rotF;rw[hd',hd',hd'];unfold srF
 repeat' split
 all_goals first|omega|(congr 1;done)|(congr 1;omega)
theorem zr1 {m i:Nat}{d:Array α}(him:i≤m)(x:Nat):srF (m-i) m i d x=rotF (m-i) m (m+i) d x:=by
 unfold rotF srF
 repeat' split
 all_goals first|omega|(congr 1;done)|(congr 1;omega)
theorem zr3 {R:Type}{B:Int×Int×List α→Option (Ctl (Int×Int×List α) R)}{m a b:Nat}{d0:Array α}(hb:b≤d0.size): ∀(n i j fuel:Nat) (d:Array α),i+j≤n→n<fuel→1≤i→1≤j→a≤m-i→i≤m→m+j≤b→d.size=d0.size→
 (∀(i j:Nat) (d':Array α),d'.size=d0.size→1≤i→1≤j→i≤m→m+j≤b→B ((i:Int),(j:Int),d'.toList)=if i=j then some (.brk ((i:Int),(j:Int),d'.toList))else if j<i then some (.next (((i-j:Nat):Int),(j:Int),(swpN (m-i) m j d').toList))else some (.next ((i:Int),((j-i:Nat):Int),(swpN (m-i) (m+j-i) i d').toList)))→
 ∃(k:Nat) (d':Array α),loopN B fuel ((i:Int),(j:Int),d.toList)=some (.done ((k:Int),(k:Int),d'.toList))∧1≤k∧k≤i∧k≤j∧d'.size=d.size∧Sort.PermIn a b d d'∧ ∀x,rotF (m-k) m (m+k) d' x=rotF (m-i) m (m+j) d x:=by
 intro n;induction n with
 |zero=>intro i j fuel d hn hf h1 h2;omega
 |succ n ih=>
  intro i j fuel d hn hf h1 h2 h3 h4 h5 h6 hB;cases fuel with
  |zero=>omega
  |succ fuel=>
   have h:=hB i j d h6 h1 h2 h4 h5;by_cases e:i=j
   ·rw[if_pos e]at h;subst e;exact⟨i,d,z11 h,h1,zzc _,zzc _,rfl,Sort.permIn_refl d a b,fun x=>rfl⟩
   ·rw[if_neg e]at h;by_cases hl:j<i
    ·rw[if_pos hl]at h;obtain⟨k,d',g1,g2,g3,g4,g5,g6,g7⟩:=ih (i-j) j fuel (swpN (m-i) m j d) (by omega) (by omega) (by omega) h2 (by omega) (by omega) h5 (by rw[z7k];exact h6) hB;refine⟨k,d',by rw[z1i h,g1],g2,by omega,g4,by rw[g5,z7k],Sort.permIn_trans _ _ _ a b (zdp (by omega) (by omega) (by omega) (by omega) (by omega)) g6,fun x=>?_⟩;rw[g7];have:=zr2 (m:=m) (i:=i) (j:=j) (d:=d) h4 hl x (swpN (m-i) m j d) (zfe (by omega) (by omega) (by omega))
     rw[show m-(i-j)=m-i+j by omega];exact this
    ·rw[if_neg hl]at h;obtain⟨k,d',g1,g2,g3,g4,g5,g6,g7⟩:=ih i (j-i) fuel (swpN (m-i) (m+j-i) i d) (by omega) (by omega) h1 (by omega) h3 h4 (by omega) (by rw[z7k];exact h6) hB;refine⟨k,d',by rw[z1i h,g1],g2,g3,by omega,by rw[g5,z7k],Sort.permIn_trans _ _ _ a b (zdp (by omega) (by omega) (by omega) (by omega) (by omega)) g6,fun x=>?_⟩;rw[g7];have:=zpq (m:=m) (i:=i) (j:=j) (d:=d) h4 (by omega) x (swpN (m-i) (m+j-i) i d) (zfe (by omega) (by omega) (by omega))
     rw[show m+(j-i)=m+j-i by omega];exact this
end
end Go.Av
namespace Go.Av
open Go
section
variable {α:Type} [Inhabited α]
theorem zrg {R:Type}{B:Int×Int→Option (Ctl (Int×Int) R)}{P:Nat→Bool}{i0 j0:Nat}: ∀(n i j fuel:Nat),j-i≤n→n<fuel→i0≤i→i≤j→j≤j0→(i=i0∨P (i-1)=true)→(j=j0∨P j=false)→
 (∀i j:Nat,i0≤i→i≤j→j≤j0→B ((i:Int),(j:Int))=if i<j then(if P ((i+j) / 2)=true then some (.next ((((i+j) / 2+1:Nat):Int),(j:Int)))else some (.next ((i:Int),(((i+j) / 2:Nat):Int))))else some (.brk ((i:Int),(j:Int))))→
 ∃r:Nat,loopN B fuel ((i:Int),(j:Int))=some (.done ((r:Int),(r:Int)))∧i0≤r∧r≤j0∧(r=i0∨P (r-1)=true)∧(r=j0∨P r=false):=by
 intro n;induction n with
 |zero=>
  intro i j fuel hn hf h1 h2 h3 h4 h5 hB;cases fuel with
  |zero=>omega
  |succ fuel=>
   have h:=hB i j h1 h2 h3;rw[if_neg (by omega)]at h;have:i=j:=by omega
   subst this;exact⟨i,z11 h,h1,h3,h4,h5⟩
 |succ n ih=>
  intro i j fuel hn hf h1 h2 h3 h4 h5 hB;cases fuel with
  |zero=>omega
  |succ fuel=>
   have h:=hB i j h1 h2 h3;by_cases hl:i<j
   ·rw[if_pos hl]at h;by_cases hp:P ((i+j) / 2)=true
    ·rw[if_pos hp]at h;rw[z1i h];exact ih _ j fuel (by omega) (by omega) (by omega) (by omega) h3 (.inr (by rw[Nat.add_sub_cancel];exact hp)) h5 hB
    ·rw[if_neg hp]at h;rw[z1i h];exact ih i _ fuel (by omega) (by omega) h1 (by omega) (by omega) h4 (.inr (by simpa using hp)) hB
   ·rw[if_neg hl]at h;have:i=j:=by omega
    subst this;exact⟨i,z11 h,h1,h3,h4,h5⟩
variable {lt:α→α→Bool}
theorem glue2 {a mid b:Nat}{d:Array α}(h1:Sort.SortedIn lt a mid d)(h2:Sort.SortedIn lt mid b d)(hx: ∀x y,a≤x→x<mid→mid≤y→y<b→lt d[y]! d[x]! =false):Sort.SortedIn lt a b d:=by
 intro i j hi hij hj;by_cases h3:j<mid
 ·exact h1 i j hi hij h3
 ·by_cases h4:mid≤i
  ·exact h2 i j h4 hij hj
  ·exact hx i j hi (by omega) (by omega) hj
theorem zgr (hS:Sort.SWO lt){a m b s e:Nat}{d d':Array α}(h1:Sort.SortedIn lt a m d)(h2:Sort.SortedIn lt m b d)(hs:a≤s∧s≤m)(he:m≤e∧e≤b)(hr: ∀x,d'[x]! =rotF s m e d x)
 (hA:s=a∨e=b∨lt d[e]! d[s-1]! =false) (hB:s=m∨e=m∨lt d[e-1]! d[s]! =true):
 (∀x y,a≤x→x<s+(e-m)→s+(e-m)≤y→y<b→lt d'[y]! d'[x]! =false)∧Sort.SortedIn lt a s d'∧Sort.SortedIn lt s (s+(e-m)) d'∧Sort.SortedIn lt (s+(e-m)) e d'∧Sort.SortedIn lt e b d':=by
 --where each one comes from
 have f1: ∀x,x<s→d'[x]! =d[x]! :=fun x hx=>by rw[hr];unfold rotF;rw[if_neg (by omega),if_neg (by omega)]
 have f2: ∀x,s≤x→x<s+(e-m)→d'[x]! =d[x-s+m]! :=fun x hx hy=>by rw[hr];unfold rotF;rw[if_pos (by omega)]
 have f3: ∀x,s+(e-m)≤x→x<e→d'[x]! =d[x-(s+(e-m))+s]! :=fun x hx hy=>by rw[hr];unfold rotF;rw[if_neg (by omega),if_pos (by omega)]
 have f4: ∀x,e≤x→d'[x]! =d[x]! :=fun x hx=>by rw[hr];unfold rotF;rw[if_neg (by omega),if_neg (by omega)]
 have le1: ∀x y,a≤x→x≤y→y<m→lt d[y]! d[x]! =false:=fun x y g1 g2 g3=>by
  by_cases g:x=y
  ·subst g;exact hS.irrefl _
  ·exact h1 x y g1 (by omega) g3
 have le2: ∀x y,m≤x→x≤y→y<b→lt d[y]! d[x]! =false:=fun x y g1 g2 g3=>by
  by_cases g:x=y
  ·subst g;exact hS.irrefl _
  ·exact h2 x y g1 (by omega) g3
 refine⟨?_,?_,?_,?_,?_⟩
 ·intro x y hx1 hx2 hy1 hy2;by_cases c1:x<s
  ·rw[f1 x c1];by_cases c2:y<e
   ·rw[f3 y hy1 c2];exact le1 _ _ hx1 (by omega) (by omega)
   ·rw[f4 y (by omega)];rcases hA with h|h|h
    ·omega
    ·omega
    ·exact hS.ntrans _ _ _ (hS.ntrans _ _ _ (le2 e y (by omega) (by omega) hy2) h) (le1 x (s-1) hx1 (by omega) (by omega))
  ·rw[f2 x (by omega) hx2];by_cases c2:y<e
   ·rw[f3 y hy1 c2];rcases hB with h|h|h
    ·omega
    ·omega
    ·exact hS.ntrans _ _ _ (hS.ntrans _ _ _ (le1 s _ hs.1 (by omega) (by omega)) (hS.asymm h)) (le2 (x-s+m) (e-1) (by omega) (by omega) (by omega))
   ·rw[f4 y (by omega)];exact le2 _ _ (by omega) (by omega) hy2
 ·intro i j hi hij hj;rw[f1 i (by omega),f1 j hj];exact h1 i j hi hij (by omega)
 ·intro i j hi hij hj;rw[f2 i hi (by omega),f2 j (by omega) hj];exact h2 _ _ (by omega) (by omega) (by omega)
 ·intro i j hi hij hj;rw[f3 i hi (by omega),f3 j (by omega) hj];exact h1 _ _ (by omega) (by omega) (by omega)
 ·intro i j hi hij hj;rw[f4 i hi,f4 j (by omega)];exact h2 i j (by omega) hij hj
structure MergeTo (lt:α→α→Bool) (a b:Nat) (d d':Array α):Prop where
 perm:Sort.PermIn a b d d'
 sorted:Sort.SortedIn lt a b d'
theorem zly (hS:Sort.SWO lt){a mid b:Nat}{d d1 d2 d3:Array α}(hab:a≤mid∧mid≤b)(hb:b≤d.size)(hp:Sort.PermIn a b d d1)
 (hx: ∀x y,a≤x→x<mid→mid≤y→y<b→lt d1[y]! d1[x]! =false) (h2:MergeTo lt a mid d1 d2) (h3:MergeTo lt mid b d2 d3):MergeTo lt a b d d3:=by
 have s1:d1.size=d.size:=hp.1;have s2:d2.size=d1.size:=h2.perm.1
 have p2:Sort.PermIn a b d1 d2:=Sort.permIn_mono _ _ a mid a b (zzc _) hab.2 (by omega) h2.perm;have p3:Sort.PermIn a b d2 d3:=Sort.permIn_mono _ _ mid b a b hab.1 (zzc _) (by omega) h3.perm
 refine⟨Sort.permIn_trans _ _ _ a b hp (Sort.permIn_trans _ _ _ a b p2 p3),glue2 (mid:=mid) ?_ h3.sorted ?_⟩
 ·intro i j hi hij hj;rw[h3.perm.2.1 i (.inl (by omega)),h3.perm.2.1 j (.inl hj)];exact h2.sorted i j hi hij hj
 ·have c1: ∀x y,a≤x→x<mid→mid≤y→y<b→lt d2[y]! d2[x]! =false:=fun x y g1 g2 g3 g4=>by
   rw[h2.perm.2.1 y (.inr g3)];exact Sort.permIn_all d1 d2 a mid (fun z=>lt d1[y]! z=false) (by omega) h2.perm (fun i k1 k2=>hx i y k1 k2 g3 g4) x g1 g2
  intro x y g1 g2 g3 g4;rw[h3.perm.2.1 x (.inl g2)];exact Sort.permIn_all d2 d3 mid b (fun z=>lt z d2[x]! =false) (by omega) h3.perm (fun i k1 k2=>c1 x i g1 g2 k1 k2) y g3 g4
theorem zc7 {a b:Nat}{d:Array α}(h:Sort.SortedIn lt a b d):MergeTo lt a b d d:=⟨Sort.permIn_refl d a b,h⟩
theorem z98 {a b:Nat}{d:Array α}(h:b≤a+1):Sort.SortedIn lt a b d:=fun i j h1 h2 h3=>by omega
end
end Go.Av
namespace Go.Av
open Go
section
variable {α:Type} [Inhabited α] {cmp:α→α→Option Int} {c:α→α→Int}
def ltC (c:α→α→Int)(x y:α):Bool:=decide (c x y<0)
theorem zp8 {a fuel:Nat}{B:Int×List α→Option (Ctl (Int×List α) Empty)}{j:Nat}{d:Array α}(hj:j<d.size)(hf:j<fuel)
 (hB: ∀(j:Nat) (d':Array α),j<d'.size→d'.size=d.size→B ((j:Int),d'.toList)=if a<j∧ltC c d'[j]! d'[j-1]! =true then some (.next (((j-1:Nat):Int),(Sort.swp d' j (j-1)).toList))else some (.brk ((j:Int),d'.toList))):
 ∃x:Int,loopN B fuel ((j:Int),d.toList)=some (.done (x,(Sort.insInner (ltC c) a j d).toList)):=by
 induction j generalizing d fuel with
 |zero=>
  cases fuel with
  |zero=>omega
  |succ fuel=>
   refine⟨0,z11 (s':=(((0:Nat):Int),d.toList)) ?_⟩;rw[hB 0 d hj rfl,if_neg (by omega)]
 |succ j ih=>
  cases fuel with
  |zero=>omega
  |succ fuel=>
   have h:=hB (j+1) d hj rfl;rw[Nat.add_sub_cancel]at h;unfold Sort.insInner;by_cases hc:a<j+1∧ltC c d[j+1]! d[j]! =true
   ·rw[if_pos hc]at h;rw[z1i h,if_pos (by simp[hc.1,hc.2])];exact ih (by rw[z1f];omega) (by omega) (fun k d' h1 h2=>hB k d' h1 (by rw[h2,z1f]))
   ·rw[if_neg hc]at h;rw[z11 h,if_neg (by simpa using hc)];exact⟨_,rfl⟩
theorem zp9 {a b fuel:Nat}{B:Int×List α→Option (Ctl (Int×List α) Empty)}{n i:Nat}{d:Array α}(hn:b-i=n)(hb:b≤d.size)(hf:b-i<fuel)
 (hB: ∀(i:Nat) (d':Array α),d'.size=d.size→B ((i:Int),d'.toList)=if i<b then some (.next (((i+1:Nat):Int),(Sort.insInner (ltC c) a i d').toList))else some (.brk ((i:Int),d'.toList)))
 (hs: ∀(i:Nat) (d':Array α),(Sort.insInner (ltC c) a i d').size=d'.size):
 ∃x:Int,loopN B fuel ((i:Int),d.toList)=some (.done (x,(Sort.insOuter (ltC c) a b i d).toList)):=by
 induction n generalizing i d fuel with
 |zero=>
  cases fuel with
  |zero=>omega
  |succ fuel=>
   have h:=hB i d rfl;rw[if_neg (by omega)]at h;rw[z11 h,Sort.insOuter,if_neg (by omega)];exact⟨_,rfl⟩
 |succ n ih=>
  cases fuel with
  |zero=>omega
  |succ fuel=>
   have h:=hB i d rfl;rw[if_pos (by omega)]at h;rw[z1i h,Sort.insOuter,if_pos (by omega)];exact ih (by omega) (by rw[hs];omega) (by omega) (fun k d' h1=>hB k d' (by rw[h1,hs]))
theorem zgk (a:Nat): ∀(j:Nat) (d:Array α),(Sort.insInner (ltC c) a j d).size=d.size
 |0,d=>rfl
 |j+1,d=>by
  unfold Sort.insInner;split
  ·rw[zgk a j,z1f]
  ·rfl
theorem znm (hc: ∀x y,cmp x y=some (c x y)){fuel a b:Nat}{d:Array α}(hb:b≤d.size)(hd:d.size<4611686018427387904)(ha:a<4611686018427387903)(hf:d.size<fuel):
 insG cmp fuel (a:Int) (b:Int) d.toList=some (Sort.insertionSort (ltC c) d a b).toList:=by
 unfold insG Sort.insertionSort;rw[wadd1 (by omega)];refine z87 (zp9 (c:=c) (a:=a) (b:=b) (i:=a+1) (d:=d) rfl hb (by omega) ?_ (zgk a)) (fun x=>rfl);intro i d' hd';simp only[z0b,intlt];by_cases hi:i<b
 ·rw[if_pos hi,if_pos hi];refine z87 (zp8 (c:=c) (a:=a) (j:=i) (d:=d') (by omega) (by omega) ?_) (fun x=>?_)
  ·intro j e hj he;simp only[jn_eq,z0b,intlt];by_cases h1:a<j
   ·simp(disch:=omega) only[h1,if_true,wsub1,z07,zz1,zz4,zz2,zze,hc,zz0,z20,z3n,true_and];unfold ltC;by_cases h2:c e[j]! e[j-1]! <0
    ·simp[h2]
    ·simp[h2]
   ·rw[if_neg h1,if_neg (fun h=>h1 h.1)];rfl
  ·rw[wadd1 (by omega)]
 ·rw[if_neg hi,if_neg hi]
theorem zi9 {fuel p q n:Nat}{d:Array α}(hp:p+n≤d.size)(hq:q+n≤d.size)(hd:d.size<4611686018427387904)(hf:d.size<fuel):
 swapG fuel (p:Int) (q:Int) (n:Int) d.toList=some (swpN p q n d).toList:=by
 unfold swapG;refine z87 (zq2 (p:=p) (q:=q) (n:=n) (d:=d) (by omega) ?_) (fun x=>rfl);intro i d' hd' hi;simp only[z0b,intlt];by_cases h:i<n
 ·rw[if_pos h,if_pos h];simp(disch:=omega) only[wadd,wadd1,z07,zz1,zz4,zz2,zze,z20,z3n]
 ·rw[if_neg h,if_neg h]
theorem zrz {fuel s m e:Nat}{d:Array α}(h1:s<m)(h2:m<e)(he:e≤d.size)(hd:d.size<4611686018427387904)(hf:d.size<fuel):
 ∃d':Array α,rotG fuel (s:Int) (m:Int) (e:Int) d.toList=some d'.toList∧RotTo s m e d d':=by
 obtain⟨k,d1,g1,g2,g3,g4,g5,g6,g7⟩:=zr3 (R:=Empty) (m:=m) (a:=s) (b:=e) (d0:=d) he (m-s+(e-m)) (m-s) (e-m) fuel d (zzc _) (by omega) (by omega) (by omega) (by omega) (by omega) (by omega) rfl
  (B:=fun(a1:Int×Int×(List α))=>bf (!decide (a1.1=a1.2.1)) (bf (decide (a1.2.1<a1.1)) ((swapG fuel (zzi.wrap ((m:Int)-a1.1)) (m:Int) a1.2.1 a1.2.2).bind fun r4=>need (r4.length=a1.2.2.length)<|some (.next ((zzi.wrap (a1.1-a1.2.1)),a1.2.1,r4))) ((swapG fuel (zzi.wrap ((m:Int)-a1.1)) (zzi.wrap ((zzi.wrap ((m:Int)+a1.2.1))-a1.1)) a1.1 a1.2.2).bind fun r6=>need (r6.length=a1.2.2.length)<|some (.next (a1.1,(zzi.wrap (a1.2.1-a1.1)),r6)))) (some (.brk (a1.1,a1.2.1,a1.2.2))))
  (by
   intro i j d' hs hi hj him hjb;simp only[z4q,z0b,intlt];by_cases h:i=j
   ·subst h;rw[if_pos rfl,if_pos rfl]
   ·rw[if_neg (by omega),if_neg h];by_cases h3:j<i
    ·rw[if_pos h3,if_pos h3];rw[wsub (by omega) (by omega),wsub (by omega) (by omega),zi9 (by omega) (by omega) (by omega) (by omega)];simp only[zz0];rw[z07 (by simp[z7k])]
    ·rw[if_neg h3,if_neg h3];rw[wsub (by omega) (by omega),wadd (by omega),wsub (by omega) (by omega),wsub (by omega) (by omega),zi9 (by omega) (by omega) (by omega) (by omega)];simp only[zz0];rw[z07 (by simp[z7k])])
 refine⟨swpN (m-k) m k d1,?_,Sort.permIn_trans _ _ _ s e g6 (zdp (by omega) (by omega) (by omega) (by omega) (by omega)),fun x=>?_⟩
 ·unfold rotG;rw[wsub (by omega) (by omega),wsub (by omega) (by omega)];rw[g1];simp only[z2k];rw[wsub (by omega) (by omega),zi9 (by omega) (by omega) (by omega) (by omega)];rfl
 ·rw[zfe (by omega) (by omega) (by omega),zr1 (by omega),g7];congr 1<;>omega
end
end Go.Av
namespace Go.Av
open Go
section
variable {α:Type} [Inhabited α] {cmp:α→α→Option Int} {c:α→α→Int}
theorem zh5 {x y:Nat}(h:x+y<4611686018427387904):zzi.wrap (shrOp .u64 (zzu.wrap (zzi.wrap ((x:Int)+(y:Int)))) 1)=(((x+y) / 2:Nat):Int):=by
 rw[wadd h,z9z,Int.emod_eq_of_lt (by omega) (by omega),show(1:Int)=((1:Nat):Int)from rfl,zet .u64 (x+y) 1 (by decide),z2b (by omega) (by omega)]
def shR (a:Nat):Nat→Array α→Array α
 |0,d=>d
 |k+1,d=>Sort.swp (shR a k d) (a+k) (a+k+1)
def shL (m:Nat):Nat→Array α→Array α
 |0,d=>d
 |k+1,d=>Sort.swp (shL m k d) (m-k) (m-k-1)
theorem zer (a:Nat): ∀(k:Nat) (d:Array α),(shR a k d).size=d.size
 |0,d=>rfl
 |k+1,d=>by unfold shR;rw[z1f,zer a k]
theorem zeq (m:Nat): ∀(k:Nat) (d:Array α),(shL m k d).size=d.size
 |0,d=>rfl
 |k+1,d=>by unfold shL;rw[z1f,zeq m k]
theorem zns {a:Nat}{d:Array α}: ∀{k:Nat},a+k<d.size→ ∀x,(shR a k d)[x]! =rotF a (a+1) (a+1+k) d x
 |0,h,x=>by
  unfold shR rotF
  repeat' split
  all_goals first|omega|rfl|(congr 1;omega)
 |k+1,h,x=>by
  have ih:=zns (a:=a) (d:=d) (k:=k) (by omega);unfold shR;rw[zml _ (by rw[zer];omega) (by rw[zer];omega),ih,ih,ih];unfold rotF
  repeat' split
  all_goals first|omega|rfl|(congr 1;omega)
theorem znr {m:Nat}{d:Array α}(hm:m<d.size): ∀{k:Nat},k≤m→ ∀x,(shL m k d)[x]! =rotF (m-k) m (m+1) d x
 |0,h,x=>by
  unfold shL rotF
  repeat' split
  all_goals first|omega|rfl|(congr 1;omega)
 |k+1,h,x=>by
  have ih:=znr (m:=m) (d:=d) hm (k:=k) (by omega);unfold shL;rw[zml _ (by rw[zeq];omega) (by rw[zeq];omega),ih,ih,ih];unfold rotF
  repeat' split
  all_goals first|omega|rfl|(congr 1;omega)
theorem zmf {a b:Nat}{d:Array α}(hb:b≤d.size): ∀{k:Nat},a+k<b→Sort.PermIn a b d (shR a k d)
 |0,_=>Sort.permIn_refl d a b
 |k+1,h=>by
  unfold shR;exact Sort.permIn_trans _ _ _ a b (zmf hb (by omega)) (Sort.swp_permIn _ a b _ _ (by omega) (by omega) (by omega) (by omega) (by rw[zer];exact hb))
theorem zme {a m b:Nat}{d:Array α}(hb:b≤d.size)(hm:m<b): ∀{k:Nat},a+k≤m→Sort.PermIn a b d (shL m k d)
 |0,_=>Sort.permIn_refl d a b
 |k+1,h=>by
  unfold shL;exact Sort.permIn_trans _ _ _ a b (zme hb hm (by omega)) (Sort.swp_permIn _ a b _ _ (by omega) (by omega) (by omega) (by omega) (by rw[zeq];exact hb))
theorem zr5 {R:Type}{B:Int×List α→Option (Ctl (Int×List α) R)}{a n fuel:Nat}{d:Array α}(hf:n<fuel)
 (hB: ∀(i:Nat) (d':Array α),d'.size=d.size→i≤n→B (((a+i:Nat):Int),d'.toList)=if i<n then some (.next (((a+i+1:Nat):Int),(Sort.swp d' (a+i) (a+i+1)).toList))else some (.brk (((a+i:Nat):Int),d'.toList))):
 ∃x:Int,loopN B fuel ((a:Int),d.toList)=some (.done (x,(shR a n d).toList)):=by
 have key: ∀k i fuel,i+k=n→k<fuel→ ∃x:Int,loopN B fuel (((a+i:Nat):Int),(shR a i d).toList)=some (.done (x,(shR a n d).toList)):=by
  intro k;induction k with
  |zero=>
   intro i fuel hi hf;cases fuel with
   |zero=>omega
   |succ fuel=>
    have h:=hB i (shR a i d) (zer ..) (by omega);rw[if_neg (by omega)]at h;rw[z11 h,show i=n by omega];exact⟨_,rfl⟩
  |succ k ih=>
   intro i fuel hi hf;cases fuel with
   |zero=>omega
   |succ fuel=>
    have h:=hB i (shR a i d) (zer ..) (by omega);rw[if_pos (by omega)]at h;rw[z1i h];exact ih (i+1) fuel (by omega) (by omega)
 exact key n 0 fuel (by omega) hf
theorem zr4 {R:Type}{B:Int×List α→Option (Ctl (Int×List α) R)}{m n fuel:Nat}{d:Array α}(hn:n≤m)(hf:n<fuel)
 (hB: ∀(i:Nat) (d':Array α),d'.size=d.size→i≤n→B (((m-i:Nat):Int),d'.toList)=if i<n then some (.next (((m-i-1:Nat):Int),(Sort.swp d' (m-i) (m-i-1)).toList))else some (.brk (((m-i:Nat):Int),d'.toList))):
 ∃x:Int,loopN B fuel ((m:Int),d.toList)=some (.done (x,(shL m n d).toList)):=by
 have key: ∀k i fuel,i+k=n→k<fuel→ ∃x:Int,loopN B fuel (((m-i:Nat):Int),(shL m i d).toList)=some (.done (x,(shL m n d).toList)):=by
  intro k;induction k with
  |zero=>
   intro i fuel hi hf;cases fuel with
   |zero=>omega
   |succ fuel=>
    have h:=hB i (shL m i d) (zeq ..) (by omega);rw[if_neg (by omega)]at h;rw[z11 h,show i=n by omega];exact⟨_,rfl⟩
  |succ k ih=>
   intro i fuel hi hf;cases fuel with
   |zero=>omega
   |succ fuel=>
    have h:=hB i (shL m i d) (zeq ..) (by omega);rw[if_pos (by omega)]at h;rw[z1i h];have:=ih (i+1) fuel (by omega) (by omega)
    rwa[show m-(i+1)=m-i-1 by omega]at this
 exact key n 0 fuel (by omega) hf
omit [Inhabited α]in
theorem zq1 (h:IsCmp c):Sort.SWO (ltC c) where
 irrefl x:=by unfold ltC;rw[h.refl];rfl
 trans x y z h1 h2:=by
  unfold ltC at*;simp only[decide_eq_true_eq]at*;exact h.lt_tr h1 (by omega)
 ntrans x y z h1 h2:=by
  unfold ltC at*;simp only[decide_eq_false_iff_not,Int.not_lt]at*;have a1:=h.anti x y;have a2:=h.anti y z;have a3:=h.anti x z
  by_cases g:0≤c x z
  ·exact g
  ·exfalso;have:=h.lt_tr (a:=x) (b:=z) (d:=y) (by omega) (by omega)
   omega
end
end Go.Av
namespace Go.Av
open Go
section
variable {α:Type} [Inhabited α] {cmp:α→α→Option Int} {c:α→α→Int}
theorem zqs {lt:α→α→Bool}(hS:Sort.SWO lt){a b r:Nat}{d:Array α}(hr:a+1≤r∧r≤b)(hb:b≤d.size)(h2:Sort.SortedIn lt (a+1) b d)
 (hA:r=a+1∨lt d[r-1]! d[a]! =true) (hB:r=b∨lt d[r]! d[a]! =false):MergeTo lt a b d (shR a (r-(a+1)) d):=by
 have hg: ∀x,(shR a (r-(a+1)) d)[x]! =rotF a (a+1) r d x:=fun x=>by
  rw[zns (by omega),show a+1+(r-(a+1))=r by omega]
 obtain⟨h3,_,h5,h6,h7⟩:=zgr hS (d':=shR a (r-(a+1)) d) (a:=a) (m:=a+1) (b:=b) (s:=a) (e:=r) (z98 (by omega)) h2 ⟨by omega,by omega⟩ hr hg (.inl rfl) (.inr hA);refine⟨zmf hb (by omega),glue2 (mid:=a+(r-(a+1))) h5 (glue2 (mid:=r) h6 h7 ?_) h3⟩;intro x y g1 g2 g3 g4;rw[hg,hg,show x=r-1 by omega];unfold rotF;rw[if_neg (by omega),if_neg (by omega),if_neg (by omega),if_pos (by omega)];rw[show r-1-(a+(r-(a+1)))+a=a by omega];rcases hB with h|h
 ·omega
 ·by_cases e:y=r
  ·subst e;exact h
  ·exact hS.ntrans _ _ _ (h2 r y (by omega) (by omega) g4) h
theorem      zqr {lt : α → α → Bool} (hS : Sort.SWO lt) {a m r : Nat} {d : Array α} (hr : a ≤ r ∧ r ≤ m) (hb : m + 1 ≤ d.size) (h1 : Sort.SortedIn lt a m d)
    (hA : r = a ∨ lt d[m]! d[r - 1]! = false) (hB : r = m ∨ lt d[m]! d[r]! = true) : MergeTo lt a (m + 1) d (shL m (m - r) d) := by
  have hg : ∀ x, (shL m (m - r) d)[x]! = rotF r m (m + 1) d x := fun x => by
    rw [    znr (by omega) (by omega), show m - (m - r) = r by omega]
  obtain ⟨h3, h4, h5, h6, h7⟩ :=       zgr hS (d' := shL m (m - r) d) (a := a) (m := m) (b := m + 1) (s := r) (e := m + 1) h1 (         z98 (by omega)) hr ⟨by omega, by omega⟩ hg (.inr (.inl rfl))
    (by rcases hB with h | h
        · exact .inl h
        · exact .inr (.inr (by rw [Nat.add_sub_cancel]; exact h)))
  refine ⟨     zme hb (by omega) (by omega), glue2 (mid := r + (m + 1 - m)) (glue2 (mid := r) h4 h5 ?_) h6 h3⟩
  intro x y g1 g2 g3 g4
  rw [hg, hg, show y = r by omega]
  unfold rotF
  rw [if_pos (by omega), if_neg (by omega), if_neg (by omega)]
  rw [show r - r + m = m by omega]
  rcases hA with h | h
  · omega
  · by_cases e : x = r - 1
    · subst e; exact h
    · exact hS.ntrans _ _ _ h (h1 x (r - 1) g1 (by omega) (by omega))
theorem zan {S R Q:Type}{G:Option Q→Prop}{P:S→Prop}{o:Option (Out S R)}{kn:S→Option Q}{kr:R→Option Q}(h: ∃s,o=some (.done s)∧P s)(hk: ∀s,P s→G (kn s)):G (outK o kn kr):=by
 obtain⟨s,h,hp⟩:=h;rw[h];exact hk s hp
theorem bs_ex {R:Type}{B:Int×Int→Option (Ctl (Int×Int) R)}{P:Nat→Bool}{Q:Int×Int→Prop}{i0 j0 fuel:Nat}(hf:j0-i0<fuel)(hij:i0≤j0)
 (hQ: ∀r:Nat,i0≤r→r≤j0→(r=i0∨P (r-1)=true)→(r=j0∨P r=false)→Q ((r:Int),(r:Int)))
 (hB: ∀i j:Nat,i0≤i→i≤j→j≤j0→B ((i:Int),(j:Int))=if i<j then(if P ((i+j) / 2)=true then some (.next ((((i+j) / 2+1:Nat):Int),(j:Int)))else some (.next ((i:Int),(((i+j) / 2:Nat):Int))))else some (.brk ((i:Int),(j:Int)))):
 ∃s,loopN B fuel ((i0:Int),(j0:Int))=some (.done s)∧Q s:=by
 obtain⟨r,g1,g2,g3,g4,g5⟩:=zrg (P:=P) (j0-i0) i0 j0 fuel (zzc _) hf (zzc _) hij (zzc _) (.inl rfl) (.inl rfl) hB;exact⟨_,g1,hQ r g2 g3 g4 g5⟩
theorem jn_P {A Q:Type}{G:Option Q→Prop}{P:A→Prop}{K:A→Option Q}{f:(A→Option Q)→Option Q}(hK: ∀a,P a→G (K a))(hf: ∃a,P a∧f K=K a):G (jn K f):=by
 obtain⟨a,h1,h2⟩:=hf;rw[jn_eq,h2];exact hK a h1
theorem zhb (hc: ∀x y,cmp x y=some (c x y))(hC:IsCmp c): ∀(fuel a m b:Nat) (d:Array α),a<m→m<b→b≤d.size→d.size<1152921504606846976→d.size+(b-a)<fuel→
 Sort.SortedIn (ltC c) a m d→Sort.SortedIn (ltC c) m b d→ ∃d':Array α,symG cmp fuel (a:Int) (m:Int) (b:Int) d.toList=some d'.toList∧MergeTo (ltC c) a b d d'
 |0,a,m,b,d,_,_,_,_,hf,_,_=>by omega
 |fuel+1,a,m,b,d,ham,hmb,hb,hd,hf,h1,h2=>by
  have hS:=zq1 hC;unfold symG;simp only[z0b];rw[wsub (by omega) (by omega),wsub (by omega) (by omega)];by_cases c1:m-a=1
  ·rw[if_pos (by omega)];have hm:m=a+1:=by omega
   subst hm;refine zan (G:=fun q=> ∃d':Array α,q=some d'.toList∧MergeTo (ltC c) a b d d') (P:=fun s=> ∃r:Nat,s=((r:Int),(r:Int))∧a+1≤r∧r≤b∧(r=a+1∨ltC c d[r-1]! d[a]! =true)∧(r=b∨ltC c d[r]! d[a]! =false)) ?_ ?_
   ·refine bs_ex (P:=fun h=>ltC c d[h]! d[a]!) (by omega) (by omega) (fun r g2 g3 g4 g5=>⟨r,rfl,g2,g3,g4,g5⟩) ?_;intro i j hi hij hj;simp only[z0b,intlt];rw[zh5 (by omega)];by_cases h:i<j
    ·rw[if_pos h,if_pos h];simp(disch:=omega) only[z07,wadd1,zz1,zz4,zz2,hc,zz0,z20];unfold ltC;by_cases g:c d[(i+j) / 2]! d[a]! <0<;>simp[g]
    ·rw[if_neg h,if_neg h]
   ·rintro s ⟨r,rfl,g2,g3,g4,g5⟩;simp only;rw[wsub1 (by omega) (by omega)];refine⟨shR a (r-(a+1)) d,z87 (zr5 (a:=a) (n:=r-(a+1)) (by omega) ?_) (fun x=>rfl),zqs hS ⟨g2,g3⟩ hb h2 g4 g5⟩;intro i d' hs hi;simp only[z0b,intlt];by_cases h:i<r-(a+1)
    ·rw[if_pos (by omega),if_pos h];simp(disch:=omega) only[z07,wadd1,zz1,zz4,zz2,zze,z20,z3n]
    ·rw[if_neg (by omega),if_neg h]
  ·rw[if_neg (by omega)];by_cases c2:b-m=1
   ·rw[if_pos (by omega)];have hbm:b=m+1:=by omega
    subst hbm;refine zan (G:=fun q=> ∃d':Array α,q=some d'.toList∧MergeTo (ltC c) a (m+1) d d') (P:=fun s=> ∃r:Nat,s=((r:Int),(r:Int))∧a≤r∧r≤m∧(r=a∨ltC c d[m]! d[r-1]! =false)∧(r=m∨ltC c d[m]! d[r]! =true)) ?_ ?_
    ·refine bs_ex (P:=fun h=> !ltC c d[m]! d[h]!) (by omega) (by omega) (fun r g2 g3 g4 g5=>⟨r,rfl,g2,g3,by simpa using g4,by simpa using g5⟩) ?_;intro i j hi hij hj;simp only[z0b,z4q,intlt];rw[zh5 (by omega)];by_cases h:i<j
     ·rw[if_pos h,if_pos h];simp(disch:=omega) only[z07,wadd1,zz1,zz4,zz2,hc,zz0,z20];unfold ltC;by_cases g:c d[m]! d[(i+j) / 2]! <0<;>simp[g]
     ·rw[if_neg h,if_neg h]
    ·rintro s ⟨r,rfl,g2,g3,g4,g5⟩;simp only;refine⟨shL m (m-r) d,z87 (zr4 (m:=m) (n:=m-r) (by omega) (by omega) ?_) (fun x=>rfl),zqr hS ⟨g2,g3⟩ hb h1 g4 g5⟩;intro i d' hs hi;simp only[z0b,intlt];by_cases h:i<m-r
     ·rw[if_pos (by omega),if_pos h];simp(disch:=omega) only[z07,wsub1,zz1,zz4,zz2,zze,z20,z3n]
     ·rw[if_neg (by omega),if_neg h]
   ·rw[if_neg (by omega)];rw[zh5 (by omega),wadd (by omega)]
    let G:Option (List α)→Prop:=fun q=> ∃d':Array α,q=some d'.toList∧MergeTo (ltC c) a b d d'
    refine jn_P (G:=G) (P:=fun x=> ∃st r0:Nat,x=((((a+b) / 2:Nat):Int),(((a+b) / 2+m:Nat):Int),(st:Int),(r0:Int))∧a≤st∧st≤r0∧r0≤m∧r0≤(a+b) / 2+m-m∧(st=a∨(a+b) / 2+m-st=b)∧(a+b) / 2+m-st≤b∧(r0=m∨r0=(a+b) / 2)) ?_ ?_
    ·rintro _ ⟨st,r0,rfl,k1,k2,k3,k4,k5,k6,k7⟩;refine zan (G:=G) (P:=fun s=> ∃r:Nat,s=((r:Int),(r:Int))∧st≤r∧r≤r0∧(r=st∨ltC c d[(a+b) / 2+m-r]! d[r-1]! =false)∧(r=r0∨ltC c d[(a+b) / 2+m-r-1]! d[r]! =true)) ?_ ?_
     ·refine bs_ex (P:=fun h=> !ltC c d[(a+b) / 2+m-1-h]! d[h]!) (by omega) (by omega) (fun r g2 g3 g4 g5=>⟨r,rfl,g2,g3,?_,?_⟩) ?_
      ·rcases g4 with g4|g4
       ·exact .inl g4
       ·by_cases e:r=st
        ·exact .inl e
        ·right;rw[show(a+b) / 2+m-1-(r-1)=(a+b) / 2+m-r by omega]at g4
         simpa using g4
      ·rcases g5 with g5|g5
       ·exact .inl g5
       ·right;rw[show(a+b) / 2+m-1-r=(a+b) / 2+m-r-1 by omega]at g5
        simpa using g5
      ·intro i j hi hij hj;simp only[z0b,z4q,intlt];rw[zh5 (by omega),wsub1 (by omega) (by omega)];by_cases h:i<j
       ·rw[if_pos h,if_pos h,wsub (by omega) (by omega)];simp(disch:=omega) only[z07,wadd1,zz1,zz4,zz2,hc,zz0,z20];unfold ltC;by_cases g:c d[(a+b) / 2+m-1-(i+j) / 2]! d[(i+j) / 2]! <0<;>simp[g]
       ·rw[if_neg h,if_neg h]
     ·rintro s ⟨r,rfl,g2,g3,g4,g5⟩;simp only;rw[wsub (by omega) (by omega)];have hmid:r+((a+b) / 2+m-r-m)=(a+b) / 2:=by omega
      refine jn_P (G:=G) (P:=fun x=> ∃d1:Array α,x=((((a+b) / 2+m-r:Nat):Int),d1.toList)∧Sort.PermIn a b d d1∧ ∀x,d1[x]! =rotF r m ((a+b) / 2+m-r) d x) ?_ ?_
      ·rintro _ ⟨d1,rfl,p1,p2⟩;obtain⟨q1,q2,q3,q4,q5⟩:=zgr hS h1 h2 ⟨by omega,by omega⟩ ⟨by omega,by omega⟩ p2 (by
        rcases g4 with g|g
        ·rcases k5 with k|k
         ·exact .inl (by omega)
         ·exact .inr (.inl (by omega))
        ·exact .inr (.inr g)) (by
        rcases g5 with g|g
        ·rcases k7 with k|k
         ·exact .inl (by omega)
         ·exact .inr (.inl (by omega))
        ·exact .inr (.inr g))
       rw[hmid]at q1 q3 q4;have s1:d1.size=d.size:=p1.1
       refine jn_P (G:=G) (P:=fun x=> ∃d2:Array α,x=d2.toList∧MergeTo (ltC c) a ((a+b) / 2) d1 d2) ?_ ?_
       ·rintro _ ⟨d2,rfl,m1⟩;have s2:d2.size=d1.size:=m1.perm.1
        have e1:Sort.SortedIn (ltC c) ((a+b) / 2) ((a+b) / 2+m-r) d2:=fun i j h1 h2 h3=>by
         rw[m1.perm.2.1 i (.inr (by omega)),m1.perm.2.1 j (.inr (by omega))];exact q4 i j h1 h2 h3
        have e2:Sort.SortedIn (ltC c) ((a+b) / 2+m-r) b d2:=fun i j h1 h2 h3=>by
         rw[m1.perm.2.1 i (.inr (by omega)),m1.perm.2.1 j (.inr (by omega))];exact q5 i j h1 h2 h3
        have fin: ∀d3:Array α,MergeTo (ltC c) ((a+b) / 2) b d2 d3→MergeTo (ltC c) a b d d3:=fun d3 m3=>zly hS ⟨by omega,by omega⟩ hb p1 q1 m1 m3;simp only[jn_eq,z0b,intlt];by_cases w1:(a+b) / 2<(a+b) / 2+m-r
        ·by_cases w2:(a+b) / 2+m-r<b
         ·rw[if_pos w1,if_pos w2];obtain⟨d3,t1,t2⟩:=zhb hc hC fuel ((a+b) / 2) ((a+b) / 2+m-r) b d2 w1 w2 (by omega) (by omega) (by omega) e1 e2;rw[t1];exact⟨d3,rfl,fin d3 t2⟩
         ·rw[if_pos w1,if_neg w2];rw[show(a+b) / 2+m-r=b by omega]at e1;exact⟨d2,rfl,fin d2 (zc7 e1)⟩
        ·rw[if_neg w1,z0l];rw[show(a+b) / 2+m-r=(a+b) / 2 by omega]at e2;exact⟨d2,rfl,fin d2 (zc7 e2)⟩
       ·simp only[jn_eq,z0b,intlt];by_cases w1:a<r
        ·by_cases w2:r<(a+b) / 2
         ·rw[if_pos w1,if_pos w2];obtain⟨d3,t1,t2⟩:=zhb hc hC fuel a r ((a+b) / 2) d1 w1 w2 (by omega) (by omega) (by omega) q2 q3;refine⟨_,⟨d3,rfl,t2⟩,?_⟩;rw[t1];simp only[zz0];rw[z07 (by have:=t2.perm.1;simp only[zz2];omega)]
         ·rw[if_pos w1,if_neg w2];rw[show r=(a+b) / 2 by omega]at q2;exact⟨_,⟨d1,rfl,zc7 q2⟩,rfl⟩
        ·rw[if_neg w1,z0l];rw[show r=a by omega]at q3;exact⟨_,⟨d1,rfl,zc7 q3⟩,rfl⟩
      ·simp only[jn_eq,z0b,intlt];by_cases w1:r<m
       ·by_cases w2:m<(a+b) / 2+m-r
        ·obtain⟨d1,t1,t2⟩:=zrz (fuel:=fuel) (s:=r) (m:=m) (e:=(a+b) / 2+m-r) (d:=d) w1 w2 (by omega) (by omega) (by omega);refine⟨_,⟨d1,rfl,Sort.permIn_mono _ _ _ _ a b (by omega) (by omega) hb t2.perm,t2.get⟩,?_⟩;rw[if_pos w1,if_pos w2,t1,zz0];rw[z07 (by have:=t2.perm.1;simp only[zz2];omega)];simp only[intlt]
        ·rw[if_pos w1,if_neg w2];refine⟨_,⟨d,rfl,Sort.permIn_refl d a b,fun x=>?_⟩,by simp only[intlt]⟩;unfold rotF
         repeat' split
         all_goals first|omega|rfl|(congr 1;omega)
       ·rw[if_neg w1,z0l];refine⟨_,⟨d,rfl,Sort.permIn_refl d a b,fun x=>?_⟩,by simp only[intlt]⟩;unfold rotF
        repeat' split
        all_goals first|omega|rfl|(congr 1;omega)
    ·simp only[z0b,intlt];by_cases w:(a+b) / 2<m
     ·rw[if_pos w,wsub (by omega) (by omega)];exact⟨_,⟨(a+b) / 2+m-b,(a+b) / 2,rfl,by omega,by omega,by omega,by omega,by omega,by omega,.inr rfl⟩,rfl⟩
     ·rw[if_neg w];exact⟨_,⟨a,m,rfl,by omega,by omega,by omega,by omega,.inl rfl,by omega,.inl rfl⟩,rfl⟩
end
end Go.Av
namespace Go.Av
open Go
section
variable {α:Type} [Inhabited α] {cmp:α→α→Option Int} {c:α→α→Int}
theorem zc6 {S R:Type}{B:S→Option (Ctl S R)}(I:Nat→S→Prop)(Dn:S→Prop){n fuel:Nat}{s:S}(hf:n<fuel)(h0:I 0 s)
 (h: ∀i s,I i s→(∃s',B s=some (.next s')∧I (i+1) s'∧i<n)∨(∃s',B s=some (.brk s')∧Dn s')): ∃s',loopN B fuel s=some (.done s')∧Dn s':=by
 have key: ∀k i s fuel,i+k=n→k<fuel→I i s→ ∃s',loopN B fuel s=some (.done s')∧Dn s':=by
  intro k;induction k with
  |zero=>
   intro i s fuel hi hf hI;cases fuel with
   |zero=>omega
   |succ fuel=>
    rcases h i s hI with⟨s',_,_,g⟩|⟨s',g1,g2⟩
    ·omega
    ·exact⟨s',z11 g1,g2⟩
  |succ k ih=>
   intro i s fuel hi hf hI;cases fuel with
   |zero=>omega
   |succ fuel=>
    rcases h i s hI with⟨s',g1,g2,g⟩|⟨s',g1,g2⟩
    ·rw[z1i g1];exact ih (i+1) s' fuel (by omega) (by omega) g2
    ·exact⟨s',z11 g1,g2⟩
 exact key n 0 s fuel (by omega) hf h0
theorem zar {lt:α→α→Bool}{a b x y:Nat}{d d':Array α}(h:Sort.SortedIn lt x y d)(hp:Sort.PermIn a b d d')(ho:y≤a∨b≤x):Sort.SortedIn lt x y d':=fun i j h1 h2 h3=>by
 rw[hp.2.1 i (by omega),hp.2.1 j (by omega)];exact h i j h1 h2 h3
theorem zb4 {i j k:Nat}(h:i<j):i*k+k≤j*k:=by
 have:=Nat.mul_le_mul_right k (show i+1≤j by omega);rw[Nat.add_mul,Nat.one_mul]at this;exact this
theorem zr7 (hc: ∀x y,cmp x y=some (c x y))(hC:IsCmp c){fuel:Nat}{d:Array α}(hd:d.size<1152921504606846)(hf:4*d.size+100<fuel):
 ∃d':Array α,stabG cmp fuel (d.size:Int) d.toList=some d'.toList∧Sort.PermIn 0 d.size d d'∧Sort.SortedIn (ltC c) 0 d.size d':=by
 have hS:=zq1 hC;generalize hn:d.size=n at*
 let G:Option (List α)→Prop:=fun q=> ∃d':Array α,q=some d'.toList∧Sort.PermIn 0 n d d'∧Sort.SortedIn (ltC c) 0 n d'
 unfold stabG;refine zan (G:=G) (P:=fun s=> ∃(i:Nat) (d1:Array α),s=(((i*20:Nat):Int),((i*20+20:Nat):Int),d1.toList)∧i*20≤n∧n<i*20+20∧Sort.PermIn 0 n d d1∧ ∀j,j<i→Sort.SortedIn (ltC c) (j*20) (j*20+20) d1) ?_ ?_
 ·refine zc6 (I:=fun i s=> ∃d1:Array α,s=(((i*20:Nat):Int),((i*20+20:Nat):Int),d1.toList)∧i*20≤n∧Sort.PermIn 0 n d d1∧ ∀j,j<i→Sort.SortedIn (ltC c) (j*20) (j*20+20) d1) (n:=n) _ (by omega) ⟨d,by rfl,by omega,Sort.permIn_refl d 0 n,fun j hj=>by omega⟩ ?_;rintro i _ ⟨d1,rfl,k1,k2,k3⟩;have s1:d1.size=n:=k2.1.trans hn
  simp only[z0b,intle];by_cases h:i*20+20≤n
  ·left;obtain⟨p1,p2⟩:=Sort.insertionSort_holds hS d1 (i*20) (i*20+20) (by omega) (by omega);refine⟨_,?_,⟨Sort.insertionSort (ltC c) d1 (i*20) (i*20+20),rfl,by omega,Sort.permIn_trans _ _ _ 0 n k2 (Sort.permIn_mono _ _ _ _ 0 n (by omega) (by omega) (by omega) p1),?_⟩,by omega⟩
   ·rw[if_pos h,znm hc (by omega) (by omega) (by omega) (by omega)];simp only[zz0];rw[z07 (by have:=p1.1;simp only[zz2];omega),show(20:Int)=((20:Nat):Int)from rfl,wadd (by omega)];rw[show(i+1)*20=i*20+20 by omega]
   ·intro j hj;by_cases e:j=i
    ·subst e;exact p2
    ·exact zar (k3 j (by omega)) p1 (by have:=zb4 (k:=20) (show j<i by omega);omega)
  ·right;rw[if_neg h];exact⟨_,rfl,i,d1,rfl,k1,by omega,k2,k3⟩
 ·rintro _ ⟨i,d1,rfl,k1,k2,k3,k4⟩;have s1:d1.size=n:=k3.1.trans hn
  simp only;obtain⟨p1,p2⟩:=Sort.insertionSort_holds hS d1 (i*20) n (by omega) (by omega);rw[znm hc (by omega) (by omega) (by omega) (by omega)];simp only[zz0];rw[z07 (by have:=p1.1;simp only[zz2];omega)];generalize hd2:Sort.insertionSort (ltC c) d1 (i*20) n=d2 at p1 p2;have q1:Sort.PermIn 0 n d d2:=Sort.permIn_trans _ _ _ 0 n k3 (Sort.permIn_mono _ _ _ _ 0 n (by omega) (by omega) (by omega) p1)
  have q2: ∀j,Sort.SortedIn (ltC c) (j*20) (min (j*20+20) n) d2:=fun j=>by
   by_cases e:j<i
   ·have:=zb4 (k:=20) e;rw[show min (j*20+20) n=j*20+20 by omega];exact zar (k4 j e) p1 (by omega)
   ·by_cases e2:j=i
    ·subst e2;rw[show min (j*20+20) n=n by omega];exact p2
    ·exact z98 (by omega)
  refine zan (G:=G) (P:=fun s=> ∃(x:Int) (d3:Array α),s=(x,d3.toList)∧Sort.PermIn 0 n d d3∧Sort.SortedIn (ltC c) 0 n d3) ?_ ?_
  ·refine zc6 (I:=fun r s=> ∃(k:Nat) (d3:Array α),s=((k:Int),d3.toList)∧r+20≤k∧k≤2*n+20∧Sort.PermIn 0 n d d3∧ ∀j,Sort.SortedIn (ltC c) (j*k) (min (j*k+k) n) d3) (n:=n) _ (by omega) ⟨20,d2,by rfl,by omega,by omega,q1,q2⟩ ?_;rintro r _ ⟨k,d3,rfl,g1,g2,g3,g4⟩;have s3:d3.size=n:=g3.1.trans hn
   simp only[z0b,intlt];by_cases h:k<n
   ·left;rw[if_pos h]
    let G2:Option (Ctl (Int×List α) Empty)→Prop:=fun q=> ∃s',q=some (.next s')∧(∃(k:Nat) (d3:Array α),s'=((k:Int),d3.toList)∧r+1+20≤k∧k≤2*n+20∧Sort.PermIn 0 n d d3∧ ∀j,Sort.SortedIn (ltC c) (j*k) (min (j*k+k) n) d3)∧r<n
    refine zan (G:=G2) (P:=fun s=> ∃(i:Nat) (d4:Array α),s=(((i*(2*k):Nat):Int),((i*(2*k)+2*k:Nat):Int),d4.toList)∧i*(2*k)≤n∧n<i*(2*k)+2*k∧Sort.PermIn 0 n d d4∧(∀j,j<i→Sort.SortedIn (ltC c) (j*(2*k)) (j*(2*k)+2*k) d4)∧ ∀j,i*(2*k)≤j*k→Sort.SortedIn (ltC c) (j*k) (min (j*k+k) n) d4) ?_ ?_
    ·rw[wtwo (by omega)];refine zc6 (I:=fun i s=> ∃d4:Array α,s=(((i*(2*k):Nat):Int),((i*(2*k)+2*k:Nat):Int),d4.toList)∧i*(2*k)≤n∧i≤i*(2*k)∧Sort.PermIn 0 n d d4∧(∀j,j<i→Sort.SortedIn (ltC c) (j*(2*k)) (j*(2*k)+2*k) d4)∧ ∀j,i*(2*k)≤j*k→Sort.SortedIn (ltC c) (j*k) (min (j*k+k) n) d4) (n:=n) _ (by omega) ⟨d3,by simp,by omega,by omega,g3,fun j hj=>by omega,fun j _=>g4 j⟩ ?_;rintro i _ ⟨d4,rfl,f1,f0,f2,f3,f4⟩;have s4:d4.size=n:=f2.1.trans hn
     have e1:(2*i)*k=i*(2*k):=by rw[Nat.mul_comm 2 i,Nat.mul_assoc]
     have e2:(2*i+1)*k=i*(2*k)+k:=by rw[Nat.add_mul,Nat.one_mul,e1]
     have e3:(i+1)*(2*k)=i*(2*k)+2*k:=by rw[Nat.add_mul,Nat.one_mul]
     have t1:=f4 (2*i) (by omega);have t2:=f4 (2*i+1) (by omega)
     rw[e1]at t1;rw[e2]at t2;generalize hp:i*(2*k)=p at*;simp only[z0b,intle];by_cases h2:p+2*k≤n
     ·left;rw[if_pos h2,wadd (by omega)];rw[show min (p+k) n=p+k by omega]at t1;rw[show min (p+k+k) n=p+2*k by omega]at t2;obtain⟨d5,u1,u2⟩:=zhb hc hC fuel p (p+k) (p+2*k) d4 (by omega) (by omega) (by omega) (by omega) (by omega) t1 t2;refine⟨_,?_,⟨d5,rfl,by omega,by omega,Sort.permIn_trans _ _ _ 0 n f2 (Sort.permIn_mono _ _ _ _ 0 n (by omega) (by omega) (by omega) u2.perm),?_,?_⟩,by omega⟩
      ·rw[u1];simp only[zz0];rw[z07 (by have:=u2.perm.1;simp only[zz2];omega),wadd (by omega),e3]
      ·intro j hj;by_cases e:j=i
       ·subst e;rw[hp];exact u2.sorted
       ·have:=zb4 (k:=2*k) (show j<i by omega);exact zar (f3 j (by omega)) u2.perm (.inl (by omega))
      ·intro j hj;exact zar (f4 j (by omega)) u2.perm (.inr (by omega))
     ·right;rw[if_neg h2];exact⟨_,rfl,i,d4,by rw[hp],by omega,by omega,f2,f3,by rw[hp];exact f4⟩
    ·rintro _ ⟨i,d4,rfl,f1,f1',f2,f3,f4⟩;have s4:d4.size=n:=f2.1.trans hn
     have e1:(2*i)*k=i*(2*k):=by rw[Nat.mul_comm 2 i,Nat.mul_assoc]
     have e2:(2*i+1)*k=i*(2*k)+k:=by rw[Nat.add_mul,Nat.one_mul,e1]
     have t1:=f4 (2*i) (by omega);have t2:=f4 (2*i+1) (by omega)
     rw[e1]at t1;rw[e2]at t2;have e4: ∀j,i<j→n≤j*(2*k):=fun j hj=>by have:=zb4 (k:=2*k) hj;omega
     generalize hp:i*(2*k)=p at*;simp only;refine jn_P (G:=G2) (P:=fun l=> ∃d5:Array α,l=d5.toList∧Sort.PermIn 0 n d d5∧ ∀j,Sort.SortedIn (ltC c) (j*(2*k)) (min (j*(2*k)+2*k) n) d5) ?_ ?_
     ·rintro _ ⟨d5,rfl,u1,u2⟩;refine⟨_,rfl,⟨2*k,d5,?_,by omega,by omega,u1,u2⟩,by omega⟩;rw[show(k:Int)*2=2*(k:Int)by omega,wtwo (by omega)]
     ·simp only[z0b];rw[wadd (by omega)];simp only[intlt];by_cases h2:p+k<n
      ·rw[if_pos h2];rw[show min (p+k) n=p+k by omega]at t1;rw[show min (p+k+k) n=n by omega]at t2;obtain⟨d5,u1,u2⟩:=zhb hc hC fuel p (p+k) n d4 (by omega) (by omega) (by omega) (by omega) (by omega) t1 t2;refine⟨_,⟨d5,rfl,Sort.permIn_trans _ _ _ 0 n f2 (Sort.permIn_mono _ _ _ _ 0 n (by omega) (by omega) (by omega) u2.perm),fun j=>?_⟩,?_⟩
       ·by_cases e:j<i
        ·have:=zb4 (k:=2*k) e;rw[show min (j*(2*k)+2*k) n=j*(2*k)+2*k by omega];exact zar (f3 j e) u2.perm (.inl (by omega))
        ·by_cases e5:j=i
         ·subst e5;rw[hp,show min (p+2*k) n=n by omega];exact u2.sorted
         ·have:=e4 j (by omega);exact z98 (by omega)
       ·rw[u1];simp only[zz0];rw[z07 (by have:=u2.perm.1;simp only[zz2];omega)]
      ·rw[if_neg h2];refine⟨_,⟨d4,rfl,f2,fun j=>?_⟩,rfl⟩;by_cases e:j<i
       ·have:=zb4 (k:=2*k) e;rw[show min (j*(2*k)+2*k) n=j*(2*k)+2*k by omega];exact f3 j e
       ·by_cases e5:j=i
        ·subst e5;rw[hp,show min (p+2*k) n=n by omega];rw[show min (p+k) n=n by omega]at t1;exact t1
        ·have:=e4 j (by omega);exact z98 (by omega)
   ·right;rw[if_neg h];have:=g4 0
    rw[Nat.zero_mul,show min (0+k) n=n by omega]at this;exact⟨_,rfl,_,d3,rfl,g3,this⟩
  ·rintro _ ⟨x,d3,rfl,u1,u2⟩;exact⟨d3,rfl,u1,u2⟩
theorem zol (hc: ∀x y,cmp x y=some (c x y))(hC:IsCmp c){fuel:Nat}{l:List α}(hd:l.length<1152921504606846)(hf:4*l.length+100<fuel):
 ∃r:List α,stabG cmp fuel (l.length:Int) l=some r∧r.Perm l∧ ∀i j,i<j→j<r.length→c (r.getD i zzd) (r.getD j zzd)≤0:=by
 obtain⟨d',h1,h2,h3⟩:=zr7 hc hC (d:=l.toArray) (fuel:=fuel) (by simpa using hd) (by simpa using hf);have hs:d'.size=l.length:=by have:=h2.1;simpa using this
 refine⟨d'.toList,by simpa using h1,?_,fun i j hij hj=>?_⟩
 ·have:=h2.2.2;simp only[List.size_toArray]at this;rw[show d'.extract 0 l.length=d' by rw[←hs];simp,show l.toArray.extract 0 l.length=l.toArray by simp]at this;exact this
 ·rw[zz2]at hj;have:=h3 i j (by omega) hij (by simpa [hs]using hj)
  rw[z20,z20];unfold ltC at this;have a1:=hC.anti d'[i]! d'[j]!
  simp only[decide_eq_false_iff_not]at this;omega
end
end Go.Av
namespace Go.Av
open Go
def cmpV (a b:Value):Int:=if a.isText=b.isText then(if a.isText then cmpS a.s b.s else cmpZ a.n b.n)else(if a.isText then 1 else -1)
theorem zh0:IsCmp cmpV where
 vals a b:=by
  unfold cmpV;split
  ·split
   ·exact ze8.vals _ _
   ·exact zb0.vals _ _
  ·split<;>simp
 anti a b:=by
  unfold cmpV;cases a.isText<;>cases b.isText<;>simp
  ·exact zb0.anti _ _
  ·exact ze8.anti _ _
 tr a b d:=by
  unfold cmpV;cases a.isText<;>cases b.isText<;>cases d.isText<;>simp
  ·exact zb0.tr _ _ _
  ·exact ze8.tr _ _ _
theorem zku (a b:ByteArray):(strLt a b||strEq a b)=decide (cmpS a b≤0):=by
 rw[zgx,zkt,Bool.eq_iff_iff];simp;omega
theorem zk9 (x y:Int):z7o x y=some (cmpZ x y):=by
 unfold z7o z8k cmpZ;simp only[decide_true,zzj,zz0,z0l,z0b];split<;>(try split)<;>rfl
theorem zmr (x y:Int):z6j x y=some (cmpZ x y):=by
 unfold z6j z7p cmpZ;simp only[decide_true,zzj,zz0,z0l,z0b];split<;>(try split)<;>rfl
theorem zlj (x y:ByteArray):z5z x y=some (cmpS x y):=by
 unfold z5z z71;simp only[zon,zzj,zz0,z0l];rw[zku,zgx];simp only[z4q,z0b];rcases ze8.vals x y with h|h|h<;>simp[h]
theorem zjm (a b:Value):z8m a b=some (cmpV a b):=by
 unfold z8m zau cmpV;simp only[zk9,zlj,zmr,z4q];cases a.isText<;>cases b.isText<;>simp[zk9,cmpZ]
theorem zd8 (a b:List Value):z7x a b=some (cmpL cmpV a b):=by
 unfold z7x z0g;rw[zrj (c:=cmpV)]
 ·rfl
 ·intro i hi;simp only[zjm,zz0,z0b,z4q,Int.ofNat_le];split
  ·rfl
  ·rw[z07 (by omega)]
 ·simp only[z0b,Int.ofNat_lt];split<;>rfl
theorem zgq (a b:Value):z5g a b=some (cmpV a b):=by
 unfold z5g cmpV;rw[zku,zgx];cases a.isText<;>cases b.isText<;>simp
 ·unfold cmpZ;split<;>(try split)<;>simp_all
 ·rcases ze8.vals a.s b.s with h|h|h<;>simp[h]
theorem zcb (a b:List Value){fuel:Nat}(hf:a.length<fuel)(hn:a.length≤maxN):z3w fuel a b=some (cmpL cmpV a b):=by
 unfold z3w;unfold maxN at hn;refine zqb (c:=cmpV) hf ?_ ?_
 ·intro i hi hi';simp only[jn_eq,zgq,zz0,z0b,z4q,Int.ofNat_lt,zz1];have e:zzi.wrap ((i:Int)+1)=((i+1:Nat):Int):=by rw[z2b (by omega) (by omega)];omega
  by_cases h1:i<a.length
  ·by_cases h2:i<b.length
   ·rw[if_pos (⟨h1,h2⟩:i<a.length∧i<b.length),if_pos h1,if_pos h2,z07 (by omega),z07 (by omega),e]
   ·rw[if_neg (fun h=>h2 h.2: ¬(i<a.length∧i<b.length)),if_pos h1,if_neg h2]
  ·rw[if_neg (fun h=>h1 h.1: ¬(i<a.length∧i<b.length)),if_neg h1,z0l]
 ·intro i;simp only[z0b,Int.ofNat_lt];split
  ·rfl
  ·split<;>rfl
def z4i (v:Value):Bool:=if v.isText then decide (v.n=0) && decide (v.s.size≤64)else strEq v.s (bs [])
def okRow (p:List Value):Bool:=decide (p.length≤8) && p.all z4i
theorem zr0 (v:Value):z9n v=some (z4i v):=by
 unfold z9n z4i;have e:((v.s.size:Int)≤64)↔v.s.size≤64:=by omega
 cases v.isText<;>by_cases h:v.n=0<;>simp[h,e]
theorem zn4 (v:Value):z62 v=some (z4i v):=by
 unfold z62 z4i;have e:((v.s.size:Int)≤64)↔v.s.size≤64:=by omega
 cases v.isText<;>by_cases h:v.n=0<;>simp[h,e]
theorem zj5 {S R X:Type}[Inhabited X]{B:Nat→S→Option (Ctl S R)}{l:List X}(P:X→Bool)(f:Nat→R){s:S}
 (hB: ∀i,i<l.length→B i s=if P (l.getD i zzd)then some (.ret (f i))else some (.next s)):
 (l.any P=false∧z0c B l.length 0 s=some (.done s))∨(l.any P=true∧ ∃i,i<l.length∧P (l.getD i zzd)=true∧z0c B l.length 0 s=some (.ret (f i))):=by
 have key: ∀k i,i+k=l.length→((l.drop i).any P=false∧z0c B k i s=some (.done s))∨((l.drop i).any P=true∧ ∃j,j<l.length∧P (l.getD j zzd)=true∧z0c B k i s=some (.ret (f j))):=by
  intro k;induction k with
  |zero=>intro i hi;left;rw[zzk (by omega:l.length≤i)];exact⟨rfl,rfl⟩
  |succ k ih=>
   intro i hi;rw[z1e (by omega:i<l.length)];simp only[z0c,hB i (by omega),List.any_cons];by_cases h:P (l.getD i zzd)=true
   ·rw[if_pos h];right;exact⟨by rw[h];rfl,i,by omega,h,rfl⟩
   ·rw[if_neg h];have hf:P (l.getD i zzd)=false:=by simpa using h
    rw[hf,Bool.false_or];exact ih (i+1) (by omega)
 have:=key l.length 0 (by omega);rwa[List.drop_zero]at this
theorem z9o (p:List Value):(p.any fun v=> !z4i v)= !(p.all z4i):=by
 rw[List.any_eq_not_all_not];simp
theorem zft (p:List Value):z8u p=some (if okRow p then 0 else 4):=by
 unfold z8u z15 z18 z9r okRow;simp only[jn_eq,z0b,zr0,zz0];by_cases h:8<(p.length:Int)
 ·rw[if_pos h,decide_eq_false (by omega: ¬p.length≤8)];rfl
 ·rw[if_neg h,decide_eq_true (by omega:p.length≤8)];rcases zj5 (S:=Unit) (R:=Int) (l:=p) (fun v=> !z4i v) (fun i=>(i:Int)) (s:=()) (B:=fun i1 a2=>bf (!z4i (p.getD i1 zzd)) (some (.ret ((i1:Nat):Int))) (some (.next ()))) (fun i hi=>by
   cases z4i (p.getD i zzd)<;>rfl)with⟨h1,h2⟩|⟨h1,i,_,_,h2⟩
  ·rw[h2];rw[z9o]at h1;have:p.all z4i=true:=by simpa using h1
   simp[this]
  ·rw[h2];rw[z9o]at h1;have:p.all z4i=false:=by simpa using h1
   simp[this,Int.natCast_nonneg]
theorem zn2 (p:List Value):z61 p=some (if okRow p then 0 else 4):=by
 unfold z61 okRow;simp only[zn4,zz0];rcases zj5 (S:=Unit) (R:=Int) (l:=p) (fun v=> !z4i v) (fun i=>(4:Int)) (s:=()) (B:=fun i1 a2=>bf (!z4i (p.getD i1 zzd)) (some (.ret 4)) (some (.next ()))) (fun i hi=>by
  cases z4i (p.getD i zzd)<;>rfl)with⟨h1,h2⟩|⟨h1,i,_,_,h2⟩
 ·rw[h2];rw[z9o]at h1;have:p.all z4i=true:=by simpa using h1
  simp only[z2k,z0b,this,Bool.and_true];by_cases h:8<(p.length:Int)
  ·rw[if_pos h,decide_eq_false (by omega: ¬p.length≤8)];rfl
  ·rw[if_neg h,decide_eq_true (by omega:p.length≤8)];rfl
 ·rw[h2];rw[z9o]at h1;have:p.all z4i=false:=by simpa using h1
  simp[this]
theorem zhk {a b:Value}:za3 a b=true↔a=b:=by
 rcases a with⟨t,n,s⟩;rcases b with⟨t',n',s'⟩;simp[za3,zgw]
theorem zs0 (a b:List Value): ∃r,z4s a b=some r∧(r=true↔a=b):=by
 unfold z4s;by_cases hl:a.length=b.length
 ·rw[decide_eq_true (by omega:(a.length:Int)=(b.length:Int))];simp only[zzj,z0l];have key: ∀k i,i+k=a.length→ ∃r,outK (z0c (S:=Unit) (R:=Bool) (fun i1 (a2:Unit)=>need ((0:Int)≤((i1:Nat):Int)∧((i1:Nat):Int)<(b.length:Int))<|bf (!(za3 (a.getD i1 zzd) (b.getD i1 zzd))) (some (.ret false)) (some (.next ()))) k i ()) (fun(a3:Unit)=>some true) (fun x=>some x)=some r∧(r=true↔a.drop i=b.drop i):=by
   intro k;induction k with
   |zero=>
    intro i hi;refine⟨true,rfl,?_⟩;rw[zzk (by omega:a.length≤i),zzk (by omega:b.length≤i)];simp
   |succ k ih=>
    intro i hi;simp only[z0c];rw[z07 (by omega),z1e (by omega:i<a.length),z1e (by omega:i<b.length)];by_cases he:za3 (a.getD i zzd) (b.getD i zzd)=true
    ·rw[he];obtain⟨r,h1,h2⟩:=ih (i+1) (by omega);refine⟨r,h1,?_⟩;rw[h2,zhk.1 he];simp
    ·have he':za3 (a.getD i zzd) (b.getD i zzd)=false:=by simpa using he
     rw[he'];refine⟨false,rfl,?_⟩;simp only[zzl,false_iff,List.cons.injEq,not_and];intro h;exact absurd (zhk.2 h) he
  obtain⟨r,h1,h2⟩:=key a.length 0 (by omega);exact⟨r,h1,by simpa using h2⟩
 ·rw[decide_eq_false (by omega: ¬(a.length:Int)=(b.length:Int))];exact⟨false,rfl,by simp;intro h;exact hl (by rw[h])⟩
theorem zpt (a:List Value):z4s a a=some true:=by
 obtain⟨r,h1,h2⟩:=zs0 a a;rw[h1,h2.2 rfl]
theorem zoy {a b:Value}(ha:z4i a=true)(hb:z4i b=true):cmpV a b=0↔a=b:=by
 rcases a with⟨t,n,s⟩;rcases b with⟨t',n',s'⟩;unfold cmpV z4i at*;cases t<;>cases t'<;>simp[zov,zkb,zgw]at*
 ·intro _;rw[ha,hb]
 ·intro h;omega
theorem zcp: ∀{a b:List Value},a.all z4i=true→b.all z4i=true→(cmpL cmpV a b=0↔a=b)
 |[],[],_,_=>by simp[cmpL]
 |[],_::_,_,_=>by simp[cmpL]
 |_::_,[],_,_=>by simp[cmpL]
 |x::a,y::b,ha,hb=>by
  simp only[List.all_cons,Bool.and_eq_true]at ha hb;have h1:=zoy ha.1 hb.1
  have h2:=zcp ha.2 hb.2;simp only[cmpL,thenC];split
  ·rename_i h;rw[h2,h1.1 h];simp
  ·rename_i h
   constructor
   ·intro g;exact absurd g h
   ·intro g;exact absurd (h1.2 (List.cons.inj g).1) h
theorem za9 {p:List Value}(h:okRow p=true):p.all z4i=true∧p.length≤8:=by
 unfold okRow at h;simp only[Bool.and_eq_true,decide_eq_true_eq]at h;exact⟨h.2,h.1⟩
end Go.Av
namespace Go.Av
open Go
def z2z (t:Time):Prop:=0≤t.epoch∧0≤t.loop.1∧0≤t.loop.2
def lub2 (a x:Time):Time:=⟨if a.epoch<x.epoch then x.epoch else a.epoch,(if a.loop.1<x.loop.1 then x.loop.1 else a.loop.1,if a.loop.2<x.loop.2 then x.loop.2 else a.loop.2)⟩
def zeroT:Time:=⟨0,(0,0)⟩
def lubL (l:List Time):Time:=l.foldl lub2 zeroT
theorem Time.ext' {a b:Time}(h1:a.epoch=b.epoch)(h2:a.loop.1=b.loop.1)(h3:a.loop.2=b.loop.2):a=b:=by
 rcases a with⟨e,l1,l2⟩;rcases b with⟨e',l1',l2'⟩;simp at h1 h2 h3;simp[h1,h2,h3]
theorem max0 {a:Int}(h:0≤a):a=if 0<a then a else 0:=by
 by_cases h1:0<a
 ·rw[if_pos h1]
 ·rw[if_neg h1];omega
theorem zdg {l:List Time}(hl: ∀x∈l,z2z x):z3h l=some (lubL l):=by
 unfold z3h;rw[z3m (lubL l) (fun i a=>a=lubL (l.take i)) (fun s h=>by rw[h,List.take_length])]
 ·rfl
 ·intro i a hi ha;refine⟨_,?_,rfl⟩;rw[z27 hi];have hx:=hl _ (z25 hi)
  generalize l.getD i zzd=x at*;simp only[lubL,List.foldl_append,List.foldl_cons,List.foldl_nil];rw[←lubL,←ha];simp only[jn_eq,z0c,z6e,zz0,z0b];rcases Nat.eq_zero_or_pos i with h0|h0
  ·subst h0;simp[lubL]at ha;subst ha;obtain⟨x1,x2,x3⟩:=hx;simp[outK,lub2,zeroT];exact⟨max0 x1,max0 x2,max0 x3⟩
  ·rw[if_neg (by omega)];simp[outK,lub2]
 ·rfl
theorem mx_eq (a b:Int):(if a<b then b else a)=max a b:=by split<;>omega
theorem zq7 {x:Time}(h:z2z x):lub2 zeroT x=x:=by
 obtain⟨h1,h2,h3⟩:=h;simp only[lub2,mx_eq,zeroT];refine Time.ext' ?_ ?_ ?_<;>simp only<;>omega
theorem zi2 {x y:Time}(hx:z2z x):lubL [x,y]=lub2 x y:=by
 simp[lubL,zq7 hx]
def leT (a b:Time):Bool:=decide (a.epoch≤b.epoch) && (decide (a.loop.1≤b.loop.1) && decide (a.loop.2≤b.loop.2))
theorem zqa {a b:Time}(ha:z2z a)(hb:z2z b):z93 a b=some (leT a b):=by
 unfold z93 z6t;have hl: ∀x∈[a,b],z2z x:=fun x hx=>by
  rcases zzm.1 hx with rfl|hx
  ·exact ha
  ·rw[zz9.1 hx];exact hb
 rw[zdg hl,zi2 ha];simp only[zz0,lub2,mx_eq,z0s,leT,Bool.and_true];congr 1;rw[Bool.eq_iff_iff];simp only[Bool.and_eq_true,decide_eq_true_eq];omega
theorem zhp (a b:Time):z4e a b=some (leT a b):=by
 unfold z4e leT;simp only[z0c,z0b];by_cases h1:b.loop.1<a.loop.1<;>by_cases h2:b.loop.2<a.loop.2<;>by_cases h3:a.epoch≤b.epoch<;>simp[outK,h1,h2,h3]<;>omega
def cmpT (a b:Time):Int:=
 if a.epoch<b.epoch then -1 else if b.epoch<a.epoch then 1 else if a.loop.1<b.loop.1 then -1 else if b.loop.1<a.loop.1 then 1 else if a.loop.2<b.loop.2 then -1 else if b.loop.2<a.loop.2 then 1 else 0
theorem           zfp (a b : Time) :                  z36 a b = some (cmpT a b) := by
  unfold                  z36 cmpT
  simp only [   z0c,       z0b,    z4q]
  by_cases h1 : a.epoch < b.epoch <;> by_cases h2 : b.epoch < a.epoch <;> by_cases h3 : a.loop.1 < b.loop.1 <;> by_cases h4 : b.loop.1 < a.loop.1 <;> by_cases h5 : a.loop.2 < b.loop.2 <;> by_cases h6 : b.loop.2 < a.loop.2 <;>
    simp [outK, h1, h2, h3, h4, h5, h6] <;> omega
theorem zka (x y:Int):z4a x y=some (if x<y then -1 else if y<x then 1 else 0):=by
 unfold z4a z72;simp only[decide_true,zzj,zz0,z0l,z0b];split
 ·rfl
 ·split<;>rfl
theorem zri (x1 x2 y1 y2:Int):z2q [x1,x2] [y1,y2]=some (if x1<y1 then -1 else if y1<x1 then 1 else if x2<y2 then -1 else if y2<x2 then 1 else 0):=by
 unfold z2q;simp only[List.length_cons,List.length_nil,zz4,Nat.reduceAdd,z0c,zka,z0b,z4q,zz0];by_cases h3:x1<y1<;>by_cases h4:y1<x1<;>by_cases h5:x2<y2<;>by_cases h6:y2<x2<;>simp[outK,need,h3,h4,h5,h6]
theorem zpi (u v:Int):z6n [u,v]=some (if u=0 then v else u):=by
 unfold z6n;simp only[List.length_cons,List.length_nil,zz4,Nat.reduceAdd,z0c,z0b,z4q];by_cases h1:u=0<;>by_cases h2:v=0<;>simp[outK,h1,h2]
theorem zs8 {p q:Bool}{A:Type}{x y:Option A}:bf (p && (q && true)) x y=bf p (bf q x y) y:=by cases p<;>cases q<;>rfl
theorem        z33 (a b : Time) :            z1h a b = some (cmpT a b) := by
  unfold            z1h cmpT
  simp only [      zka,     zri,    zpi,              zz0,    zs8,       z0b]
  by_cases h1 : a.epoch < b.epoch <;> by_cases h2 : b.epoch < a.epoch <;> by_cases h3 : a.loop.1 < b.loop.1 <;> by_cases h4 : b.loop.1 < a.loop.1 <;> by_cases h5 : a.loop.2 < b.loop.2 <;> by_cases h6 : b.loop.2 < a.loop.2 <;>
    by_cases h7 : a.loop.1 = b.loop.1 <;> by_cases h8 : a.loop.2 = b.loop.2 <;> simp [h1, h2, h3, h4, h5, h6, h7, h8] <;> omega
theorem zo4 (a b:Time):cmpT a b= -1∨cmpT a b=0∨cmpT a b=1:=by
 unfold cmpT
 repeat' split
 all_goals omega
theorem       zow (a b : Time) : cmpT a b = - cmpT b a := by
  unfold cmpT
  by_cases h1 : a.epoch < b.epoch <;> by_cases h2 : b.epoch < a.epoch <;> by_cases h3 : a.loop.1 < b.loop.1 <;> by_cases h4 : b.loop.1 < a.loop.1 <;> by_cases h5 : a.loop.2 < b.loop.2 <;> by_cases h6 : b.loop.2 < a.loop.2 <;>
    simp [h1, h2, h3, h4, h5, h6] <;> omega
theorem zlx (a:Time):leT a a=true:=by simp[leT]
theorem zkj {a b c:Time}(h:leT a b=true)(g:leT b c=true):leT a c=true:=by
 simp only[leT,Bool.and_eq_true,decide_eq_true_eq]at*;omega
theorem zrq {a b:Time}:leT a b=true↔a.epoch≤b.epoch∧a.loop.1≤b.loop.1∧a.loop.2≤b.loop.2:=by simp[leT]
theorem zj2 (u v w:Int):z6n [u,v,w]=some (thenC u (thenC v w)):=by
 unfold z6n thenC;simp only[List.length_cons,List.length_nil,zz4,Nat.reduceAdd,z0c,z0b,z4q];by_cases h1:u=0<;>by_cases h2:v=0<;>by_cases h3:w=0<;>simp[outK,h1,h2,h3]
theorem zsf (u v w:Int):zah [u,v,w]=some (thenC u (thenC v w)):=zj2 u v w
theorem zni:IsCmp cmpT where
 vals a b:=by rcases zo4 a b with h|h|h<;>omega
 anti a b:=by have:=zow a b;omega
 tr a b d:=by
  have e: ∀a b:Time,cmpT a b=thenC (cmpZ a.epoch b.epoch) (thenC (cmpZ a.loop.1 b.loop.1) (cmpZ a.loop.2 b.loop.2)):=fun a b=>by
   unfold cmpT thenC cmpZ
   repeat' split
   all_goals omega
  have h:=(zb0.on fun t:Time=>t.epoch).lex ((zb0.on fun t:Time=>t.loop.1).lex (zb0.on fun t:Time=>t.loop.2));rw[e,e,e];exact h.tr a b d
theorem       zox {a b : Time} : cmpT a b = 0 ↔ a = b := by
  constructor
  · intro h
    unfold cmpT at h
    refine Time.ext' ?_ ?_ ?_ <;> · revert h; repeat' split
                                    all_goals omega
  · rintro rfl; exact     zni.refl a
def okT (t:Time):Bool:=decide (t.epoch≤4611686018427387904) && (decide (t.loop.1≤4611686018427387904) && decide (t.loop.2≤4611686018427387904))
theorem znn {fuel:Nat}(hf:5<fuel)(a b:Int):z38 fuel [a,b]=some (if a<b then b else a):=by
 unfold z38;obtain⟨f,rfl⟩: ∃f,fuel=f+2:=⟨fuel-2,by omega⟩;have w:zzi.wrap 2=2:=by rw[z2b (by omega) (by omega)]
 simp[loopN,outK,need,bf,w]
theorem zem {fuel:Nat}(hf:5<fuel)(t:Time):z4h fuel [t]=some (if okT t then 0 else 1):=by
 unfold z4h okT;simp only[List.length_cons,List.length_nil,zz4,z0c,List.getD_cons_zero,znn hf,zz0,z0b,mx_eq];by_cases h:4611686018427387904<max t.epoch (max t.loop.1 t.loop.2)
 ·rw[if_pos h];simp only[outK];rw[if_neg (by simp only[Bool.and_eq_true,decide_eq_true_eq];omega)]
 ·rw[if_neg h];simp only[outK];rw[if_pos (by simp only[Bool.and_eq_true,decide_eq_true_eq];omega)]
theorem zc0 (t:Time):z35 [t]=some (if okT t then 0 else 1):=by
 unfold z35 okT;simp only[List.length_cons,List.length_nil,zz4,z0c,List.getD_cons_zero,z0b];by_cases h1:4611686018427387904<t.epoch<;>by_cases h2:4611686018427387904<t.loop.1<;>by_cases h3:4611686018427387904<t.loop.2<;>simp[outK,h1,h2,h3]<;>omega
end Go.Av
namespace Go.Av
open Go
section
variable {α X Y:Type}
inductive R2 (r:X→Y→Prop):List X→List Y→Prop
 |nil:R2 r [] []
 |cons {x:X} {y:Y} {a:List X} {b:List Y} (h:r x y) (t:R2 r a b):R2 r (x::a) (y::b)
theorem R2.len {r:X→Y→Prop}{a:List X}{b:List Y}(h:R2 r a b):a.length=b.length:=by induction h<;>simp_all
theorem R2.app {r:X→Y→Prop}{a a':List X}{b b':List Y}(h:R2 r a b)(h':R2 r a' b'):R2 r (a++a') (b++b'):=by
 induction h with
 |nil=>exact h'
 |cons h _ ih=>exact .cons h ih
theorem R2.split {r:X→Y→Prop}: ∀{b b':List Y} {a:List X},R2 r a (b++b')→ ∃a1 a2,a=a1++a2∧R2 r a1 b∧R2 r a2 b'
 |[],b',a,h=>⟨[],a,rfl,.nil,h⟩
 |y::b,b',_,h=>by
  cases h with
  |cons h t=>
   obtain⟨a1,a2,rfl,h1,h2⟩:=R2.split t;exact⟨_::a1,a2,rfl,.cons h h1,h2⟩
theorem R2.get [Inhabited X][Inhabited Y]{r:X→Y→Prop}{a:List X}{b:List Y}(h:R2 r a b): ∀{i:Nat},i<b.length→r (a.getD i zzd) (b.getD i zzd):=by
 induction h with
 |nil=>intro i hi;simp at hi
 |cons h _ ih=>
  intro i hi;cases i with
  |zero=>exact h
  |succ i=>exact ih (by simpa using hi)
theorem R2.one {r:X→Y→Prop}{x:X}{y:Y}(h:r x y):R2 r [x] [y]:= .cons h .nil
theorem z9x {S R Q:Type}{G:Option Q→Prop}{B:Nat→S→Option (Ctl S R)}{n:Nat}{s:S}{kn:S→Option Q}{kr:R→Option Q}(I:Nat→S→Prop)(D:S→Prop)(J:R→Prop)(h0:I 0 s)(hD: ∀s,I n s→D s)(hk: ∀s,D s→G (kn s))(hr: ∀r,J r→G (kr r))
 (hs: ∀i s,i<n→I i s→(∃s',B i s=some (.next s')∧I (i+1) s')∨(∃s',B i s=some (.brk s')∧D s')∨ ∃r,B i s=some (.ret r)∧J r):G (outK (z0c B n 0 s) kn kr):=by
 rcases zho I D J h0 hs hD with⟨s',h1,h2⟩|⟨r,h1,h2⟩
 ·rw[h1];exact hk s' h2
 ·rw[h1];exact hr r h2
theorem zkg [Inhabited X](a:List X)(x:X):(a++[x]).getD a.length zzd=x:=by simp[List.getD_eq_getElem?_getD]
theorem zi0 [Inhabited X](a b:List X)(x:X):(a++x::b).getD a.length zzd=x:=by simp[List.getD_eq_getElem?_getD]
theorem zh9 (a b:List X)(x y:X):(a++x::b).set a.length y=a++y::b:=by simp[List.set_append]
def PR (num:α→Int)(l:List α):List (α×Int):=l.map fun x=>(x,num x)
theorem zk5 (num:α→Int)(l l':List α):PR num (l++l')=PR num l++PR num l':=by simp[PR]
theorem zbe {num:α→Int}{l:List α}{p:α×Int}:p∈PR num l↔ ∃x∈l,(x,num x)=p:=by simp[PR]
theorem zi8 {c:α→α→Int}{y:α}: ∀{l:List (α×Int)},(∀p∈l,in64 p.2)→ -9223372036854775808*(l.length:Int)≤sm c l y∧sm c l y≤9223372036854775808*(l.length:Int)
 |[],_=>by simp[sm]
 |p::l,h=>by
  have h1:=zi8 (c:=c) (y:=y) (l:=l) fun q hq=>h q (zzf _ hq);have h2:=h p (zza ..)
  unfold in64 at h2;simp only[sm,List.length_cons];split<;>omega
theorem zrc {c:α→α→Int}{num:α→Int}{put:α→Int→α}{l l':List (α×Int)}{R:List α}{e:Int}(hp:l.Perm l')(h:Tot c num put l R e):Tot c num put l' R e:=by
 have hs: ∀y,sm c l y=sm c l' y:=zs3 hp;rcases h with⟨h1,h2,h3⟩|⟨h1,h2,h3⟩
 ·refine .inl ⟨h1,⟨h2.strict,fun r hr=>?_,fun r hr=>?_,fun y hy hn=>?_⟩,fun y=>?_⟩
  ·rw[←hs];exact h2.sum r hr
  ·obtain⟨y,g1,g2⟩:=h2.mem r hr;exact⟨y,hp.mem_iff.1 g1,g2⟩
  ·exact h2.all y (hp.mem_iff.2 hy) (by rw[hs];exact hn)
  ·rw[←hs];exact h3 y
 ·refine .inr ⟨h1,h2,fun h=>h3 fun y=>?_⟩;rw[hs];exact h y
theorem zkl (put:α→Int→α)(S S':List (α×Int)):left0 put (S++S')=left0 put S++left0 put S':=by simp[left0]
theorem zkm (put:α→Int→α)(p:α×Int):left0 put [p]=if p.2=0 then[]else[put p.1 p.2]:=by
 unfold left0;by_cases h:p.2=0<;>simp[h]
theorem zdi (put:α→Int→α)(S:List (α×Int)):(left0 put S).length≤S.length:=by
 unfold left0;rw[List.length_map];exact List.length_filter_le _ _
def fit64 (s:Int):Int×Int:=if -9223372036854775808≤s∧s<9223372036854775808 then(s,0)else(0,10)
theorem zf3 {s:Int}(h:in64 s):fit64 s=(s,0):=if_pos h
theorem zdf {s:Int}(h: ¬in64 s):fit64 s=(0,10):=if_neg h
def repT (t:Tally)(s:Int):Prop:=inU64 t.high∧inU64 t.low∧(t.high*18446744073709551616+t.low-s) % 340282366920938463463374607431768211456=0
def repW (w:Wide)(s:Int):Prop:=inU64 w.low∧w.high*18446744073709551616+w.low=s
theorem zq4 {w:Wide}{p s:Int}(hp:in64 p)(h:repW w s)(hb: -85070591730234615865843651857942052864≤s∧s≤85070591730234615865843651857942052864):
 ∃w',z2p w p=some w'∧repW w' (s+p):=by
 obtain⟨hl,hs⟩:=h;unfold repW in64 inU64 at*;unfold z2p;have e1:zzi.wrap (w.high+1)=w.high+1:=z6y (by unfold in64;omega)
 have e2:zzi.wrap (w.high-1)=w.high-1:=z6y (by unfold in64;omega);have e3:zzi.wrap (w.high+1-1)=w.high:=by rw[z6y (by unfold in64;omega)];omega
 simp only[jn_eq,z9z,z0b,e1];split<;>split<;>refine⟨_,rfl,?_,?_⟩<;>simp only[e2,e3]<;>omega
theorem zmn {w:Wide}{s:Int}(h:repW w s):z2r w=some (fit64 s):=by
 obtain⟨hl,hs⟩:=h;unfold inU64 at*;unfold z2r;by_cases h: -9223372036854775808≤s∧s<9223372036854775808
 ·have e1:zzi.wrap w.low=s:=by rw[z9y];split<;>omega
  rw[zf3 h];simp only[jn_eq,e1,z0b];have:(w.high=0∧0≤s)∨(w.high= -1∧s<0):=by omega
  rcases this with⟨g1,g2⟩|⟨g1,g2⟩
  ·rw[if_pos g1,if_pos g2];rfl
  ·rw[if_neg (by omega),if_pos g1,if_pos g2]
 ·rw[zdf h];simp only[jn_eq,z0b];by_cases g1:w.high=0
  ·have g2: ¬0≤zzi.wrap w.low:=by rw[z9y];split<;>omega
   rw[if_pos g1,if_neg g2,if_neg (by omega)];rfl
  ·rw[if_neg g1];by_cases g2:w.high= -1
   ·have g3: ¬zzi.wrap w.low<0:=by rw[z9y];split<;>omega
    rw[if_pos g2,if_neg g3]
   ·rw[if_neg g2];rfl
end
end Go.Av
namespace Go.Av
open Go
def cU (a b:Update):Int:=thenC (cmpL cmpV a.key b.key) (thenC (cmpL cmpV a.row b.row) (cmpT a.time b.time))
theorem cU_is:IsCmp cU:=(zh0.list.on fun u:Update=>u.key).lex ((zh0.list.on fun u:Update=>u.row).lex (zni.on fun u:Update=>u.time))
theorem z8y (a b:Update):z3e a b=some (cU a b):=by
 unfold z3e cU;simp only[zd8,z33,zj2,zz0]
def z3z (x:Update)(n:Int):Update:=⟨x.key,x.row,x.time,n⟩
theorem zog {x:Update}{n:Int}(h:x.row.length≤8):z7r x n=some (z3z x n):=rfl
def zbt (x:Line_Update)(p:Update×Int):Prop:=x.of=p.1∧repT x.tally p.2
theorem zny {a:List Line_Update}{x:Line_Update}{p s:Int}(hp:in64 p)(h:repT x.tally s):
 ∃t:Tally,z4b a.length p (a++[x])=some (a++[(⟨t,x.of⟩:Line_Update)])∧repT t (s+p):=by
 obtain⟨hh,hl,hs⟩:=h;unfold in64 inU64 repT at*;unfold z4b zaf;simp only[zkg,zh9,zze,zzo,List.length_singleton,shr63 hp,z9z];rw[z07 (by omega),z07 (by omega)];simp only[zz0];rw[z07 (by omega),z07 (by omega),z07 (by split<;>omega)];simp only[zz0];rw[z07 (by omega)];refine⟨_,rfl,?_,?_,?_⟩
 ·simp only[inU64];omega
 ·simp only[inU64];omega
 ·simp only;split<;>omega
theorem zo6 {x:Line_Update}{s:Int}(h:repT x.tally s)(hb: -85070591730234615865843651857942052864≤s∧s≤85070591730234615865843651857942052864):z4c x=some ((fit64 s).1,(fit64 s).2,x):=by
 obtain⟨hh,hl,hs⟩:=h;unfold inU64 at*;have hw:in64 (zzi.wrap x.tally.low):=by unfold in64;rw[z9y];split<;>omega
 unfold z4c;rw[shr63 hw,z9z];by_cases h: -9223372036854775808≤s∧s<9223372036854775808
 ·rw[zf3 h];have e1:zzi.wrap x.tally.low=s:=by rw[z9y];split<;>omega
  rw[e1];have e2:x.tally.high=(if s<0 then(-1:Int)else 0) % 18446744073709551616:=by split<;>omega
  rw[decide_eq_true e2];rfl
 ·rw[zdf h];have e2: ¬x.tally.high=(if zzi.wrap x.tally.low<0 then(-1:Int)else 0) % 18446744073709551616:=by
   rw[z9y];split<;>split<;>omega
  rw[decide_eq_false e2];rfl
theorem zpp:z2m=rotG (α:=Update):=rfl
theorem zpa:z1q=insG (α:=Update) z3e:=rfl
theorem zkw: ∀(fuel:Nat) (a b d:Int) (l:List Update),z0n fuel a b d l=symG (α:=Update) z3e fuel a b d l
 |0,_,_,_,_=>rfl
 |fuel+1,a,b,d,l=>by
  unfold z0n symG;simp only[zpp,zkw fuel]
theorem zom (fuel:Nat)(n:Int)(l:List Update):z23 fuel n l=stabG (α:=Update) z3e fuel n l:=by
 unfold z23 stabG;simp only[zpa,zkw]
theorem znc {fuel:Nat}{l:List Update}(hl: ∀x∈l,in64 x.diff)(hr: ∀x∈l,x.row.length≤8)(hn:l.length≤4000000)(hf:20000000≤fuel):
 ∃R e l',z0p fuel l=some (R,e,l')∧Tot cU (fun x=>x.diff) z3z (PR (fun x=>x.diff) l) R e∧R.length≤l.length:=by
 obtain⟨r1,h1,h2,h3⟩:=zol (c:=cU) z8y cU_is (fuel:=fuel) (l:=l) (by omega) (by omega);have hlen:r1.length=l.length:=h2.length_eq
 unfold z0p z0u;rw[zom,h1];simp only[zz0];rw[z07 hlen]
 suffices hS: ∃R e,(_:Option ((List Update)×Int×(List Update)))=some (R,e,r1)∧Tot cU (fun x=>x.diff) z3z (PR (fun x=>x.diff) r1) R e∧R.length≤r1.length by
  obtain⟨R,e,g1,g2,g3⟩:=hS;refine⟨R,e,r1,?_,zrc ?_ g2,by omega⟩
  ·exact g1
  ·exact h2.map _
 have hl1: ∀x∈r1,in64 x.diff:=fun x hx=>hl x (h2.mem_iff.1 hx);have hr1: ∀x∈r1,x.row.length≤8:=fun x hx=>hr x (h2.mem_iff.1 hx)
 refine zan (G:=fun q=> ∃R e,q=some (R,e,r1)∧Tot cU (fun x=>x.diff) z3z (PR (fun x=>x.diff) r1) R e∧R.length≤r1.length) (P:=fun a=> ∃S,R2 zbt a S∧SS cU (PR (fun x=>x.diff) r1) S∧S.length≤r1.length) ?_ ?_
 ·have:=fun B h=>zaq (R:=Empty) (B:=B) (n:=r1.length) (fun i (a:List Line_Update)=> ∃S,R2 zbt a S∧SS cU (PR (fun x=>x.diff) (r1.take i)) S∧S.length≤i) (s:=([]:List Line_Update)) ⟨[],.nil,zpx,zzc _⟩ h;simp only[List.take_length]at this;refine this _ ?_;rintro i a hi ⟨S,k1,k2,k3⟩;have hx:=hl1 _ (z25 hi)
  rw[zz4,z07 hi];have htk:PR (fun x:Update=>x.diff) (r1.take (i+1))=PR (fun x=>x.diff) (r1.take i)++[(r1.getD i zzd,(r1.getD i zzd).diff)]:=by
   rw[z27 hi,zk5];rfl
  have hle: ∀p∈S,cU p.1 (r1.getD i zzd)≤0:=fun p hp=>by
   obtain⟨y,g1,g2⟩:=k2.mem p hp;obtain⟨z,g3,g4⟩:=zbe.1 g1;obtain⟨j,hj,g5⟩:=List.mem_iff_getElem.1 g3;rw[zzh]at hj;have:=h3 j i (by omega) hi
   rw[←g2,←g4];simp only;rw[←g5,List.getElem_take];rw[List.getD_eq_getElem?_getD,List.getElem?_eq_getElem (by omega:j<r1.length)]at this;exact this
  generalize hxe:r1.getD i zzd=x at*;rw[htk];clear htk
  let G:Option (Ctl (List Line_Update) Empty)→Prop:=fun q=> ∃s',q=some (.next s')∧ ∃S,R2 zbt s' S∧SS cU (PR (fun x=>x.diff) (r1.take i)++[(x,x.diff)]) S∧S.length≤i+1
  refine jn_P (G:=G) (P:=fun b=> ∃(b':List Line_Update) (y:Line_Update) (S':List (Update×Int)) (s:Int),b=b'++[y]∧b.length≤i+1∧R2 zbt b' S'∧repT y.tally s∧SS cU (PR (fun x=>x.diff) (r1.take i)++[(x,x.diff)]) (S'++[(y.of,s+x.diff)])) ?_ ?_
  ·rintro _ ⟨b',y,S',s,rfl,q0,q1,q2,q3⟩;simp only[zzo,List.length_singleton]at q0 ⊢;rw[wsub1 (by omega) (by omega),z07 (by omega)];obtain⟨t,g1,g2⟩:=zny (a:=b') (x:=y) hx q2;unfold z7q;simp only[zz0,Nat.add_sub_cancel,zz4,zz1];rw[g1];simp only[zz0];rw[z07 (by simp)];refine⟨_,rfl,_,R2.app q1 (R2.one (show zbt ⟨t,y.of⟩ (y.of,s+x.diff)from⟨rfl,g2⟩)),q3,?_⟩;have:=q1.len
   simp only[zzo,List.length_singleton];omega
  ·simp only[jn_eq,z0b];have hlen2:=k1.len
   rcases List.eq_nil_or_concat S with rfl|⟨A,p,rfl⟩
   ·have ha:a=[]:=List.eq_nil_of_length_eq_zero hlen2;subst ha;rw[if_pos (by simp),z3o,z07 (by simp)];refine⟨_,⟨[],_,[],0,rfl,by simp,.nil,by simp[repT,inU64],?_⟩,rfl⟩;have:=zmj (A:=[]) (B:=[]) (x:=x) (n:=x.diff) cU_is k2 (fun p hp=>by cases hp) (fun p hp=>by cases hp)
    simpa using this
   ·simp only[List.concat_eq_append]at*;obtain⟨a1,a2,rfl,u1,u2⟩:=R2.split k1;cases u2 with
    | @cons y _ _ _ v t=>
     cases t;obtain⟨v1,v2⟩:=v;have e1:(a1++[y]).length=a1.length+1:=by simp
     have e2:=u1.len;simp only[zzo,List.length_singleton]at k3;rw[if_neg (by omega),e1,wsub1 (by omega) (by omega),z07 (by omega)];simp only[Nat.add_sub_cancel,zz4,zz1,zkg];rw[z07 (by omega),z8y,v1];simp only[zz0];by_cases g:cU p.1 x=0
     ·rw[decide_eq_true g];simp only[zzj,z0l];refine⟨_,⟨a1,y,A,p.2,rfl,by omega,u1,v2,?_⟩,?_⟩
      ·rw[v1];exact zpw cU_is k2 g
      ·rw[e1,wsub1 (by omega) (by omega)];simp only[Nat.add_sub_cancel,zz1]
     ·rw[decide_eq_false g];simp only[Bool.not_false,z3o];rw[z07 (by simp;omega)];refine⟨_,⟨a1++[y],_,A++[p],0,rfl,by simp;omega,k1,by simp[repT,inU64],?_⟩,rfl⟩;have:=zmj (A:=A++[p]) (B:=[]) (x:=x) (n:=x.diff) cU_is (by simpa using k2) (fun q hq=>by
       have h4:=hle p (by simp);have h5:cU q.1 p.1≤0:=by
        rcases zz6.1 hq with hq|hq
        ·have h6:=k2.strict;rw[List.pairwise_append]at h6;have:=h6.2.2 q hq p (by simp)
         omega
        ·rw[zz9.1 hq,cU_is.refl];omega
       have h7:=cU_is.tr _ _ _ h5 h4;by_cases h8:cU q.1 x=0
       ·exfalso;have h9:cU x p.1≤0:=by rw[←cU_is.eqL p.1 h8];exact h5
        have:=cU_is.anti p.1 x;omega
       ·omega) (fun q hq=>by cases hq)
      simpa using this
 ·rintro a ⟨S,k1,k2,k3⟩;have hb: ∀i,i<S.length→ -85070591730234615865843651857942052864≤(S.getD i zzd).2∧(S.getD i zzd).2≤85070591730234615865843651857942052864:=fun i hi=>by
   rw[k2.sum _ (z25 hi)];have:=zi8 (c:=cU) (y:=(S.getD i zzd).1) (l:=PR (fun x=>x.diff) r1) (fun p hp=>by
    obtain⟨z,g1,g2⟩:=zbe.1 hp;rw[←g2];exact hl1 z g1)
   have e:(PR (fun x:Update=>x.diff) r1).length=r1.length:=by simp[PR]
   rw[e]at this;omega
  have hrow: ∀i,i<S.length→(S.getD i zzd).1.row.length≤8:=fun i hi=>by
   obtain⟨y,g1,g2⟩:=k2.mem _ (z25 hi);obtain⟨z,g3,g4⟩:=zbe.1 g1;rw[←g2,←g4];exact hr1 z g3
  have hlen2:=k1.len;rw[hlen2];refine z9x (G:=fun q=> ∃R e,q=some (R,e,r1)∧Tot cU (fun x=>x.diff) z3z (PR (fun x=>x.diff) r1) R e∧R.length≤r1.length) (fun i (b:List Update)=>(∀j,j<i→in64 (S.getD j zzd).2)∧b=left0 z3z (S.take i)) (fun b=>(∀j,j<S.length→in64 (S.getD j zzd).2)∧b=left0 z3z S) (fun r=>r=([],10,r1)∧ ∃j,j<S.length∧ ¬in64 (S.getD j zzd).2) ⟨fun j hj=>by omega,rfl⟩ (fun b hb=>by
   rw[List.take_length]at hb;exact hb) ?_ ?_ ?_
  rotate_left 2
  ·rintro i b hi ⟨m1,m2⟩;obtain⟨v1,v2⟩:=k1.get hi;rw[zz4,z07 hi,zo6 v2 (hb i hi)];simp only[zz0,z4q,z0b];by_cases g:in64 (S.getD i zzd).2
   ·left;rw[zf3 g,v1];have hput:=zog (x:=(S.getD i zzd).1) (n:=(S.getD i zzd).2) (hrow i hi)
    have hlb:b.length≤i:=by
     rw[m2];have:=zdi z3z (S.take i);rw[zzh]at this;omega
    rw[z27 hi,zkl,zkm,←m2];have m3: ∀j,j<i+1→in64 (S.getD j zzd).2:=fun j hj=>by
     by_cases e:j=i
     ·subst e;exact g
     ·exact m1 j (by omega)
    by_cases g2:(S.getD i zzd).2=0
    ·exact⟨b,by simp only[if_true,if_pos g2],m3,by rw[if_pos g2,List.append_nil]⟩
    ·refine⟨b++[z3z (S.getD i zzd).1 (S.getD i zzd).2],?_,m3,by rw[if_neg g2]⟩;simp only[if_true,if_neg g2,hput,zz0];rw[z07 (by simp;omega)]
   ·right;right;rw[zdf g];exact⟨_,rfl,rfl,i,hi,g⟩
  ·rintro b ⟨g2,g3⟩;refine⟨_,_,rfl,.inl ⟨rfl,?_,?_⟩,by rw[g3];have:=zdi z3z S;omega⟩
   ·rw[g3];exact zpo (num:=fun x=>x.diff) (put:=z3z) cU_is (fun x n=>rfl) (fun x n y=>rfl) k2
   ·rw[zha cU_is k2];intro p hp;obtain⟨j,hj,e⟩:=List.mem_iff_getElem.1 hp;have:=g2 j hj
    rw[List.getD_eq_getElem?_getD,List.getElem?_eq_getElem hj]at this;rw[←e];exact this
  ·rintro r ⟨g2,j,g3,g4⟩;rw[g2];refine⟨_,_,rfl,.inr ⟨rfl,rfl,?_⟩,Nat.zero_le _⟩;rw[zha cU_is k2];intro h;exact g4 (h _ (z25 g3))
end Go.Av
namespace Go.Av
open Go
def cK (a b:Count):Int:=cmpL cmpV a.row b.row
def zqz (x:Count)(n:Int):Count:=⟨x.row,n⟩
end Go.Av
namespace Go.Av
open Go
section
variable {α:Type} [Inhabited α]
def zh6 (cmp:α→α→Option Int)(num:α→Int)(fuel:Nat)(a5:(List α)×(List Wide))(x:α):Option (Ctl ((List α)×(List Wide)) Empty):=
 outK (loopN (S:=Int) (R:=Empty) (fun(a17:Int)=>jn (fun(a42:Bool)=>bf a42 (some (.next (zzi.wrap (a17+1)))) (some (.brk a17))) fun j43=>bf (decide (a17<(a5.1.length:Int))) (need ((0:Int)≤a17∧a17<(a5.1.length:Int))<|need ((0+a17.toNat)<a5.1.length)<|(cmp (a5.1.getD (0+a17.toNat) zzd) x).bind fun r47=>j43 (decide (r47<0))) (j43 false)) fuel 0) (fun(a18:Int)=>jn (fun(a19:(List α)×(List Wide))=>need ((0:Int)≤a18∧a18<(a19.2.length:Int))<|need ((0+a18.toNat)<a19.2.length)<|(z2p (a19.2.getD (0+a18.toNat) zzd) (num x)).bind fun r23=>need ((0:Int)≤a18∧a18<(a19.2.length:Int))<|need ((0+a18.toNat)<a19.2.length)<|some (.next (a19.1,(a19.2.set (0+a18.toNat) r23)))) fun j20=>jn (fun(a26:Bool)=>bf a26 (need ((0:Int)≤0∧(0:Int)≤a18∧a18≤(a5.1.length:Int))<|need ((sub a5.1 (0:Int) a18).length≤274877906944)<|need ((sub a5.1 (0:Int) a18).length+([x]:List α).length≤274877906944)<|need ((0:Int)≤a18∧a18≤(a5.1.length:Int)∧(a5.1.length:Int)≤(a5.1.length:Int))<|need (((sub a5.1 (0:Int) a18)++([x]:List α)).length+(sub a5.1 a18 (a5.1.length:Int)).length≤274877906944)<|need ((0:Int)≤0∧(0:Int)≤a18∧a18≤(a5.2.length:Int))<|need ((sub a5.2 (0:Int) a18).length≤274877906944)<|need ((sub a5.2 (0:Int) a18).length+([(⟨0,0⟩:Wide)]:List Wide).length≤274877906944)<|need ((0:Int)≤a18∧a18≤(a5.2.length:Int)∧(a5.2.length:Int)≤(a5.2.length:Int))<|need (((sub a5.2 (0:Int) a18)++([(⟨0,0⟩:Wide)]:List Wide)).length+(sub a5.2 a18 (a5.2.length:Int)).length≤274877906944)<|j20 ((((sub a5.1 (0:Int) a18)++([x]:List α))++(sub a5.1 a18 (a5.1.length:Int))),(((sub a5.2 (0:Int) a18)++([(⟨0,0⟩:Wide)]:List Wide))++(sub a5.2 a18 (a5.2.length:Int))))) (j20 (a5.1,a5.2))) fun j27=>bf (decide (a18=(a5.1.length:Int))) (j27 true) (need ((0:Int)≤a18∧a18<(a5.1.length:Int))<|need ((0+a18.toNat)<a5.1.length)<|(cmp (a5.1.getD (0+a18.toNat) zzd) x).bind fun r41=>j27 (decide (0<r41)))) (fun(x:Empty)=>x.elim)
def relS (a:(List α)×(List Wide))(S:List (α×Int)):Prop:=a.1=S.map (·.1)∧R2 repW a.2 (S.map (·.2))
theorem zoa {cmp:α→α→Option Int}{c:α→α→Int}{num:α→Int}{fuel:Nat}{a:(List α)×(List Wide)}{l S:List (α×Int)}{x:α}(hC:IsCmp c)(hc: ∀p∈S,cmp p.1 x=some (c p.1 x))(h:SS c l S)(ha:relS a S)
 (hn:S.length≤4000000) (hf:S.length<fuel) (hx:in64 (num x)) (hb: ∀p∈S,-85070591730234615865843651857942052864≤p.2∧p.2≤85070591730234615865843651857942052864):
 ∃a' S',zh6 cmp num fuel a x=some (.next a')∧relS a' S'∧SS c (l++[(x,num x)]) S'∧S'.length≤S.length+1:=by
 obtain⟨a1,a2⟩:=a;obtain⟨r1,r2⟩:=ha;simp only at r1 r2;subst r1;unfold zh6;have hl:((S.map (·.1)).length:Int)=(S.length:Int):=by simp
 let G:Option (Ctl ((List α)×(List Wide)) Empty)→Prop:=fun q=> ∃a' S',q=some (.next a')∧relS a' S'∧SS c (l++[(x,num x)]) S'∧S'.length≤S.length+1
 have hget: ∀i,i<S.length→(S.map (·.1)).getD i zzd=(S.getD i zzd).1:=fun i hi=>by
  simp[List.getD_eq_getElem?_getD,List.getElem?_eq_getElem hi]
 refine zan (G:=G) (P:=fun s=> ∃k:Nat,s=(k:Int)∧k≤S.length∧(∀j,j<k→c (S.getD j zzd).1 x<0)∧(k=S.length∨ ¬c (S.getD k zzd).1 x<0)) ?_ ?_
 ·refine zc6 (I:=fun i s=>s=(i:Int)∧i≤S.length∧ ∀j,j<i→c (S.getD j zzd).1 x<0) (n:=S.length) _ hf ⟨rfl,Nat.zero_le _,fun j hj=>by omega⟩ ?_;rintro i _ ⟨rfl,k1,k2⟩;simp only[jn_eq,z0b,hl,intlt];by_cases g:i<S.length
  ·rw[if_pos g,z07 (by omega),z07 (by simp;omega)];simp only[zz4,zz1,hget i g];rw[hc _ (z25 g)];simp only[zz0];by_cases g2:c (S.getD i zzd).1 x<0
   ·left;refine⟨((i+1:Nat):Int),?_,⟨rfl,by omega,fun j hj=>?_⟩,g⟩
    ·rw[if_pos g2,wadd1 (by omega)]
    ·by_cases e:j=i
     ·subst e;exact g2
     ·exact k2 j (by omega)
   ·right;rw[if_neg g2];exact⟨_,rfl,i,rfl,k1,k2,.inr g2⟩
  ·right;rw[if_neg g,z0l];exact⟨_,rfl,i,rfl,k1,k2,.inl (by omega)⟩
 ·rintro _ ⟨k,rfl,k1,k2,k3⟩;have hS:S=S.take k++S.drop k:=(List.take_append_drop k S).symm
  have hkl:(S.take k).length=k:=by rw[zzh];omega
  have hA: ∀p∈S.take k,c p.1 x<0:=fun p hp=>by
   obtain⟨j,hj,e⟩:=List.mem_iff_getElem.1 hp;have:=k2 j (by omega)
   rw[List.getElem_take]at e;rw[List.getD_eq_getElem?_getD,List.getElem?_eq_getElem (by omega:j<S.length)]at this;rw[←e];exact this
  have hr2:R2 repW a2 (S.map (·.2)):=r2;refine jn_P (G:=G) (P:=fun b=> ∃(A:List (α×Int)) (p:α×Int) (B:List (α×Int)),k=A.length∧relS b (A++p::B)∧in64 (num x)∧(-85070591730234615865843651857942052864≤p.2∧p.2≤85070591730234615865843651857942052864)∧SS c (l++[(x,num x)]) (A++(p.1,p.2+num x)::B)∧(A++p::B).length≤S.length+1) ?_ ?_
  ·rintro⟨b1,b2⟩ ⟨A,p,B,q0,⟨q1,q2⟩,q3,q4,q5,q6⟩;simp only at q1 q2;rw[List.map_append,List.map_cons]at q2;obtain⟨w1,w2,rfl,u1,u2⟩:=R2.split q2;cases u2 with
   | @cons w _ w3 _ v t=>
    have e1:k=w1.length:=by rw[q0,u1.len];simp
    have e2:=t.len;simp only;rw[z07 (by simp;omega),z07 (by simp;omega)];simp only[zz1,zz4];rw[e1,zi0];obtain⟨w',g1,g2⟩:=zq4 q3 v q4;rw[g1];simp only[zz0];rw[z07 (by simp;omega),z07 (by simp),zh9];refine⟨_,_,rfl,⟨?_,?_⟩,q5,?_⟩
    ·simp only;rw[q1];simp
    ·simp only[List.map_append,List.map_cons];exact R2.app u1 (.cons g2 t)
    ·simpa using q6
  ·simp only[jn_eq,z0b,hl];have hnew:(k=S.length∨0<c (S.getD k zzd).1 x)→ ∀p∈S.drop k,c x p.1<0:=fun hk p hp=>by
    rcases hk with hk|hk
    ·rw[hk,List.drop_length]at hp;cases hp
    ·by_cases e:k<S.length
     ·rw[z1e e]at hp;have h0:c x (S.getD k zzd).1<0:=hC.gt_iff.1 hk
      rcases zzm.1 hp with rfl|hp
      ·exact h0
      ·have hs:=h.strict;rw[hS,z1e e,List.pairwise_append,List.pairwise_cons]at hs;have:=hs.2.1.1 p hp
       exact hC.lt_tr h0 (by omega)
     ·rw[zzk (by omega)]at hp;cases hp
   have fin:(k=S.length∨0<c (S.getD k zzd).1 x)→relS (((S.map (·.1)).take k++[x])++(S.map (·.1)).drop k,(a2.take k++[(⟨0,0⟩:Wide)])++a2.drop k) (S.take k++(x,0)::S.drop k)∧SS c (l++[(x,num x)]) (S.take k++(x,0+num x)::S.drop k):=fun hk=>by
    refine⟨⟨?_,?_⟩,?_⟩
    ·simp
    ·rw[hS,List.map_append]at hr2;obtain⟨w1,w2,e,u1,u2⟩:=R2.split hr2;have e1:w1.length=k:=by rw[u1.len,List.length_map,hkl]
     simp only[e,List.map_append,List.map_cons,←e1,List.take_left,List.drop_left,List.append_assoc];rw[e1];exact R2.app u1 (.cons ⟨by simp[inU64],by simp⟩ u2)
    ·rw[Int.zero_add];refine zmj hC (by rw[←hS];exact h) hA (hnew hk)
   have hsub: ∀{β:Type} (L:List β),L.length=S.length→sub L (0:Int) (k:Int)=L.take k∧sub L (k:Int) (S.length:Int)=L.drop k:=fun{β} L hL=>by
    unfold sub;constructor
    ·simp
    ·rw[List.take_of_length_le]
     ·simp
     ·rw[zzn];simp;omega
   have hl2:a2.length=S.length:=by rw[r2.len];simp
   have i1:=hsub (S.map (·.1)) (by simp);have i2:=hsub a2 hl2
   by_cases g:k=S.length
   ·rw[if_pos (by omega),z3o];obtain⟨f1,f2⟩:=fin (.inl g);refine⟨_,⟨S.take k,(x,0),S.drop k,hkl.symm,f1,hx,by simp,f2,by simp;omega⟩,?_⟩;rw[hl2,i1.1,i1.2,i2.1,i2.2,z07 (by omega),z07 (by simp;omega),z07 (by simp;omega),z07 (by omega),z07 (by simp;omega),z07 (by omega),z07 (by simp;omega),z07 (by simp;omega),z07 (by omega),z07 (by simp;omega)]
   ·have gl:k<S.length:=by omega
    rw[if_neg (by omega),z07 (by omega),z07 (by simp;omega)];simp only[zz4,zz1,hget k gl];rw[hc _ (z25 gl)];simp only[zz0];by_cases g2:0<c (S.getD k zzd).1 x
    ·rw[if_pos g2];obtain⟨f1,f2⟩:=fin (.inr g2);refine⟨_,⟨S.take k,(x,0),S.drop k,hkl.symm,f1,hx,by simp,f2,by simp;omega⟩,?_⟩;rw[hl2,i1.1,i1.2,i2.1,i2.2,z07 (by omega),z07 (by simp;omega),z07 (by simp;omega),z07 (by omega),z07 (by simp;omega),z07 (by omega),z07 (by simp;omega),z07 (by simp;omega),z07 (by omega),z07 (by simp;omega)]
    ·rw[if_neg g2];have g3:c (S.getD k zzd).1 x=0:=by
      rcases k3 with k3|k3
      ·omega
      ·omega
     rw[z1e gl]at hS;refine⟨(S.map (·.1),a2),⟨S.take k,S.getD k zzd,S.drop (k+1),hkl.symm,⟨?_,?_⟩,hx,hb _ (z25 gl),zpw hC (by rw[←hS];exact h) g3,?_⟩,by simp only[zz4,zz1]⟩
     ·rw[←hS]
     ·rw[←hS];exact r2
     ·rw[←hS];omega
end
end Go.Av
namespace Go.Av
open Go
theorem znu (v:Int):thenC 0 v=v:=rfl
theorem zev {u v:Int}(h:u≠0):thenC u v=u:=if_neg h
theorem zap {X:Type}[Inhabited X]{R:Type}{B:Nat→Unit→Option (Ctl Unit R)}{l:List X}(e:X→Int)(f:Int→R)(hB: ∀i,i<l.length→B i ()=if e (l.getD i zzd)=0 then some (.next ())else some (.ret (f (e (l.getD i zzd))))):
 z0c B l.length 0 ()=if l.foldr (fun x v=>thenC (e x) v) 0=0 then some (.done ())else some (.ret (f (l.foldr (fun x v=>thenC (e x) v) 0))):=by
 have key: ∀k i,i+k=l.length→z0c B k i ()=if(l.drop i).foldr (fun x v=>thenC (e x) v) 0=0 then some (.done ())else some (.ret (f ((l.drop i).foldr (fun x v=>thenC (e x) v) 0))):=by
  intro k;induction k with
  |zero=>
   intro i hi;rw[zzk (by omega)];rfl
  |succ k ih=>
   intro i hi;rw[z1e (by omega:i<l.length)];simp only[z0c,hB i (by omega),List.foldr_cons];by_cases h:e (l.getD i zzd)=0
   ·simp only[h,if_true,znu];exact ih (i+1) (by omega)
   ·simp only[zev h,if_neg h]
 have:=key l.length 0 (by omega);rwa[List.drop_zero]at this
theorem zm5 {S R:Type}{B B':Nat→S→Option (Ctl S R)}{n:Nat}{s:S}(h: ∀i s,i<n→B i s=B' i s):z0c B n 0 s=z0c B' n 0 s:=by
 have key: ∀k i s,i+k=n→z0c B k i s=z0c B' k i s:=by
  intro k;induction k with
  |zero=>intro i s hi;rfl
  |succ k ih=>
   intro i s hi;simp only[z0c,h i s (by omega)];cases B' i s with
   |none=>rfl
   |some c=>cases c<;>simp only[ih (i+1) _ (by omega)]
 exact key n 0 s (by omega)
def errU (u:Update):Int:=thenC (if okRow u.key then 0 else 4) (thenC (if okRow u.row then 0 else 4) (if okT u.time then 0 else 1))
def chkL (l:List Update):Int:=l.foldr (fun u v=>thenC (errU u) v) 0
def okU (u:Update):Prop:=okRow u.key=true∧okRow u.row=true∧okT u.time=true
theorem zp4 {u:Update}:errU u=0↔okU u:=by
 unfold errU okU thenC;by_cases h1:okRow u.key=true<;>by_cases h2:okRow u.row=true<;>by_cases h3:okT u.time=true<;>simp[h1,h2,h3]
theorem zat {u v:Int}:thenC u v=0↔u=0∧v=0:=by unfold thenC;split<;>omega
theorem za2 {l:List Update}:chkL l=0↔ ∀u∈l,okU u:=by
 induction l with
 |nil=>simp[chkL]
 |cons u l ih=>
  unfold chkL at*;rw[List.foldr_cons,zat,zp4,ih];simp
theorem zna (u v w:Int):thenC (thenC u v) w=thenC u (thenC v w):=by
 by_cases h1:u=0
 ·subst h1;rfl
 ·rw[zev h1,zev h1,zev h1]
theorem zb8 (a b:List Update):chkL (a++b)=thenC (chkL a) (chkL b):=by
 induction a with
 |nil=>simp[chkL,thenC]
 |cons u a ih=>
  unfold chkL at*;rw[List.cons_append,List.foldr_cons,List.foldr_cons,ih,zna]
theorem z8z {fuel:Nat}(hf:5<fuel)(l:List Update):z6o fuel l=some (chkL l):=by
 unfold z6o;rw[zap errU (fun x=>x)]
 ·show outK (if chkL l=0 then _ else some (.ret (chkL l))) _ _=_;split
  ·rename_i h;rw[h];rfl
  ·rfl
 ·intro i hi;rw[zft,zft,zem hf];simp only[zz0,zsf,z4q,z0b];rfl
theorem zfo (l:List Update):z54 l=some (chkL l):=by
 unfold z54;rw[zap errU (fun x=>x)]
 ·show outK (if chkL l=0 then _ else some (.ret (chkL l))) _ _=_;split
  ·rename_i h;rw[h];rfl
  ·rfl
 ·intro i hi;simp only[List.length_cons,List.length_nil,zz4,Nat.reduceAdd,z0c,List.getD_cons_zero,List.getD_cons_succ,zn2,zc0,zz0,z4q,z0b];generalize l.getD i zzd=u;unfold errU thenC;by_cases h1:okRow u.key=true<;>by_cases h2:okRow u.row=true<;>by_cases h3:okT u.time=true<;>simp[h1,h2,h3,outK]
theorem zdl {fuel:Nat}{a b:Update}(h1:a.key.length<fuel)(h2:a.row.length<fuel)(h3:a.key.length≤maxN)(h4:a.row.length≤maxN):z2f fuel a b=some (cU a b):=by
 unfold z2f cU thenC;simp only[zcb _ _ h1 h3,zcb _ _ h2 h4,zfp,zz0,jn_eq,z0b];by_cases e1:cmpL cmpV a.key b.key=0
 ·rw[if_pos e1,if_pos e1];by_cases e2:cmpL cmpV a.row b.row=0
  ·rw[if_pos e2,if_pos e2]
  ·rw[if_neg e2,if_neg e2]
 ·rw[if_neg e1,if_neg e1,if_neg e1]
theorem zrh {a b:Update}(ha:okU a)(hb:okU b)(h:cU a b=0)(hd:a.diff=b.diff):a=b:=by
 unfold cU at h;rw[zat,zat,zcp (za9 ha.1).1 (za9 hb.1).1,zcp (za9 ha.2.1).1 (za9 hb.2.1).1,zox]at h;rcases a with⟨k,r,t,d⟩;rcases b with⟨k',r',t',d'⟩;obtain⟨e1,e2,e3⟩:=h;simp only at e1 e2 e3 hd;rw[e1,e2,e3,hd]
theorem zj8 {p:List Value}(h:p.length≤8):z4r p=some p:=by
 unfold z4r;rw[z07 (by omega)]
theorem zli {p:List Value}(h:p.length≤8):z16 p=some p:=by
 unfold z16;rw[z07 (by omega)]
theorem zh7 {u:Update}(h:okU u):u.key.length≤8∧u.row.length≤8:=⟨(za9 h.1).2,(za9 h.2.1).2⟩
theorem zgo {l:List Update}(h: ∀u∈l,okU u)(hn:l.length≤4000000):z1d l=some l:=by
 unfold z1d;rw[z3m l (fun i a=>a=l.take i) (fun s hs=>by rw[hs,List.take_length])]
 ·rfl
 ·intro i a hi ha;obtain⟨h1,h2⟩:=zh7 (h _ (z25 hi));refine⟨_,?_,rfl⟩;rw[zj8 h1,zj8 h2];simp only[zz0];rw[z07 (by rw[ha,zzh];simp;omega),ha,z27 hi]
 ·rfl
theorem zmd {X:Type}[Inhabited X]{l:List X}{i:Nat}(h:i<l.length):l.set i (l.getD i zzd)=l:=by
 rw[List.getD_eq_getElem?_getD,List.getElem?_eq_getElem h];exact List.set_getElem_self h
theorem zd3 {l:List Update}(h: ∀u∈l,okU u)(hn:l.length≤4000000):z80 l=some l:=by
 unfold z80;have hlim:(l.length:Int)≤(lim:Int):=by simp only[lim];omega
 rw[z07 ⟨by omega,by omega,hlim⟩,z07 (by simp)];have e:copyL (zz8 l.length ((⟨([]:List Value),([]:List Value),(⟨0,(0,0)⟩:Time),0⟩:Update):Update)) l=l:=by
  unfold copyL;rw[zzk (by simp)];simp
 rw[e];rw[z3m l (fun i a=>a=l) (fun s hs=>hs)]
 ·rfl
 ·intro i a hi ha;subst ha;obtain⟨h1,h2⟩:=zh7 (h _ (z25 hi));refine⟨_,?_,rfl⟩;have e1:(⟨(a.getD i zzd).key,(a.getD i zzd).row,(a.getD i zzd).time,(a.getD i zzd).diff⟩:Update)=a.getD i zzd:=rfl
  simp only[zz4];rw[z07 (by omega),z07 hi,zli h1];simp only[zz0];rw[z07 (by omega),z07 hi,zli h2];simp only[zz0];rw[z07 (by omega),z07 hi,z07 (by omega),z07 (by simp;exact hi),e1,zmd hi,e1,zmd hi]
 ·rfl
end Go.Av
namespace Go.Av
open Go
section
variable {α:Type} [Inhabited α]
def growG (z:α)(p1:Int):Option (List α):=
 bf (decide (p1<0)) (none) (jn (fun(a1:List α)=>some a1) fun j2=>bf (decide (0<(zzi.wrap (p1-(zzi.wrap ((0:Int)-0)))))) (need ((0:Int)<(zzi.wrap (p1-(zzi.wrap ((0:Int)-0))))∧(zzi.wrap (p1-(zzi.wrap ((0:Int)-0))))≤(lim:Int))<|need ((0:Int)≤0∧(0:Int)≤0∧(0:Int)≤((zz8 ((zzi.wrap (p1-(zzi.wrap ((0:Int)-0)))).toNat) z).length:Int))<|j2 ((zz8 ((zzi.wrap (p1-(zzi.wrap ((0:Int)-0)))).toNat) z).take 0)) (j2 ([]:List α)))
def concG (z:α)(p0:List (List α)):Option (List α):=
 outK (z0c (S:=Int) (R:=Empty) (fun i1 (a2:Int)=>bf (decide ((zzi.wrap (a2+((p0.getD i1 zzd).length:Int)))<0)) (none) (some (.next (zzi.wrap (a2+((p0.getD i1 zzd).length:Int)))))) p0.length 0 0) (fun(a3:Int)=>(growG z a3).bind fun r4=>outK (z0c (S:=List α) (R:=Empty) (fun i5 (a6:List α)=>need (a6.length+(p0.getD i5 zzd).length≤274877906944)<|some (.next (a6++(p0.getD i5 zzd)))) p0.length 0 r4) (fun(a7:List α)=>some a7) (fun(x:Empty)=>x.elim)) (fun(x:Empty)=>x.elim)
theorem zdq {l:List (List α)}{i:Nat}(h:i<l.length):(l.take (i+1)).flatten=(l.take i).flatten++l.getD i zzd:=by
 rw[z27 h];simp
theorem zis {l:List (List α)}{i:Nat}(h:i<l.length):l.flatten=(l.take i).flatten++(l.getD i zzd++(l.drop (i+1)).flatten):=by
 have e:l=l.take i++l.getD i zzd::l.drop (i+1):=by rw[←z1e h,List.take_append_drop]
 have e2:=congrArg List.flatten e;rw[List.flatten_append,List.flatten_cons]at e2;exact e2
theorem zjv {l:List (List α)}{i:Nat}(h:i<l.length):(l.take i).flatten.length+(l.getD i zzd).length≤l.flatten.length:=by
 have:=congrArg List.length (zis h);simp only[zzo]at this;omega
theorem zqh {z:α}{n:Nat}(hn:n≤4000000):growG z (n:Int)=some []:=by
 unfold growG;have e:zzi.wrap ((n:Int)-zzi.wrap ((0:Int)-0))=(n:Int):=by
  rw[show zzi.wrap ((0:Int)-0)=0 by rfl,z2b (by omega) (by omega)];omega
 rw[e];simp only[z0b,jn_eq];rw[if_neg (by omega)];split
 ·rw[z07 (by simp only[lim];omega),z07 (by simp)];simp
 ·rfl
theorem zlk {z:α}{p0:List (List α)}(hn:p0.flatten.length≤4000000):concG z p0=some p0.flatten:=by
 unfold concG;have h1:=fun B h=>z3m (R:=Empty) (B:=B) (n:=p0.length) (s:=(0:Int)) ((p0.flatten.length:Nat):Int) (fun i a=>a=(((p0.take i).flatten.length:Nat):Int)) (fun s hs=>by rw[hs,List.take_length]) h (by rfl)
 rw[h1]
 ·simp only[z2k,zqh hn,zz0];rw[z3m p0.flatten (fun i a=>a=(p0.take i).flatten) (fun s hs=>by rw[hs,List.take_length])]
  ·rfl
  ·intro i a hi ha;refine⟨_,?_,rfl⟩;have:=zjv hi
   rw[z07 (by rw[ha];omega),ha,zdq hi]
  ·rfl
 ·intro i a hi ha;have:=zjv hi
  refine⟨_,?_,rfl⟩;rw[ha,wadd (by omega),zdq hi,zzo];simp only[z0b];rw[if_neg (by omega)]
theorem zrp {cmp:α→α→Option Int}{c:α→α→Int}{num:α→Int}{fuel:Nat}{l:List α}(hC:IsCmp c)(hc: ∀x∈l,∀y∈l,cmp x y=some (c x y))(hn:l.length≤4000000)(hf:l.length<fuel)(hl: ∀x∈l,in64 (num x))
 {B:Nat→(List α)×(List Wide)→Option (Ctl ((List α)×(List Wide)) Empty)} (hB: ∀i a,i<l.length→B i a=zh6 cmp num fuel a (l.getD i zzd)):
 ∃a,z0c B l.length 0 ([],[])=some (.done a)∧ ∃S,relS a S∧SS c (PR num l) S∧S.length≤l.length:=by
 have:=zaq (B:=B) (n:=l.length) (fun i a=> ∃S,relS a S∧SS c (PR num (l.take i)) S∧S.length≤i) (s:=([],[])) ⟨[],⟨rfl,.nil⟩,zpx,zzc _⟩ (by
  rintro i a hi ⟨S,k1,k2,k3⟩;have hm: ∀p∈S,p.1∈l:=fun p hp=>by
   obtain⟨y,g1,g2⟩:=k2.mem p hp;obtain⟨z,g3,g4⟩:=zbe.1 g1;rw[←g2,←g4];exact List.mem_of_mem_take g3
  obtain⟨a',S',g1,g2,g3,g4⟩:=zoa (fuel:=fuel) (num:=num) hC (x:=l.getD i zzd) (fun p hp=>hc _ (hm p hp) _ (z25 hi)) k2 k1 (by omega) (by omega) (hl _ (z25 hi)) (fun p hp=>by
   rw[k2.sum p hp];have:=zi8 (c:=c) (y:=p.1) (l:=PR num (l.take i)) (fun p hp=>by
    obtain⟨z,g1,g2⟩:=zbe.1 hp;rw[←g2];exact hl z (List.mem_of_mem_take g1))
   have e:(PR num (l.take i)).length=i:=by simp[PR];omega
   rw[e]at this;omega)
  refine⟨a',by rw[hB i a hi,g1],S',g2,?_,by omega⟩;rw[z27 hi,zk5];exact g3)
 simpa only[List.take_length]using this
theorem zrn {put:α→Int→α}{l S:List (α×Int)}{n:Nat}(hSn:n=S.length){B:Nat→List α→Option (Ctl (List α) ((List α)×Int))}
 (hB: ∀i b,i<S.length→b.length≤i→in64 (S.getD i zzd).2→B i b=some (.next (if(S.getD i zzd).2=0 then b else b++[put (S.getD i zzd).1 (S.getD i zzd).2])))
 (hB2: ∀i b,i<S.length→ ¬in64 (S.getD i zzd).2→B i b=some (.ret ([],10))):
 (z0c B n 0 []=some (.done (left0 put S))∧ ∀p∈S,in64 p.2)∨(z0c B n 0 []=some (.ret ([],10))∧ ¬ ∀p∈S,in64 p.2):=by
 subst hSn;rcases zho (B:=B) (n:=S.length) (fun i (b:List α)=>(∀j,j<i→in64 (S.getD j zzd).2)∧b=left0 put (S.take i)) (fun b=>(∀j,j<S.length→in64 (S.getD j zzd).2)∧b=left0 put S) (fun r=>r=([],10)∧ ∃j,j<S.length∧ ¬in64 (S.getD j zzd).2) (s:=[]) ⟨fun j hj=>by omega,rfl⟩ (by
  rintro i b hi ⟨m1,m2⟩;have hlb:b.length≤i:=by
   rw[m2];have:=zdi put (S.take i);rw[zzh]at this;omega
  by_cases g:in64 (S.getD i zzd).2
  ·left;rw[hB i b hi hlb g];refine⟨_,rfl,fun j hj=>?_,?_⟩
   ·by_cases e:j=i
    ·subst e;exact g
    ·exact m1 j (by omega)
   ·rw[z27 hi,zkl,zkm,←m2];split<;>simp
  ·right;right;rw[hB2 i b hi g];exact⟨_,rfl,rfl,i,hi,g⟩) (fun b hb=>by rw[List.take_length]at hb;exact hb)with⟨b,g1,g2,g3⟩|⟨r,g1,g2,j,g3,g4⟩
 ·left;refine⟨by rw[g1,g3],fun p hp=>?_⟩;obtain⟨j,hj,e⟩:=List.mem_iff_getElem.1 hp;have:=g2 j hj
  rw[List.getD_eq_getElem?_getD,List.getElem?_eq_getElem hj]at this;rw[←e];exact this
 ·right;exact⟨by rw[g1,g2],fun h=>g4 (h _ (z25 g3))⟩
end
end Go.Av
namespace Go.Av
open Go
abbrev pU (l:List Update):List (Update×Int):=PR (fun x=>x.diff) l
abbrev pK (l:List Count):List (Count×Int):=PR (fun x=>x.n) l
abbrev TotU (l:List Update)(R:List Update)(e:Int):Prop:=Tot cU (fun x=>x.diff) z3z (pU l) R e
abbrev TotK (l:List Count)(R:List Count)(e:Int):Prop:=Tot cK (fun x=>x.n) zqz (pK l) R e
theorem zff {l R:List Update}{e:Int}(h:TotU l R e)(ho: ∀u∈l,okU u): ∀r∈R,okU r:=fun r hr=>by
 rcases h with⟨_,h,_⟩|⟨_,rfl,_⟩
 ·obtain⟨y,h1,h2⟩:=h.mem r hr;obtain⟨z,h3,h4⟩:=zbe.1 h1;rw[h2,←h4];exact ho z h3
 ·cases hr
def ze2 (l R:List Update)(e:Int):Prop:=(chkL l≠0∧R=[]∧e=chkL l)∨(chkL l=0∧TotU l R e)
theorem zit: ∀ls:List (List Update),ls.foldr (fun x v=>thenC (chkL x) v) 0=chkL ls.flatten
 |[]=>rfl
 |l::ls=>by rw[List.foldr_cons,List.flatten_cons,zb8,zit ls]
theorem zrk {fuel:Nat}{ls:List (List Update)}(hf:20000000≤fuel)(hn:ls.flatten.length≤4000000)(hd: ∀u∈ls.flatten,in64 u.diff):
 ∃R e,z73 fuel ls=some (R,e)∧ze2 ls.flatten R e∧R.length≤ls.flatten.length:=by
 unfold z73;rw[zap chkL (fun w=>(([]:List Update),w)),zit]
 ·by_cases h:chkL ls.flatten=0
  ·rw[if_pos h];simp only[z2k];rw[show z10 ls=some ls.flatten from zlk hn];simp only[zz0];have ho:=za2.1 h
   obtain⟨R,e,l',h1,h2,h3⟩:=znc (fuel:=fuel) hd (fun u hu=>(zh7 (ho u hu)).2) hn hf;rw[h1];simp only[zz0];rw[zd3 (zff h2 ho) (by omega)];exact⟨R,e,rfl,.inr ⟨h,h2⟩,h3⟩
  ·rw[if_neg h];exact⟨_,_,rfl,.inl ⟨h,rfl,rfl⟩,Nat.zero_le _⟩
 ·intro i hi;rw[z8z (by omega)];simp only[zz0,z4q,z0b]
theorem zoi {fuel:Nat}{ls:List (List Update)}(hf:20000000≤fuel)(hn:ls.flatten.length≤4000000)(hd: ∀u∈ls.flatten,in64 u.diff):
 ∃R e,z3g fuel ls=some (R,e)∧ze2 ls.flatten R e:=by
 unfold z3g
 let G:Option ((List Update)×Int)→Prop:=fun q=> ∃R e,q=some (R,e)∧ze2 ls.flatten R e
 refine z9x (G:=G) (fun i a=>a=(ls.take i).flatten∧chkL (ls.take i).flatten=0) (fun a=>a=ls.flatten∧chkL ls.flatten=0) (fun r=>r=([],chkL ls.flatten)∧chkL ls.flatten≠0) ⟨rfl,rfl⟩ (fun a h=>by rw[List.take_length]at h;exact h) ?_ ?_ ?_
 ·rintro a ⟨rfl,h⟩;have ho:=za2.1 h
  obtain⟨a,h1,S,h2,h3,h4⟩:=zrp (cmp:=fun x y=>z2f fuel x y) (num:=fun x:Update=>x.diff) (l:=ls.flatten) (fuel:=fuel) cU_is (fun x hx y hy=>by
   have:=zh7 (ho x hx);exact zdl (by omega) (by omega) (by unfold maxN;omega) (by unfold maxN;omega)) hn (by omega) hd
   (B:=fun i a5=>need ((0+i)<ls.flatten.length)<|zh6 (fun x y=>z2f fuel x y) (fun x:Update=>x.diff) fuel a5 (ls.flatten.getD (0+i) zzd)) (fun i a hi=>by
    rw[zz4,z07 hi])
  refine zan (G:=G) (P:=fun s=>s=a) ⟨a,h1,rfl⟩ ?_;rintro⟨a1,a2⟩ rfl;obtain⟨r1,r2⟩:=h2;simp only at r1 r2;subst r1;have hmem: ∀p∈S,∃u∈ls.flatten,u=p.1:=fun p hp=>by
   obtain⟨y,g1,g2⟩:=h3.mem p hp;obtain⟨z,g3,g4⟩:=zbe.1 g1;exact⟨z,g3,by rw[←g2,←g4]⟩
  have hget: ∀i,i<S.length→(S.map (·.1)).getD i zzd=(S.getD i zzd).1:=fun i hi=>by
   simp[List.getD_eq_getElem?_getD,List.getElem?_eq_getElem hi]
  have hget2: ∀i,i<S.length→(S.map (·.2)).getD i zzd=(S.getD i zzd).2:=fun i hi=>by
   simp[List.getD_eq_getElem?_getD,List.getElem?_eq_getElem hi]
  have hl2:a2.length=S.length:=by rw[r2.len];simp
  rcases zrn (put:=z3z) (l:=pU ls.flatten) (S:=S) (n:=(S.map (·.1)).length) (by simp) (B:=fun i7 (a8:List Update)=>need ((0+i7)<(S.map (·.1)).length)<|need ((0:Int)≤((i7:Nat):Int)∧((i7:Nat):Int)<(a2.length:Int))<|need ((0+i7)<a2.length)<|(z2r (a2.getD (0+i7) zzd)).bind fun r14=>bf (!decide (r14.2=0)) (some (.ret (([]:List Update),r14.2))) (bf (!decide (r14.1=0)) (need (a8.length+([(⟨((S.map (·.1)).getD (0+i7) zzd).key,((S.map (·.1)).getD (0+i7) zzd).row,((S.map (·.1)).getD (0+i7) zzd).time,r14.1⟩:Update)]:List Update).length≤274877906944)<|some (.next (a8++([(⟨((S.map (·.1)).getD (0+i7) zzd).key,((S.map (·.1)).getD (0+i7) zzd).row,((S.map (·.1)).getD (0+i7) zzd).time,r14.1⟩:Update)]:List Update)))) (some (.next a8))))
   (fun i b hi hb g=>by
    have hw:=r2.get (i:=i) (by simpa using hi);rw[hget2 i hi]at hw;simp only[zz4];rw[z07 (by simpa using hi),z07 (by omega),z07 (by omega),zmn hw,zf3 g,hget i hi];simp only[zz0,z4q,z0b,if_true];by_cases g2:(S.getD i zzd).2=0
    ·rw[if_pos g2,if_pos g2]
    ·rw[if_neg g2,if_neg g2,z07 (by simp;omega)];rfl)
   (fun i b hi g=>by
    have hw:=r2.get (i:=i) (by simpa using hi);rw[hget2 i hi]at hw;simp only[zz4];rw[z07 (by simpa using hi),z07 (by omega),z07 (by omega),zmn hw,zdf g];rfl)with⟨g1,g2⟩|⟨g1,g2⟩
  ·rw[←zha cU_is h3]at g2;have hT:TotU ls.flatten (left0 z3z S) 0:= .inl ⟨rfl,zpo (num:=fun x=>x.diff) (put:=z3z) cU_is (fun x n=>rfl) (fun x n y=>rfl) h3,g2⟩
   simp only;rw[g1];simp only[z2k];rw[zgo (zff hT ho) (by have:=zdi z3z S;omega)];exact⟨_,_,rfl,.inr ⟨h,hT⟩⟩
  ·rw[←zha cU_is h3]at g2;simp only;rw[g1];exact⟨_,_,rfl,.inr ⟨h,.inr ⟨rfl,rfl,g2⟩⟩⟩
 ·rintro r ⟨rfl,h⟩;exact⟨_,_,rfl,.inl ⟨h,rfl,rfl⟩⟩
 ·rintro i a hi ⟨rfl,h⟩;rw[zfo];simp only[zz0,z4q,z0b];by_cases g:chkL (ls.getD i zzd)=0
  ·left;have:=zjv hi
   rw[if_pos g,z07 (by omega)];exact⟨_,rfl,by rw[zdq hi],by rw[zdq hi,zb8,h,g];rfl⟩
  ·right;right;have e:chkL ls.flatten=chkL (ls.getD i zzd):=by rw[zis hi,zb8,zb8,h,znu,zev g]
   rw[if_neg g,e];exact⟨_,rfl,rfl,g⟩
end Go.Av
namespace Go.Av
open Go
theorem zps (l:List Update):z3y l l=some true:=by
 unfold z3y;rw[decide_eq_true rfl,zzj,z0l];rw[z3m () (fun _ _=>True) (fun _ _=>rfl)]
 ·rfl
 ·intro i a hi ha;refine⟨(),?_,trivial⟩;have e:z0s (l.getD i zzd).time (l.getD i zzd).time=true:=by simp[z0s]
  simp only[jn_eq,zpt,zz0,zzj,z0l,e,decide_true];rw[z07 (by omega),z07 (by omega),z07 (by omega),z07 (by omega)]
 ·trivial
theorem znb {l l' R R':List Update}{e e':Int}(h:TotU l R e)(h':TotU l' R' e')(ho: ∀u∈l,okU u)(ho': ∀u∈l',okU u)(hs: ∀y,sm cU (pU l) y=sm cU (pU l') y):R=R'∧e=e':=
 zoo cU_is h h' hs fun r hr r' hr' h1 h2=>zrh (zff h ho r hr) (zff h' ho' r' hr') h1 h2
theorem zms {l R R':List Update}{e e':Int}(h:ze2 l R e)(h':ze2 l R' e'):R=R'∧e=e':=by
 rcases h with⟨h1,rfl,rfl⟩|⟨h1,h2⟩
 ·rcases h' with⟨_,rfl,rfl⟩|⟨g1,_⟩
  ·exact⟨rfl,rfl⟩
  ·exact absurd g1 h1
 ·rcases h' with⟨g1,_⟩|⟨_,g2⟩
  ·exact absurd h1 g1
  ·exact znb h2 g2 (za2.1 h1) (za2.1 h1) fun _=>rfl
def z5r (u:Update):Prop:=u.key.length≤2000000∧u.row.length≤2000000
theorem zqc {fuel:Nat}{a b:Update}(hf:20000000≤fuel)(h:z5r a):z2f fuel a b=some (cU a b):=
 zdl (by have:=h.1;omega) (by have:=h.2;omega) (by have:=h.1;unfold maxN;omega) (by have:=h.2;unfold maxN;omega)
theorem zrm {fuel:Nat}{l:List Update}(hf:20000000≤fuel)(hn:l.length≤4000000)(hk: ∀u∈l,z5r u): ∃b,z5n fuel l=some b∧z2x fuel l=some b:=by
 have e:z2x fuel l=z5n fuel l:=by
  unfold z2x z5n;rw[zfo,z8z (by omega)];congr 1;refine zm5 fun i s hi=>?_;simp only[jn_eq,z0b];split
  ·rfl
  ·by_cases g:0<((i:Nat):Int)
   ·rw[if_pos g,if_pos g,wsub1 (by omega) (by omega),z07 (by omega),z07 (by omega),z8y,zqc hf (hk _ (z25 (by rw[zz1];omega)))]
   ·rw[if_neg g,if_neg g]
 have hs: ∃b,z5n fuel l=some b:=by
  unfold z5n;rw[z8z (by omega)];refine z9x (G:=fun q=> ∃b,q=some b) (fun _ _=>True) (fun _=>True) (fun _=>True) trivial (fun _ _=>trivial) (fun s _=>⟨_,rfl⟩) (fun r _=>⟨_,rfl⟩) ?_;intro i s hi _;simp only[jn_eq,z0b];by_cases h0:(l.getD i zzd).diff=0
  ·rw[if_pos h0];exact .inr (.inr ⟨_,rfl,trivial⟩)
  ·rw[if_neg h0];by_cases g:0<((i:Nat):Int)
   ·rw[if_pos g,wsub1 (by omega) (by omega),z07 (by omega),z8y];simp only[zz0,z0b];split
    ·exact .inr (.inr ⟨_,rfl,trivial⟩)
    ·exact .inl ⟨_,rfl,trivial⟩
   ·rw[if_neg g];exact .inl ⟨_,rfl,trivial⟩
 obtain⟨b,hb⟩:=hs;exact⟨b,hb,e.trans hb⟩
end Go.Av
namespace Go.Av
open Go
def glb2 (a x:Time):Time:=⟨if x.epoch<a.epoch then x.epoch else a.epoch,(if x.loop.1<a.loop.1 then x.loop.1 else a.loop.1,if x.loop.2<a.loop.2 then x.loop.2 else a.loop.2)⟩
def glbL:List Time→Time
 |[]=>zeroT
 |x::l=>l.foldl glb2 x
theorem zdt (a:Time):z0s a a=true:=by simp[z0s]
theorem zhl {l:List Time}(h:l≠[])(x:Time):glbL (l++[x])=glb2 (glbL l) x:=by
 cases l with
 |nil=>exact absurd rfl h
 |cons y l=>simp[glbL,List.foldl_append]
theorem zlq (l:List Time):z66 l=some (glbL l):=by
 unfold z66;rw[z3m (glbL l) (fun i a=>a=glbL (l.take i)) (fun s h=>by rw[h,List.take_length])]
 ·rfl
 ·intro i a hi ha;refine⟨_,?_,rfl⟩;rw[z27 hi];simp only[jn_eq,z0c,z86,zz0,z0b];rcases Nat.eq_zero_or_pos i with h0|h0
  ·subst h0;generalize l.getD 0 zzd=x at*;simp[outK,glbL]
  ·rw[if_neg (by omega),zhl (by intro h;have h2:=congrArg List.length h;rw[zzh]at h2;simp only[List.length_nil]at h2;omega),←ha];generalize l.getD i zzd=x at*;simp[outK,glb2]
 ·rfl
theorem mn_eq (a b:Int):(if b<a then b else a)=min a b:=by split<;>omega
theorem zqj {a b:Time}(h:leT a b=true)(g:leT b a=true):z0s a b=true:=by
 simp only[leT,z0s,Bool.and_eq_true,decide_eq_true_eq,Bool.and_true]at*;omega
end Go.Av
namespace Go.Av
open Go
def ltT (x y:Time):Bool:=decide (cmpT x y<0)
theorem zl5 {a fuel:Nat}{B:Int×List Time→Option (Ctl (Int×List Time) Empty)}{j:Nat}{d:Array Time}(hj:j<d.size)(hf:j<fuel)
 (hB: ∀(j:Nat) (d':Array Time),j<d'.size→d'.size=d.size→B ((j:Int),d'.toList)=if a<j∧ltT d'[j]! d'[j-1]! =true then some (.next (((j-1:Nat):Int),(Sort.swp d' j (j-1)).toList))else some (.brk ((j:Int),d'.toList))):
 ∃x:Int,loopN B fuel ((j:Int),d.toList)=some (.done (x,(Sort.insInner ltT a j d).toList)):=by
 induction j generalizing d fuel with
 |zero=>
  cases fuel with
  |zero=>omega
  |succ fuel=>
   refine⟨0,z11 (s':=(((0:Nat):Int),d.toList)) ?_⟩;rw[hB 0 d hj rfl,if_neg (by omega)]
 |succ j ih=>
  cases fuel with
  |zero=>omega
  |succ fuel=>
   have h:=hB (j+1) d hj rfl;rw[Nat.add_sub_cancel]at h;unfold Sort.insInner;by_cases hc:a<j+1∧ltT d[j+1]! d[j]! =true
   ·rw[if_pos hc]at h;rw[z1i h,if_pos (by simp[hc.1,hc.2])];exact ih (by rw[z1f];omega) (by omega) (fun k d' h1 h2=>hB k d' h1 (by rw[h2,z1f]))
   ·rw[if_neg hc]at h;rw[z11 h,if_neg (by simpa using hc)];exact⟨_,rfl⟩
theorem zl6 {a b fuel:Nat}{B:Int×List Time→Option (Ctl (Int×List Time) Empty)}{n i:Nat}{d:Array Time}(hn:b-i=n)(hb:b≤d.size)(hf:b-i<fuel)
 (hB: ∀(i:Nat) (d':Array Time),d'.size=d.size→B ((i:Int),d'.toList)=if i<b then some (.next (((i+1:Nat):Int),(Sort.insInner ltT a i d').toList))else some (.brk ((i:Int),d'.toList)))
 (hs: ∀(i:Nat) (d':Array Time),(Sort.insInner ltT a i d').size=d'.size):
 ∃x:Int,loopN B fuel ((i:Int),d.toList)=some (.done (x,(Sort.insOuter ltT a b i d).toList)):=by
 induction n generalizing i d fuel with
 |zero=>
  cases fuel with
  |zero=>omega
  |succ fuel=>
   have h:=hB i d rfl;rw[if_neg (by omega)]at h;rw[z11 h,Sort.insOuter,if_neg (by omega)];exact⟨_,rfl⟩
 |succ n ih=>
  cases fuel with
  |zero=>omega
  |succ fuel=>
   have h:=hB i d rfl;rw[if_pos (by omega)]at h;rw[z1i h,Sort.insOuter,if_pos (by omega)];exact ih (by omega) (by rw[hs];omega) (by omega) (fun k d' h1=>hB k d' (by rw[h1,hs]))
theorem zdy (a:Nat): ∀(j:Nat) (d:Array Time),(Sort.insInner ltT a j d).size=d.size
 |0,d=>rfl
 |j+1,d=>by
  unfold Sort.insInner;split
  ·rw[zdy a j,z1f]
  ·rfl
theorem zls {fuel a b:Nat}{d:Array Time}(hb:b≤d.size)(hd:d.size<4611686018427387904)(ha:a<4611686018427387903)(hf:d.size<fuel):
 z1l fuel (a:Int) (b:Int) d.toList=some (Sort.insertionSort ltT d a b).toList:=by
 unfold z1l Sort.insertionSort;rw[wadd1 (by omega)];refine z87 (zl6 (a:=a) (b:=b) (i:=a+1) (d:=d) rfl hb (by omega) ?_ (zdy a)) (fun x=>rfl);intro i d' hd';simp only[z0b,intlt];by_cases hi:i<b
 ·rw[if_pos hi,if_pos hi];refine z87 (zl5 (a:=a) (j:=i) (d:=d') (by omega) (by omega) ?_) (fun x=>?_)
  ·intro j e hj he;simp only[jn_eq,z0b,intlt];by_cases h1:a<j
   ·simp(disch:=omega) only[h1,if_true,wsub1,z07,zz1,zz4,zz2,zze,z33,zz0,z20,z3n,true_and];unfold ltT;by_cases h2:cmpT e[j]! e[j-1]! <0
    ·simp[h2]
    ·simp[h2]
   ·rw[if_neg h1,if_neg (fun h=>h1 h.1)];rfl
  ·rw[wadd1 (by omega)]
 ·rw[if_neg hi,if_neg hi]
end Go.Av
namespace Go.Av
open Go
theorem zn7 (hi first:Nat): ∀(n root:Nat) (d:Array Time),hi-root≤n→(Sort.siftDown ltT hi first root d).size=d.size:=by
 intro n;induction n with
 |zero=>
  intro root d hn;rw[Sort.siftDown,dif_pos (by omega)]
 |succ n ih=>
  intro root d hn;rw[Sort.siftDown];split
  ·rfl
  ·split
   ·split
    ·rfl
    ·split
     ·rw[ih _ _ (by omega),z1f]
     ·rfl
   ·split
    ·rfl
    ·rw[ih _ _ (by omega),z1f]
def z82 (hi first root:Nat)(d:Array Time):Option Nat:=
 if 2*root+1≥hi then none else
  let c:=if 2*root+1+1<hi∧ltT d[first+(2*root+1)]! d[first+(2*root+1)+1]! =true then 2*root+2 else 2*root+1
  if ltT d[first+root]! d[first+c]! =true then some c else none
theorem zfr (hi first root:Nat)(d:Array Time):Sort.siftDown ltT hi first root d=match z82 hi first root d with
 |some c=>Sort.siftDown ltT hi first c (Sort.swp d (first+root) (first+c))
 |none=>d:=by
 rw[Sort.siftDown];unfold z82;by_cases h1:2*root+1≥hi
 ·rw[dif_pos h1,if_pos h1]
 ·rw[dif_neg h1,if_neg h1];by_cases h2:2*root+1+1<hi∧ltT d[first+(2*root+1)]! d[first+(2*root+1)+1]! =true
  ·rw[if_pos (by simpa using h2)];simp only[if_pos h2];by_cases h3:ltT d[first+root]! d[first+(2*root+2)]! =true
   ·rw[if_neg (by simp[h3]),dif_pos (by omega)];simp only[h3,if_true]
   ·rw[if_pos (by simpa using h3)];simp only[if_neg h3]
  ·rw[if_neg (by simpa using h2)];simp only[if_neg h2];by_cases h3:ltT d[first+root]! d[first+(2*root+1)]! =true
   ·rw[if_neg (by simp[h3])];simp only[h3,if_true]
   ·rw[if_pos (by simpa using h3)];simp only[if_neg h3]
theorem zn8 {hi first root c:Nat}{d:Array Time}(h:z82 hi first root d=some c):root<c∧c<hi:=by
 unfold z82 at h;split at h
 ·cases h
 ·dsimp only at h;generalize hc:(if 2*root+1+1<hi∧ltT d[first+(2*root+1)]! d[first+(2*root+1)+1]! =true then 2*root+2 else 2*root+1)=k at h;have hk:root<k∧k<hi:=by
   split at hc<;>omega
  split at h
  ·cases h;exact hk
  ·cases h
theorem zpu {hi first fuel:Nat}{B:Int×List Time→Option (Ctl (Int×List Time) (List Time))}{Q:Type}{kn:Int×List Time→Option Q}{kr:List Time→Option Q}{q:Option Q}{n root:Nat}{d:Array Time}
 (hn:hi-root≤n) (hf:n<fuel) (hsz:first+hi≤d.size)
 (hB: ∀(root:Nat) (d':Array Time),d'.size=d.size→root≤1152921504606846976→B ((root:Int),d'.toList)=if 2*root+1≥hi then some (.brk ((root:Int),d'.toList))else match z82 hi first root d' with
  |some c=>some (.next ((c:Int),(Sort.swp d' (first+root) (first+c)).toList))
  |none=>some (.ret d'.toList))
 (hr:root≤1152921504606846976) (hd:d.size≤1152921504606846976) (hkn: ∀x,kn (x,(Sort.siftDown ltT hi first root d).toList)=q) (hkr:kr (Sort.siftDown ltT hi first root d).toList=q):
 outK (loopN B fuel ((root:Int),d.toList)) kn kr=q:=by
 induction n generalizing root d fuel with
 |zero=>
  cases fuel with
  |zero=>omega
  |succ fuel=>
   have h:=hB root d rfl hr;have hs:=zfr hi first root d
   have e:z82 hi first root d=none:=by unfold z82;rw[if_pos (by omega)]
   rw[e]at hs;simp only at hs;rw[hs]at hkn hkr;rw[if_pos (by omega)]at h;rw[z11 h];exact hkn _
 |succ n ih=>
  cases fuel with
  |zero=>omega
  |succ fuel=>
   have h:=hB root d rfl hr;have hs:=zfr hi first root d
   cases e:z82 hi first root d with
   |none=>
    rw[e]at h hs;simp only at h hs;rw[hs]at hkn hkr;split at h
    ·rw[z11 h];exact hkn _
    ·rw[z8f h];exact hkr
   |some c=>
    have hc:=zn8 e;have hlt: ¬2*root+1≥hi:=fun hh=>by unfold z82 at e;rw[if_pos hh]at e;cases e
    rw[e]at h hs;rw[if_neg hlt]at h;simp only at h hs;rw[hs]at hkn hkr;rw[z1i h];exact ih (by omega) (by omega) (by rw[z1f];omega) (fun r d' h1 h2=>hB r d' (by rw[h1,z1f]) h2) (by omega) (by rw[z1f];omega) hkn hkr
theorem zht {fuel lo hi first:Nat}{d:Array Time}(hsz:first+hi≤d.size)(hd:d.size<1152921504606846976)(hlo:lo<1152921504606846976)(hf:d.size<fuel):
 z22 fuel (lo:Int) (hi:Int) (first:Int) d.toList=some (Sort.siftDown ltT hi first lo d).toList:=by
 unfold z22;refine zpu (hi:=hi) (first:=first) (n:=hi) (by omega) (by omega) hsz ?_ (by omega) (by omega) (fun x=>rfl) rfl;intro root e he hroot;have hw1:zzi.wrap (zzi.wrap ((2:Int)*(root:Int))+1)=((2*root+1:Nat):Int):=by rw[wtwo (by omega),wadd1 (by omega)]
 simp only[hw1,z0b,jn_eq];by_cases h1:2*root+1≥hi
 ·rw[if_pos h1,if_pos (by omega)]
 ·rw[if_neg h1,if_neg (by omega)];unfold z82;rw[if_neg h1];have hw2:zzi.wrap (((2*root+1:Nat):Int)+1)=((2*root+1+1:Nat):Int):=wadd1 (by omega)
  have hw3:zzi.wrap ((first:Int)+((2*root+1:Nat):Int))=((first+(2*root+1):Nat):Int):=wadd (by omega);have hw4:zzi.wrap (((first+(2*root+1):Nat):Int)+1)=((first+(2*root+1)+1:Nat):Int):=wadd1 (by omega)
  have hw5:zzi.wrap ((first:Int)+(root:Int))=((first+root:Nat):Int):=wadd (by omega);have hw6:zzi.wrap ((first:Int)+((2*root+1+1:Nat):Int))=((first+(2*root+2):Nat):Int):=by rw[wadd (by omega)]
  simp only[hw2,hw3,hw4,hw5,hw6,intlt,zz1,zz4];by_cases h2:2*root+1+1<hi
  ·rw[if_pos h2];simp(disch:=omega) only[z07,zz2,z33,zz0,z20];by_cases h3:cmpT e[first+(2*root+1)]! e[first+(2*root+1)+1]! <0
   ·have h4:2*root+1+1<hi∧ltT e[first+(2*root+1)]! e[first+(2*root+1)+1]! =true:=⟨h2,by unfold ltT;simp[h3]⟩;simp(disch:=omega) only[h3,if_true,if_pos h4,hw6,zz1,zz4,z07,zz2,zze,z33,zz0,z20,z3n];unfold ltT;by_cases h:cmpT e[first+root]! e[first+(2*root+2)]! <0
    ·simp[h];omega
    ·simp[h]
   ·have h4: ¬(2*root+1+1<hi∧ltT e[first+(2*root+1)]! e[first+(2*root+1)+1]! =true):=fun h=>h3 (by have:=h.2;unfold ltT at this;simpa using this);simp(disch:=omega) only[h3,if_false,if_neg h4,hw3,zz1,zz4,z07,zz2,zze,z33,zz0,z20,z3n];unfold ltT;by_cases h:cmpT e[first+root]! e[first+(2*root+1)]! <0
    ·simp[h]
    ·simp[h]
  ·rw[if_neg h2];have h4: ¬(2*root+1+1<hi∧ltT e[first+(2*root+1)]! e[first+(2*root+1)+1]! =true):=fun h=>h2 h.1;simp(disch:=omega) only[z0l,if_neg h4,hw3,zz1,zz4,z07,zz2,zze,z33,zz0,z20,z3n];unfold ltT;by_cases h:cmpT e[first+root]! e[first+(2*root+1)]! <0
   ·simp[h]
   ·simp[h]
end Go.Av
namespace Go.Av
open Go
theorem zck (hi first root:Nat)(d:Array Time):(Sort.siftDown ltT hi first root d).size=d.size:=zn7 hi first hi root d (by omega)
theorem zkc {B:Int×List Time→Option (Ctl (Int×List Time) Empty)}(g h:Nat→Array Time→Array Time){k k0 fuel:Nat}{d:Array Time}(hk:k≤k0)(hg: ∀k d,(g k d).size=d.size)(hf:k<fuel)
 (hB: ∀(k:Nat) (d':Array Time),k≤k0→d'.size=d.size→B ((k:Int)-1,d'.toList)=match k with|0=>some (.brk (-1,d'.toList))|k+1=>some (.next ((k:Int)-1,(g k d').toList)))
 (h0: ∀d,h 0 d=d) (h1: ∀k d,h (k+1) d=h k (g k d)):
 ∃x:Int,loopN B fuel ((k:Int)-1,d.toList)=some (.done (x,(h k d).toList)):=by
 induction k generalizing d fuel with
 |zero=>
  cases fuel with
  |zero=>omega
  |succ fuel=>exact⟨-1,by rw[z11 (hB 0 d hk rfl),h0]⟩
 |succ k ih=>
  cases fuel with
  |zero=>omega
  |succ fuel=>
   rw[z1i (hB (k+1) d hk rfl),h1];exact ih (by omega) (by omega) (fun k' d' h2 h=>hB k' d' h2 (by rw[h,hg]))
theorem zcw (hi first:Nat): ∀(k:Nat) (d:Array Time),(Sort.heapBuild ltT hi first k d).size=d.size
 |0,d=>rfl
 |k+1,d=>by unfold Sort.heapBuild;rw[zcw hi first k,zck]
theorem zmw {fuel a b:Nat}{d:Array Time}(hab:a<b)(hb:b≤d.size)(hd:d.size<1152921504606846976)(hf:d.size+2<fuel):
 z21 fuel (a:Int) (b:Int) d.toList=some (Sort.heapSort ltT d a b).toList:=by
 unfold z21 Sort.heapSort;have e0:zzi.wrap ((b:Int)-(a:Int))=((b-a:Nat):Int):=wsub (by omega) (by omega)
 have e1:zzi.wrap (((b-a:Nat):Int)-1)=(((b-a:Nat):Int)-1):=z2b (by omega) (by omega);have e2:zzi.wrap ((((b-a:Nat):Int)-1).tdiv 2)=(((b-a-1) / 2+1:Nat):Int)-1:=by
  rw[Int.tdiv_eq_ediv_of_nonneg (by omega),z2b (by omega) (by omega)];omega
 rw[e0,e1,e2];refine z87 (zkc (k0:=(b-a-1) / 2+1) (fun k d=>Sort.siftDown ltT (b-a) a k d) (fun k d=>Sort.heapBuild ltT (b-a) a k d) (zzc _) (fun k d=>zck _ _ _ _) (by omega) ?_ (fun d=>rfl) (fun k d=>rfl)) (fun x=>?_)
 ·intro k e hk he;simp only[z0b];cases k with
  |zero=>rw[if_neg (by omega)];rfl
  |succ k=>
   rw[if_pos (by omega),show((k+1:Nat):Int)-1=(k:Int)by omega,zht (by omega) (by omega) (by omega) (by omega),zz0];rw[z07 (by rw[zz2,zz2,zck]),z6y (by unfold in64;omega)]
 ·have hsz:=zcw (b-a) a ((b-a-1) / 2+1) d;simp only;generalize Sort.heapBuild ltT (b-a) a ((b-a-1) / 2+1) d=d1 at*;refine z87 (zkc (k0:=b-a) (fun k d=>Sort.siftDown ltT k a 0 (Sort.swp d a (a+k))) (fun k d=>Sort.heapPop ltT a k d) (zzc _) (fun k d=>by rw[zck,z1f]) (by omega) ?_ (fun d=>rfl) (fun k d=>rfl)) (fun x=>rfl);intro k e hk he;simp only[z0b];cases k with
  |zero=>rw[if_neg (by omega)];rfl
  |succ k=>
   rw[if_pos (by omega),show((k+1:Nat):Int)-1=(k:Int)by omega];have w1:zzi.wrap ((a:Int)+(k:Int))=((a+k:Nat):Int):=wadd (by omega);have w2:zzi.wrap ((k:Int)-1)=(k:Int)-1:=z6y (by unfold in64;omega)
   have hs:=zht (fuel:=fuel) (lo:=0) (hi:=k) (first:=a) (d:=Sort.swp e a (a+k)) (by rw[z1f];omega) (by rw[z1f];omega) (by omega) (by rw[z1f];omega);rw[show((0:Nat):Int)=0 from rfl]at hs;simp(disch:=omega) only[w1,w2,zz1,zz4,z07,zz2,zze,z20,z3n,hs,zz0,zck,z1f];rw[z07 trivial]
theorem zgn {a b s:Nat}{d:Array Time}(ha:a<d.size)(hb:b<d.size)(hs:s<1000):z1u d.toList (a:Int) (b:Int) (s:Int)=some (((Sort.order2 ltT d a b s).1:Int),((Sort.order2 ltT d a b s).2.1:Int),((Sort.order2 ltT d a b s).2.2:Int)):=by
 unfold z1u Sort.order2;simp(disch:=omega) only[zz1,z07,zz2,z33,zz0,z20,wadd1,z0b];unfold ltT;by_cases h:cmpT d[b]! d[a]! <0
 ·simp[h]
 ·simp[h]
theorem z9m {a b s:Nat}{d:Array Time}:((Sort.order2 ltT d a b s).1=a∧(Sort.order2 ltT d a b s).2.1=b∨(Sort.order2 ltT d a b s).1=b∧(Sort.order2 ltT d a b s).2.1=a)∧(Sort.order2 ltT d a b s).2.2≤s+1:=by
 unfold Sort.order2;split
 ·exact⟨.inr ⟨rfl,rfl⟩,zzc _⟩
 ·exact⟨.inl ⟨rfl,rfl⟩,Nat.le_succ _⟩
theorem zgm {a b c s:Nat}{d:Array Time}(ha:a<d.size)(hb:b<d.size)(hc:c<d.size)(hs:s<900):z1t d.toList (a:Int) (b:Int) (c:Int) (s:Int)=some (((Sort.median ltT d a b c s).1:Int),((Sort.median ltT d a b c s).2:Int)):=by
 unfold z1t;have m1:=z9m (a:=a) (b:=b) (s:=s) (d:=d)
 rw[zgn ha hb (by omega),zz0];have e:Sort.median ltT d a b c s=(let r2:=Sort.order2 ltT d (Sort.order2 ltT d a b s).2.1 c (Sort.order2 ltT d a b s).2.2;let r3:=Sort.order2 ltT d (Sort.order2 ltT d a b s).1 r2.1 r2.2.2;(r3.2.1,r3.2.2)):=rfl;rw[e];generalize Sort.order2 ltT d a b s=r1 at*;have m2:=z9m (a:=r1.2.1) (b:=c) (s:=r1.2.2) (d:=d)
 simp only;rw[zgn (by omega) hc (by omega),zz0];generalize Sort.order2 ltT d r1.2.1 c r1.2.2=r2 at*;simp only;rw[zgn (by omega) (by omega) (by omega),zz0]
theorem ziw {a b c s:Nat}{d:Array Time}:(Sort.median ltT d a b c s).2≤s+3:=by
 have e:Sort.median ltT d a b c s=(let r2:=Sort.order2 ltT d (Sort.order2 ltT d a b s).2.1 c (Sort.order2 ltT d a b s).2.2;let r3:=Sort.order2 ltT d (Sort.order2 ltT d a b s).1 r2.1 r2.2.2;(r3.2.1,r3.2.2)):=rfl;rw[e];have m1:=z9m (a:=a) (b:=b) (s:=s) (d:=d)
 generalize Sort.order2 ltT d a b s=r1 at*;have m2:=z9m (a:=r1.2.1) (b:=c) (s:=r1.2.2) (d:=d)
 simp only;generalize Sort.order2 ltT d r1.2.1 c r1.2.2=r2 at*;have m3:=z9m (a:=r1.1) (b:=r2.1) (s:=r2.2.2) (d:=d)
 omega
theorem z9i {a s:Nat}{d:Array Time}(h1:1≤a)(ha:a+1<d.size)(hd:d.size<1152921504606846976)(hs:s<900):z0j d.toList (a:Int) (s:Int)=some (((Sort.medianAdjacent ltT d a s).1:Int),((Sort.medianAdjacent ltT d a s).2:Int)):=by
 unfold z0j Sort.medianAdjacent;rw[wsub1 h1 (by omega),wadd1 (by omega),zgm (by omega) (by omega) ha hs,zz0]
def hintN:Sort.Hint→Int
 | .unknown=>0
 | .increasing=>1
 | .decreasing=>2
theorem z92 {a s:Nat}{d:Array Time}:(Sort.medianAdjacent ltT d a s).2≤s+3:=ziw
theorem     zry {Q : Type} {i j k : Nat} {d : Array Time} (hd : d.size < 1152921504606846976) (hi : 1 ≤ i ∧ i + 1 < d.size) (hj : 1 ≤ j ∧ j + 1 < d.size) (hk : 1 ≤ k ∧ k + 1 < d.size) {K : Int × Int → Option Q} {r1 r2 r3 : Nat × Nat}
    (h1 : Sort.medianAdjacent ltT d i 0 = r1) (h2 : Sort.medianAdjacent ltT d j r1.2 = r2) (h3 : Sort.medianAdjacent ltT d k r2.2 = r3) :
    ((                                         z0j d.toList (i : Int) 0).bind fun r6 => (                                         z0j d.toList (j : Int) r6.2).bind fun r7 => (                                         z0j d.toList (k : Int) r7.2).bind fun r8 => (                                 z1t d.toList r6.1 r7.1 r8.1 r8.2).bind K)
      = K (((Sort.median ltT d r1.1 r2.1 r3.1 r3.2).1 : Int), ((Sort.median ltT d r1.1 r2.1 r3.1 r3.2).2 : Int)) ∧ (Sort.median ltT d r1.1 r2.1 r3.1 r3.2).2 < 1000 := by
  have z : ((0 : Nat) : Int) = 0 := rfl
  have q1 :=               z9i (a := i) (s := 0) (d := d) hi.1 hi.2 hd (by omega)
  have c1 :=                z92 (a := i) (s := 0) (d := d)
  have p1 := Sort.medianAdjacent_mem ltT d i 0
  rw [z, h1] at q1
  rw [h1] at c1 p1
  have q2 :=               z9i (a := j) (s := r1.2) (d := d) hj.1 hj.2 hd (by omega)
  have c2 :=                z92 (a := j) (s := r1.2) (d := d)
  have p2 := Sort.medianAdjacent_mem ltT d j r1.2
  rw [h2] at q2 c2 p2
  have q3 :=               z9i (a := k) (s := r2.2) (d := d) hk.1 hk.2 hd (by omega)
  have c3 :=                z92 (a := k) (s := r2.2) (d := d)
  have p3 := Sort.medianAdjacent_mem ltT d k r2.2
  rw [h3] at q3 c3 p3
  have q4 :=       zgm (a := r1.1) (b := r2.1) (c := r3.1) (s := r3.2) (d := d) (by omega) (by omega) (by omega) (by omega)
  have c4 :=        ziw (a := r1.1) (b := r2.1) (c := r3.1) (s := r3.2) (d := d)
  rw [q1,              zz0]
  simp only
  rw [q2,              zz0]
  simp only
  rw [q3,              zz0]
  simp only
  rw [q4,              zz0]
  exact ⟨rfl, by omega⟩
theorem zi7 {r:Nat×Nat}:(if((r.2:Nat):Int)=0 then some (((r.1:Nat):Int),(1:Int))else if((r.2:Nat):Int)=12 then some (((r.1:Nat):Int),2)else some (((r.1:Nat):Int),0))=some (((r.1:Nat):Int),hintN (Sort.hintOf r.2)):=by
 unfold Sort.hintOf;by_cases h1:r.2=0
 ·rw[if_pos (by omega),if_pos h1];rfl
 ·rw[if_neg (by omega),if_neg h1];by_cases h2:r.2=12
  ·rw[if_pos (by omega),if_pos h2];rfl
  ·rw[if_neg (by omega),if_neg h2];rfl
theorem choosePivot_eq {a b:Nat}{d:Array Time}(hab:a<b)(hb:b≤d.size)(hd:d.size<1152921504606846976):
 z1x d.toList (a:Int) (b:Int)=some (((Sort.choosePivot ltT d a b).1:Int),hintN (Sort.choosePivot ltT d a b).2):=by
 unfold z1x;have e0:zzi.wrap ((b:Int)-(a:Int))=((b-a:Nat):Int):=wsub (by omega) (by omega)
 have e1:zzi.wrap (((b-a:Nat):Int).tdiv 4)=(((b-a) / 4:Nat):Int):=by rw[Int.tdiv_eq_ediv_of_nonneg (by omega),z2b (by omega) (by omega)];omega
 have m: ∀k:Nat,k≤3→zzi.wrap ((a:Int)+zzi.wrap ((((b-a) / 4:Nat):Int)*(k:Int)))=((a+(b-a) / 4*k:Nat):Int):=fun k hk=>by
  have h1:(b-a) / 4*k≤b-a:=Nat.le_trans (Nat.mul_le_mul_left _ hk) (by omega);have h2:(((b-a) / 4:Nat):Int)*(k:Int)=(((b-a) / 4*k:Nat):Int):=by rw[Int.natCast_mul]
  have h3:zzi.wrap (((b-a) / 4*k:Nat):Int)=(((b-a) / 4*k:Nat):Int):=z6y (by unfold in64;omega);rw[h2,h3,wadd (by omega)]
 have m1:=m 1 (by omega);have m2:=m 2 (by omega)
 have m3:=m 3 (by omega);rw[show((1:Nat):Int)=1 from rfl]at m1;rw[show((2:Nat):Int)=2 from rfl]at m2;rw[show((3:Nat):Int)=3 from rfl]at m3;simp only[e0,e1,m1,m2,m3,jn_eq,z0b];rw[Sort.choosePivot_eq];clear e0 e1 m m1 m2 m3;have hraw:Sort.rawPivot ltT d a b=if b-a≥8 then(if b-a≥50 then(Sort.median ltT d (Sort.medianAdjacent ltT d (a+(b-a) / 4*1) 0).1 (Sort.medianAdjacent ltT d (a+(b-a) / 4*2) (Sort.medianAdjacent ltT d (a+(b-a) / 4*1) 0).2).1 (Sort.medianAdjacent ltT d (a+(b-a) / 4*3) (Sort.medianAdjacent ltT d (a+(b-a) / 4*2) (Sort.medianAdjacent ltT d (a+(b-a) / 4*1) 0).2).2).1 (Sort.medianAdjacent ltT d (a+(b-a) / 4*3) (Sort.medianAdjacent ltT d (a+(b-a) / 4*2) (Sort.medianAdjacent ltT d (a+(b-a) / 4*1) 0).2).2).2)
  else(Sort.median ltT d (a+(b-a) / 4*1) (a+(b-a) / 4*2) (a+(b-a) / 4*3) 0))else(a+(b-a) / 4*2,0):=rfl
 rw[hraw];by_cases h8:b-a≥8
 ·rw[if_pos (by omega),if_pos h8];by_cases h50:b-a≥50
  ·rw[if_pos (by omega),if_pos h50];obtain⟨q,_⟩:=zry (d:=d) (i:=a+(b-a) / 4*1) (j:=a+(b-a) / 4*2) (k:=a+(b-a) / 4*3) (K:=fun(a1:Int×Int)=>if a1.2=0 then some (a1.1,(1:Int))else if a1.2=12 then some (a1.1,2)else some (a1.1,0)) hd (by omega) (by omega) (by omega) rfl rfl rfl;exact q.trans zi7
  ·rw[if_neg (by omega),if_neg h50];have z:((0:Nat):Int)=0:=rfl;have q1:=zgm (a:=a+(b-a) / 4*1) (b:=a+(b-a) / 4*2) (c:=a+(b-a) / 4*3) (s:=0) (d:=d) (by omega) (by omega) (by omega) (by omega)
   rw[z]at q1;simp only;rw[q1,zz0];exact zi7
 ·rw[if_neg (by omega),if_neg h8];exact zi7 (r:=(a+(b-a) / 4*2,0))
theorem zmc {B:Int×Int×List Time→Option (Ctl (Int×Int×List Time) Empty)}{n i j fuel:Nat}{d:Array Time}(hn:j-i≤n)(hf:n<fuel)(hj:j<d.size)
 (hB: ∀(i j:Nat) (d':Array Time),d'.size=d.size→j<d.size→B ((i:Int),(j:Int),d'.toList)=if i<j then some (.next (((i+1:Nat):Int),((j-1:Nat):Int),(Sort.swp d' i j).toList))else some (.brk ((i:Int),(j:Int),d'.toList))):
 ∃x y:Int,loopN B fuel ((i:Int),(j:Int),d.toList)=some (.done (x,y,(Sort.reverseLoop i j d).toList)):=by
 induction n generalizing i j d fuel with
 |zero=>
  cases fuel with
  |zero=>omega
  |succ fuel=>
   have h:=hB i j d rfl hj;rw[if_neg (by omega)]at h;rw[z11 h,Sort.reverseLoop,if_neg (by omega)];exact⟨_,_,rfl⟩
 |succ n ih=>
  cases fuel with
  |zero=>omega
  |succ fuel=>
   have h:=hB i j d rfl hj;by_cases hij:i<j
   ·rw[if_pos hij]at h;rw[z1i h,Sort.reverseLoop,if_pos hij];exact ih (by omega) (by omega) (by rw[z1f];omega) (fun i' j' d' h1 h2=>hB i' j' d' (by rw[h1,z1f]) (by rw[z1f]at h2;exact h2))
   ·rw[if_neg hij]at h;rw[z11 h,Sort.reverseLoop,if_neg hij];exact⟨_,_,rfl⟩
theorem zqu {X Y Z R Q:Type}{o:Option (Out (X×Y×Z) R)}{kn:X×Y×Z→Option Q}{kr:R→Option Q}{r:Z}{q:Option Q}(h: ∃(x:X) (y:Y),o=some (.done (x,y,r)))(hk: ∀x y,kn (x,y,r)=q):outK o kn kr=q:=by
 obtain⟨x,y,h⟩:=h;rw[h];exact hk x y
theorem zj9 {fuel a b:Nat}{d:Array Time}(hab:a<b)(hb:b≤d.size)(hd:d.size<1152921504606846976)(hf:d.size+2<fuel):
 z1r fuel (a:Int) (b:Int) d.toList=some (Sort.reverseRange d a b).toList:=by
 unfold z1r Sort.reverseRange;rw[wsub1 (by omega) (by omega)];refine zqu (zmc (n:=d.size) (by omega) (by omega) (by omega) ?_) (fun x y=>rfl);intro i j e he hj;simp only[z0b,intlt];by_cases hij:i<j
 ·rw[if_pos hij,if_pos hij];simp(disch:=omega) only[wsub1,wadd1,zz1,zz4,z07,zz2,zze,z20,z3n]
 ·rw[if_neg hij,if_neg hij]
end Go.Av
