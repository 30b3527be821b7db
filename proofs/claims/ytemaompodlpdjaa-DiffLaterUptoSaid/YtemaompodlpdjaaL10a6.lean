import Derived.Test.YtemaompodlpdjaaL10a5
import Derived.Test.YtemaompodlpdjaaProg
namespace Go.Av
open Go Go.Proofs
set_option linter.unusedVariables false
set_option linter.unusedSimpArgs false
set_option maxRecDepth 100000 in
theorem slices_symMergeCmpFunc_Count__diff_added_1_w_ok {fuel : Nat} {p1 : Int} {p2 : Int} {p3 : Int} {l0 : List Count} {q : List Count} (h : slices_symMergeCmpFunc_Count__diff_added_1_w fuel p1 p2 p3 l0 = some q) :
    Summ Try.prog 99 [.c (oC 5000 2 l0), cD (dI p1), cD (dI p2), cD (dI p3), cD (.fn 77 [])] [(5000, vL 2 encCount l0)] (.tup []) [(5000, vL 2 encCount q)] := by
  induction fuel generalizing p1 p2 p3 l0 q with
  | zero => rw [slices_symMergeCmpFunc_Count__diff_added_1_w.eq_1] at h; cases h
  | succ fuel ih =>
    refine Summ.intro Try.func99 rfl (by kernel_rfl) (by kernel_rfl) [] rfl ?_
    rintro ⟨P, w0, G0, V, LL, lk, N, φ0, fx⟩ rfl rfl rfl rfl
    rw [slices_symMergeCmpFunc_Count__diff_added_1_w.eq_2] at h
    refine Tri.seqS ?_
    refine Tri.segL [0, 1, 2, 3, 4, 28] [5000] ⟨[(0, .c (oC 5000 2 l0)), (1, cD (dI p1)), (2, cD (dI p2)), (3, cD (dI p3)), (4, cD (.fn 77 [])), (28, cD (.bool (decide ((IntKind.i64.wrap (p2 - p1)) = 1))))], [(5000, vL 2 encCount l0)]⟩ (allT 4) (by kernel_rfl) (allT_ok 4) ?_
    refine Tri.condP (b := (decide ((IntKind.i64.wrap (p2 - p1)) = 1))) rfl h (fun h => ?_) (fun h => ?_)
    ·refine Tri.segC [0, 1, 3, 4, 10] [5000] (allT 2) (by kernel_rfl) (by kernel_rfl) (allT_ok 2) ?_
     refine Tri.segC [0, 1, 4, 10, 11] [5000] (allT 2) (by kernel_rfl) (by kernel_rfl) (allT_ok 2) ?_
     refine Tri.seqS ?_
     refine Tri.keep [0, 1, 4, 10, 11] [5000] (s' := ⟨[(0, .c (oC 5000 2 l0)), (1, cD (dI p1)), (4, cD (.fn 77 [])), (10, cD (dI p2)), (11, cD (dI p3))], [(5000, vL 2 encCount l0)]⟩) (by kernel_rfl) ?_
     refine Tri.loopK (fuel := fuel) (st0 := (p2, p3)) (fun (x : Empty) s => False) (fun (a1 : Int × Int) => ⟨[(0, .c (oC 5000 2 l0)), (1, cD (dI p1)), (4, cD (.fn 77 [])), (10, cD (dI a1.1)), (11, cD (dI a1.2))], [(5000, vL 2 encCount l0)]⟩) (fun (a1 : Int × Int) => ⟨[(0, .c (oC 5000 2 l0)), (1, cD (dI p1)), (4, cD (.fn 77 [])), (10, cD (dI a1.1)), (11, cD (dI a1.2))], [(5000, vL 2 encCount l0)]⟩) h ?_ ?_ ?_
     ·intro a1 c h
      show Tri _ _ ⟨[(0, .c (oC 5000 2 l0)), (1, cD (dI p1)), (4, cD (.fn 77 [])), (10, cD (dI a1.1)), (11, cD (dI a1.2))], [(5000, vL 2 encCount l0)]⟩ _
      refine Tri.seqS ?_
      refine Tri.segL [0, 1, 4, 10, 11, 33] [5000] ⟨[(0, .c (oC 5000 2 l0)), (1, cD (dI p1)), (4, cD (.fn 77 [])), (10, cD (dI a1.1)), (11, cD (dI a1.2)), (33, cD (.bool (decide (a1.1 < a1.2))))], [(5000, vL 2 encCount l0)]⟩ (allT 3) (by kernel_rfl) (allT_ok 3) ?_
      refine Tri.condP (b := (decide (a1.1 < a1.2))) rfl h (fun h => ?_) (fun h => ?_)
      ·refine Tri.skip ?_
       show Tri _ _ _ _
       refine Tri.blockB ?_
       refine Tri.segL [0, 1, 4, 10, 11, 12] [5000] ⟨[(0, .c (oC 5000 2 l0)), (1, cD (dI p1)), (4, cD (.fn 77 [])), (10, cD (dI a1.1)), (11, cD (dI a1.2)), (12, cD (dI (IntKind.i64.wrap (shrOp .u64 (IntKind.u64.wrap (IntKind.i64.wrap (a1.1 + a1.2))) 1))))], [(5000, vL 2 encCount l0)]⟩ (True ∧ True ∧ True ∧ True ∧ ((0 : Int) ≤ 1) ∧ True ∧ True ∧ True) (by kernel_rfl) ⟨trivial, trivial, trivial, trivial, (by decide : (0 : Int) ≤ 1), trivial, trivial, trivial⟩ ?_
       refine Tri.seqS ?_
       obtain ⟨hc13, h⟩ := need_elim h
       obtain ⟨hc14, h⟩ := need_elim h
       obtain ⟨hc15, h⟩ := need_elim h
       obtain ⟨hc16, h⟩ := need_elim h
       obtain ⟨r17, hr17, h⟩ := bind_elim h
       refine Tri.drawnS (s' := ⟨[(0, .c (oC 5000 2 l0)), (1, cD (dI p1)), (4, cD (.fn 77 [])), (10, cD (dI a1.1)), (11, cD (dI a1.2)), (12, cD (dI (IntKind.i64.wrap (shrOp .u64 (IntKind.u64.wrap (IntKind.i64.wrap (a1.1 + a1.2))) 1)))), (50, cD (.bool (decide (r17 < 0))))], [(5000, vL 2 encCount l0)]⟩) (cs := True ∧ True ∧ True ∧ ((0 : Int) ≤ (IntKind.i64.wrap (shrOp .u64 (IntKind.u64.wrap (IntKind.i64.wrap (a1.1 + a1.2))) 1)) ∧ (IntKind.i64.wrap (shrOp .u64 (IntKind.u64.wrap (IntKind.i64.wrap (a1.1 + a1.2))) 1)) < (l0.length : Int)) ∧ ((0 + (IntKind.i64.wrap (shrOp .u64 (IntKind.u64.wrap (IntKind.i64.wrap (a1.1 + a1.2))) 1)).toNat) < l0.length) ∧ True ∧ True ∧ ((0 : Int) ≤ p1 ∧ p1 < (l0.length : Int)) ∧ ((0 + p1.toNat) < l0.length) ∧ True ∧ True) [.a [4] [], .a [0] [], .a [12] [], .a [41, 42] [5000], .a [43] [5000], .a [0] [], .a [1] [], .a [45, 46] [5000], .a [47] [5000], .m ⟨[(40, cD (.fn 77 [])), (44, .agg (cCount (l0.getD (0 + (IntKind.i64.wrap (shrOp .u64 (IntKind.u64.wrap (IntKind.i64.wrap (a1.1 + a1.2))) 1)).toNat) default))), (48, .agg (cCount (l0.getD (0 + p1.toNat) default)))], []⟩ ⟨[(49, cD (dI r17))], []⟩ [] [] [], .a [49] []] [[], [], [], [1, 2], [1, 2, 3], [], [], [5, 6], [5, 6, 7], [0, 1, 2, 3, 4, 5, 6, 7, 8], [0, 1, 2, 3, 4, 5, 6, 7, 8, 9]] [0, 1, 4, 10, 11, 12, 50] [5000] (by kernel_rfl) (by kernel_rfl) (by kernel_rfl) (by kernel_rfl) (by kernel_rfl) ⟨trivial, trivial, trivial, hc13, hc14, trivial, trivial, hc15, hc16, trivial, trivial⟩ (.a (.a (.a (.a (.a (.a (.a (.a (.a (.m ?_ (.a .z))))))))))) (by kernel_rfl) ?_
       · exact DOk.callA (caps := []) (xs := [.agg (cCount (l0.getD (0 + (IntKind.i64.wrap (shrOp .u64 (IntKind.u64.wrap (IntKind.i64.wrap (a1.1 + a1.2))) 1)).toNat) default)), .agg (cCount (l0.getD (0 + p1.toNat) default))]) (diff_added_1_ok hr17) rfl (fun r => by kernel_rfl) rfl (fun r => by kernel_rfl) (fun r => by kernel_rfl) (fun r => (.cons (.refl _) (.cons (.refl _) .nil))) rfl rfl (fun r => rfl)
       show Tri _ _ _ _
       refine Tri.condP (b := (decide (r17 < 0))) rfl h (fun h => ?_) (fun h => ?_)
       ·refine Tri.reg ?_
        refine At.seg 3 [0, 1, 4, 10, 11] [5000] (s' := ⟨[(0, .c (oC 5000 2 l0)), (1, cD (dI p1)), (4, cD (.fn 77 [])), (10, cD (dI (IntKind.i64.wrap ((IntKind.i64.wrap (shrOp .u64 (IntKind.u64.wrap (IntKind.i64.wrap (a1.1 + a1.2))) 1)) + 1)))), (11, cD (dI a1.2))], [(5000, vL 2 encCount l0)]⟩) (c := True ∧ True ∧ True ∧ True) (by kernel_rfl) ⟨trivial, trivial, trivial, trivial⟩ ?_
        refine At.done rfl ?_
        cases h
        exact rfl
       ·refine Tri.reg ?_
        refine At.seg 2 [0, 1, 4, 10, 11] [5000] (s' := ⟨[(0, .c (oC 5000 2 l0)), (1, cD (dI p1)), (4, cD (.fn 77 [])), (10, cD (dI a1.1)), (11, cD (dI (IntKind.i64.wrap (shrOp .u64 (IntKind.u64.wrap (IntKind.i64.wrap (a1.1 + a1.2))) 1))))], [(5000, vL 2 encCount l0)]⟩) (c := True ∧ True ∧ True) (by kernel_rfl) ⟨trivial, trivial, trivial⟩ ?_
        refine At.done rfl ?_
        cases h
        exact rfl
      ·refine Tri.keep [0, 1, 4, 10, 11] [5000] (s' := ⟨[(0, .c (oC 5000 2 l0)), (1, cD (dI p1)), (4, cD (.fn 77 [])), (10, cD (dI a1.1)), (11, cD (dI a1.2))], [(5000, vL 2 encCount l0)]⟩) (by kernel_rfl) ?_
       refine Tri.exit ?_
       cases h
       exact ⟨rfl, rfl⟩
     ·intro a2 h
      show Tri _ _ _ _
      refine Tri.seqS ?_
      refine Tri.segC [0, 10, 13] [5000] (allT 2) (by kernel_rfl) (by kernel_rfl) (allT_ok 2) ?_
      refine Tri.keep [0, 10, 13] [5000] (s' := ⟨[(0, .c (oC 5000 2 l0)), (10, cD (dI a2.1)), (13, cD (dI p1))], [(5000, vL 2 encCount l0)]⟩) (by kernel_rfl) ?_
      refine Tri.loopK (fuel := fuel) (st0 := (p1, l0)) (fun (x : Empty) s => False) (fun (a3 : Int × (List Count)) => ⟨[(0, .c (oC 5000 2 a3.2)), (10, cD (dI a2.1)), (13, cD (dI a3.1))], [(5000, vL 2 encCount a3.2)]⟩) (fun (a3 : Int × (List Count)) => ⟨[(0, .c (oC 5000 2 a3.2)), (10, cD (dI a2.1)), (13, cD (dI a3.1))], [(5000, vL 2 encCount a3.2)]⟩) h ?_ ?_ ?_
      ·intro a3 c h
       show Tri _ _ ⟨[(0, .c (oC 5000 2 a3.2)), (10, cD (dI a2.1)), (13, cD (dI a3.1))], [(5000, vL 2 encCount a3.2)]⟩ _
       refine Tri.seqS ?_
       refine Tri.segL [0, 10, 13, 58] [5000] ⟨[(0, .c (oC 5000 2 a3.2)), (10, cD (dI a2.1)), (13, cD (dI a3.1)), (58, cD (.bool (decide (a3.1 < (IntKind.i64.wrap (a2.1 - 1))))))], [(5000, vL 2 encCount a3.2)]⟩ (allT 4) (by kernel_rfl) (allT_ok 4) ?_
       refine Tri.condP (b := (decide (a3.1 < (IntKind.i64.wrap (a2.1 - 1))))) rfl h (fun h => ?_) (fun h => ?_)
       ·refine Tri.skip ?_
        show Tri _ _ _ _
        refine Tri.seqS ?_
        refine Tri.blockB ?_
        obtain ⟨hc5, h⟩ := need_elim h
        obtain ⟨hc6, h⟩ := need_elim h
        obtain ⟨hc7, h⟩ := need_elim h
        obtain ⟨hc8, h⟩ := need_elim h
        obtain ⟨hc9, h⟩ := need_elim h
        obtain ⟨hc10, h⟩ := need_elim h
        obtain ⟨hc11, h⟩ := need_elim h
        obtain ⟨hc12, h⟩ := need_elim h
        refine Tri.afterA ⟨[(0, .c (oC 5000 2 a3.2)), (10, cD (dI a2.1)), (13, cD (dI a3.1))], [(5000, vL 2 encCount ((a3.2.set (0 + a3.1.toNat) (a3.2.getD (0 + (IntKind.i64.wrap (a3.1 + 1)).toNat) default)).set (0 + (IntKind.i64.wrap (a3.1 + 1)).toNat) (a3.2.getD (0 + a3.1.toNat) default)))]⟩ ?_ ?_
        ·refine Tri.drawnS (s' := ⟨[(0, .c (oC 5000 2 a3.2)), (10, cD (dI a2.1)), (13, cD (dI a3.1))], [(5000, vL 2 encCount ((a3.2.set (0 + a3.1.toNat) (a3.2.getD (0 + (IntKind.i64.wrap (a3.1 + 1)).toNat) default)).set (0 + (IntKind.i64.wrap (a3.1 + 1)).toNat) (a3.2.getD (0 + a3.1.toNat) default)))]⟩) (cs := True ∧ True ∧ True ∧ True ∧ True ∧ True ∧ True ∧ True ∧ ((0 : Int) ≤ (IntKind.i64.wrap (a3.1 + 1)) ∧ (IntKind.i64.wrap (a3.1 + 1)) < (a3.2.length : Int)) ∧ ((0 + (IntKind.i64.wrap (a3.1 + 1)).toNat) < a3.2.length) ∧ True ∧ True ∧ ((0 : Int) ≤ a3.1 ∧ a3.1 < (a3.2.length : Int)) ∧ ((0 + a3.1.toNat) < a3.2.length) ∧ ((0 : Int) ≤ a3.1 ∧ a3.1 < (a3.2.length : Int)) ∧ ((0 : Int) ≤ (IntKind.i64.wrap (a3.1 + 1)) ∧ (IntKind.i64.wrap (a3.1 + 1)) < (a3.2.length : Int)) ∧ True) [.a [0] [], .a [13] [], .a [0] [], .a [13] [], .a [64] [], .a [0] [], .a [13] [], .a [67] [], .a [66, 68] [5000], .a [69] [5000], .a [0] [], .a [13] [], .a [71, 72] [5000], .a [73] [5000], .a [61, 62] [5000], .m ⟨[(70, .agg (cCount (a3.2.getD (0 + (IntKind.i64.wrap (a3.1 + 1)).toNat) default))), (75, .c (.vptr 5000 2 (0 + a3.1.toNat) 0))], [(5000, vL 2 encCount a3.2)]⟩ ⟨[], [(5000, vL 2 encCount (a3.2.set (0 + a3.1.toNat) (a3.2.getD (0 + (IntKind.i64.wrap (a3.1 + 1)).toNat) default)))]⟩ [] [] [], .a [63, 65] [5000], .m ⟨[(74, .agg (cCount (a3.2.getD (0 + a3.1.toNat) default))), (76, .c (.vptr 5000 2 (0 + (IntKind.i64.wrap (a3.1 + 1)).toNat) 0))], [(5000, vL 2 encCount (a3.2.set (0 + a3.1.toNat) (a3.2.getD (0 + (IntKind.i64.wrap (a3.1 + 1)).toNat) default)))]⟩ ⟨[], [(5000, vL 2 encCount ((a3.2.set (0 + a3.1.toNat) (a3.2.getD (0 + (IntKind.i64.wrap (a3.1 + 1)).toNat) default)).set (0 + (IntKind.i64.wrap (a3.1 + 1)).toNat) (a3.2.getD (0 + a3.1.toNat) default)))]⟩ [] [] []] [[], [], [], [], [3], [], [], [6], [5, 6, 7], [5, 6, 7, 8], [], [], [10, 11], [10, 11, 12], [0, 1, 5, 6, 7, 8, 9, 10, 11, 12, 13], [0, 1, 5, 6, 7, 8, 9, 10, 11, 12, 13, 14], [0, 1, 2, 3, 4, 5, 6, 7, 8, 9, 10, 11, 12, 13, 14, 15], [0, 1, 2, 3, 4, 5, 6, 7, 8, 9, 10, 11, 12, 13, 14, 15, 16]] [0, 10, 13] [5000] (by kernel_rfl) (by kernel_rfl) (by kernel_rfl) (by kernel_rfl) (by kernel_rfl) ⟨trivial, trivial, trivial, trivial, trivial, trivial, trivial, trivial, hc5, hc6, trivial, trivial, hc7, hc8, hc9, hc11, trivial⟩ (.a (.a (.a (.a (.a (.a (.a (.a (.a (.a (.a (.a (.a (.a (.a (.m ?_ (.a (.m ?_ .z)))))))))))))))))) (by kernel_rfl) ?_
         · exact DOk.one fun r hr => One.storeT (xs := [.d (lD 3 encValue ((a3.2.getD (0 + (IntKind.i64.wrap (a3.1 + 1)).toNat) default).row)), .d (dI ((a3.2.getD (0 + (IntKind.i64.wrap (a3.1 + 1)).toNat) default).n))]) (ds := [lD 3 encValue ((a3.2.getD (0 + (IntKind.i64.wrap (a3.1 + 1)).toNat) default).row), dI ((a3.2.getD (0 + (IntKind.i64.wrap (a3.1 + 1)).toNat) default).n)]) (encCount) a3.2 (a3.2.getD (0 + (IntKind.i64.wrap (a3.1 + 1)).toNat) default) rfl (by kernel_rfl) rfl rfl rfl hc10 rfl rfl (.refl _) rfl rfl rfl rfl
         · exact DOk.one fun r hr => One.storeT (xs := [.d (lD 3 encValue ((a3.2.getD (0 + a3.1.toNat) default).row)), .d (dI ((a3.2.getD (0 + a3.1.toNat) default).n))]) (ds := [lD 3 encValue ((a3.2.getD (0 + a3.1.toNat) default).row), dI ((a3.2.getD (0 + a3.1.toNat) default).n)]) (encCount) (a3.2.set (0 + a3.1.toNat) (a3.2.getD (0 + (IntKind.i64.wrap (a3.1 + 1)).toNat) default)) (a3.2.getD (0 + a3.1.toNat) default) rfl (by kernel_rfl) rfl rfl rfl hc12 rfl rfl (.refl _) rfl rfl rfl rfl
         exact ⟨rfl, rfl⟩
        ·refine At.eqS (s' := ⟨[(0, .c (oC 5000 2 ((a3.2.set (0 + a3.1.toNat) (a3.2.getD (0 + (IntKind.i64.wrap (a3.1 + 1)).toNat) default)).set (0 + (IntKind.i64.wrap (a3.1 + 1)).toNat) (a3.2.getD (0 + a3.1.toNat) default)))), (10, cD (dI a2.1)), (13, cD (dI a3.1))], [(5000, vL 2 encCount ((a3.2.set (0 + a3.1.toNat) (a3.2.getD (0 + (IntKind.i64.wrap (a3.1 + 1)).toNat) default)).set (0 + (IntKind.i64.wrap (a3.1 + 1)).toNat) (a3.2.getD (0 + a3.1.toNat) default)))]⟩) (by simp only [oC, vL, List.length_set]) ?_
         refine At.done rfl ?_
         show Tri _ _ _ _
         refine Tri.reg ?_
         refine At.seg 3 [0, 10, 13] [5000] (s' := ⟨[(0, .c (oC 5000 2 ((a3.2.set (0 + a3.1.toNat) (a3.2.getD (0 + (IntKind.i64.wrap (a3.1 + 1)).toNat) default)).set (0 + (IntKind.i64.wrap (a3.1 + 1)).toNat) (a3.2.getD (0 + a3.1.toNat) default)))), (10, cD (dI a2.1)), (13, cD (dI (IntKind.i64.wrap (a3.1 + 1))))], [(5000, vL 2 encCount ((a3.2.set (0 + a3.1.toNat) (a3.2.getD (0 + (IntKind.i64.wrap (a3.1 + 1)).toNat) default)).set (0 + (IntKind.i64.wrap (a3.1 + 1)).toNat) (a3.2.getD (0 + a3.1.toNat) default)))]⟩) (c := True ∧ True ∧ True ∧ True) (by kernel_rfl) ⟨trivial, trivial, trivial, trivial⟩ ?_
         refine At.done rfl ?_
         cases h
         exact rfl
       ·refine Tri.keep [0, 10, 13] [5000] (s' := ⟨[(0, .c (oC 5000 2 a3.2)), (10, cD (dI a2.1)), (13, cD (dI a3.1))], [(5000, vL 2 encCount a3.2)]⟩) (by kernel_rfl) ?_
        refine Tri.exit ?_
        cases h
        exact ⟨rfl, rfl⟩
      ·intro a4 h
       show Tri _ _ _ _
       refine Tri.keep [] [5000] (s' := ⟨[], [(5000, vL 2 encCount a4.2)]⟩) (by kernel_rfl) ?_
       refine Tri.ret ?_
       cases h
       refine ⟨_, _, rfl, trivial, rfl, rfl, ?_⟩
       exact SubS.out ⟨⟨rfl, rfl⟩, trivial⟩
      · exact fun x => x.elim
     · exact fun x => x.elim
    ·refine Tri.skip ?_
     show Tri _ _ _ _
     refine Tri.seqS ?_
     refine Tri.segL [0, 1, 2, 3, 4, 80] [5000] ⟨[(0, .c (oC 5000 2 l0)), (1, cD (dI p1)), (2, cD (dI p2)), (3, cD (dI p3)), (4, cD (.fn 77 [])), (80, cD (.bool (decide ((IntKind.i64.wrap (p3 - p2)) = 1))))], [(5000, vL 2 encCount l0)]⟩ (allT 4) (by kernel_rfl) (allT_ok 4) ?_
     refine Tri.condP (b := (decide ((IntKind.i64.wrap (p3 - p2)) = 1))) rfl h (fun h => ?_) (fun h => ?_)
     ·refine Tri.segC [0, 2, 4, 14] [5000] (allT 2) (by kernel_rfl) (by kernel_rfl) (allT_ok 2) ?_
      refine Tri.segC [0, 2, 4, 14, 15] [5000] (allT 2) (by kernel_rfl) (by kernel_rfl) (allT_ok 2) ?_
      refine Tri.seqS ?_
      refine Tri.keep [0, 2, 4, 14, 15] [5000] (s' := ⟨[(0, .c (oC 5000 2 l0)), (2, cD (dI p2)), (4, cD (.fn 77 [])), (14, cD (dI p1)), (15, cD (dI p2))], [(5000, vL 2 encCount l0)]⟩) (by kernel_rfl) ?_
      refine Tri.loopK (fuel := fuel) (st0 := (p1, p2)) (fun (x : Empty) s => False) (fun (a18 : Int × Int) => ⟨[(0, .c (oC 5000 2 l0)), (2, cD (dI p2)), (4, cD (.fn 77 [])), (14, cD (dI a18.1)), (15, cD (dI a18.2))], [(5000, vL 2 encCount l0)]⟩) (fun (a18 : Int × Int) => ⟨[(0, .c (oC 5000 2 l0)), (2, cD (dI p2)), (4, cD (.fn 77 [])), (14, cD (dI a18.1)), (15, cD (dI a18.2))], [(5000, vL 2 encCount l0)]⟩) h ?_ ?_ ?_
      ·intro a18 c h
       show Tri _ _ ⟨[(0, .c (oC 5000 2 l0)), (2, cD (dI p2)), (4, cD (.fn 77 [])), (14, cD (dI a18.1)), (15, cD (dI a18.2))], [(5000, vL 2 encCount l0)]⟩ _
       refine Tri.seqS ?_
       refine Tri.segL [0, 2, 4, 14, 15, 85] [5000] ⟨[(0, .c (oC 5000 2 l0)), (2, cD (dI p2)), (4, cD (.fn 77 [])), (14, cD (dI a18.1)), (15, cD (dI a18.2)), (85, cD (.bool (decide (a18.1 < a18.2))))], [(5000, vL 2 encCount l0)]⟩ (allT 3) (by kernel_rfl) (allT_ok 3) ?_
       refine Tri.condP (b := (decide (a18.1 < a18.2))) rfl h (fun h => ?_) (fun h => ?_)
       ·refine Tri.skip ?_
        show Tri _ _ _ _
        refine Tri.blockB ?_
        refine Tri.segL [0, 2, 4, 14, 15, 16] [5000] ⟨[(0, .c (oC 5000 2 l0)), (2, cD (dI p2)), (4, cD (.fn 77 [])), (14, cD (dI a18.1)), (15, cD (dI a18.2)), (16, cD (dI (IntKind.i64.wrap (shrOp .u64 (IntKind.u64.wrap (IntKind.i64.wrap (a18.1 + a18.2))) 1))))], [(5000, vL 2 encCount l0)]⟩ (True ∧ True ∧ True ∧ True ∧ ((0 : Int) ≤ 1) ∧ True ∧ True ∧ True) (by kernel_rfl) ⟨trivial, trivial, trivial, trivial, (by decide : (0 : Int) ≤ 1), trivial, trivial, trivial⟩ ?_
        refine Tri.seqS ?_
        obtain ⟨hc30, h⟩ := need_elim h
        obtain ⟨hc31, h⟩ := need_elim h
        obtain ⟨hc32, h⟩ := need_elim h
        obtain ⟨hc33, h⟩ := need_elim h
        obtain ⟨r34, hr34, h⟩ := bind_elim h
        refine Tri.drawnS (s' := ⟨[(0, .c (oC 5000 2 l0)), (2, cD (dI p2)), (4, cD (.fn 77 [])), (14, cD (dI a18.1)), (15, cD (dI a18.2)), (16, cD (dI (IntKind.i64.wrap (shrOp .u64 (IntKind.u64.wrap (IntKind.i64.wrap (a18.1 + a18.2))) 1)))), (103, cD (.bool (!(decide (r34 < 0)))))], [(5000, vL 2 encCount l0)]⟩) (cs := True ∧ True ∧ True ∧ ((0 : Int) ≤ p2 ∧ p2 < (l0.length : Int)) ∧ ((0 + p2.toNat) < l0.length) ∧ True ∧ True ∧ ((0 : Int) ≤ (IntKind.i64.wrap (shrOp .u64 (IntKind.u64.wrap (IntKind.i64.wrap (a18.1 + a18.2))) 1)) ∧ (IntKind.i64.wrap (shrOp .u64 (IntKind.u64.wrap (IntKind.i64.wrap (a18.1 + a18.2))) 1)) < (l0.length : Int)) ∧ ((0 + (IntKind.i64.wrap (shrOp .u64 (IntKind.u64.wrap (IntKind.i64.wrap (a18.1 + a18.2))) 1)).toNat) < l0.length) ∧ True ∧ True ∧ True) [.a [4] [], .a [0] [], .a [2] [], .a [93, 94] [5000], .a [95] [5000], .a [0] [], .a [16] [], .a [97, 98] [5000], .a [99] [5000], .m ⟨[(92, cD (.fn 77 [])), (96, .agg (cCount (l0.getD (0 + p2.toNat) default))), (100, .agg (cCount (l0.getD (0 + (IntKind.i64.wrap (shrOp .u64 (IntKind.u64.wrap (IntKind.i64.wrap (a18.1 + a18.2))) 1)).toNat) default)))], []⟩ ⟨[(101, cD (dI r34))], []⟩ [] [] [], .a [101] [], .a [102] []] [[], [], [], [1, 2], [1, 2, 3], [], [], [5, 6], [5, 6, 7], [0, 1, 2, 3, 4, 5, 6, 7, 8], [0, 1, 2, 3, 4, 5, 6, 7, 8, 9], [0, 1, 2, 3, 4, 5, 6, 7, 8, 9, 10]] [0, 2, 4, 14, 15, 16, 103] [5000] (by kernel_rfl) (by kernel_rfl) (by kernel_rfl) (by kernel_rfl) (by kernel_rfl) ⟨trivial, trivial, trivial, hc30, hc31, trivial, trivial, hc32, hc33, trivial, trivial, trivial⟩ (.a (.a (.a (.a (.a (.a (.a (.a (.a (.m ?_ (.a (.a .z)))))))))))) (by kernel_rfl) ?_
        · exact DOk.callA (caps := []) (xs := [.agg (cCount (l0.getD (0 + p2.toNat) default)), .agg (cCount (l0.getD (0 + (IntKind.i64.wrap (shrOp .u64 (IntKind.u64.wrap (IntKind.i64.wrap (a18.1 + a18.2))) 1)).toNat) default))]) (diff_added_1_ok hr34) rfl (fun r => by kernel_rfl) rfl (fun r => by kernel_rfl) (fun r => by kernel_rfl) (fun r => (.cons (.refl _) (.cons (.refl _) .nil))) rfl rfl (fun r => rfl)
        show Tri _ _ _ _
        refine Tri.condP (b := (!(decide (r34 < 0)))) rfl h (fun h => ?_) (fun h => ?_)
        ·refine Tri.reg ?_
         refine At.seg 3 [0, 2, 4, 14, 15] [5000] (s' := ⟨[(0, .c (oC 5000 2 l0)), (2, cD (dI p2)), (4, cD (.fn 77 [])), (14, cD (dI (IntKind.i64.wrap ((IntKind.i64.wrap (shrOp .u64 (IntKind.u64.wrap (IntKind.i64.wrap (a18.1 + a18.2))) 1)) + 1)))), (15, cD (dI a18.2))], [(5000, vL 2 encCount l0)]⟩) (c := True ∧ True ∧ True ∧ True) (by kernel_rfl) ⟨trivial, trivial, trivial, trivial⟩ ?_
         refine At.done rfl ?_
         cases h
         exact rfl
        ·refine Tri.reg ?_
         refine At.seg 2 [0, 2, 4, 14, 15] [5000] (s' := ⟨[(0, .c (oC 5000 2 l0)), (2, cD (dI p2)), (4, cD (.fn 77 [])), (14, cD (dI a18.1)), (15, cD (dI (IntKind.i64.wrap (shrOp .u64 (IntKind.u64.wrap (IntKind.i64.wrap (a18.1 + a18.2))) 1))))], [(5000, vL 2 encCount l0)]⟩) (c := True ∧ True ∧ True) (by kernel_rfl) ⟨trivial, trivial, trivial⟩ ?_
         refine At.done rfl ?_
         cases h
         exact rfl
       ·refine Tri.keep [0, 2, 4, 14, 15] [5000] (s' := ⟨[(0, .c (oC 5000 2 l0)), (2, cD (dI p2)), (4, cD (.fn 77 [])), (14, cD (dI a18.1)), (15, cD (dI a18.2))], [(5000, vL 2 encCount l0)]⟩) (by kernel_rfl) ?_
        refine Tri.exit ?_
        cases h
        exact ⟨rfl, rfl⟩
      ·intro a19 h
       show Tri _ _ _ _
       refine Tri.seqS ?_
       refine Tri.segC [0, 14, 17] [5000] (allT 2) (by kernel_rfl) (by kernel_rfl) (allT_ok 2) ?_
       refine Tri.keep [0, 14, 17] [5000] (s' := ⟨[(0, .c (oC 5000 2 l0)), (14, cD (dI a19.1)), (17, cD (dI p2))], [(5000, vL 2 encCount l0)]⟩) (by kernel_rfl) ?_
       refine Tri.loopK (fuel := fuel) (st0 := (p2, l0)) (fun (x : Empty) s => False) (fun (a20 : Int × (List Count)) => ⟨[(0, .c (oC 5000 2 a20.2)), (14, cD (dI a19.1)), (17, cD (dI a20.1))], [(5000, vL 2 encCount a20.2)]⟩) (fun (a20 : Int × (List Count)) => ⟨[(0, .c (oC 5000 2 a20.2)), (14, cD (dI a19.1)), (17, cD (dI a20.1))], [(5000, vL 2 encCount a20.2)]⟩) h ?_ ?_ ?_
       ·intro a20 c h
        show Tri _ _ ⟨[(0, .c (oC 5000 2 a20.2)), (14, cD (dI a19.1)), (17, cD (dI a20.1))], [(5000, vL 2 encCount a20.2)]⟩ _
        refine Tri.seqS ?_
        refine Tri.segL [0, 14, 17, 110] [5000] ⟨[(0, .c (oC 5000 2 a20.2)), (14, cD (dI a19.1)), (17, cD (dI a20.1)), (110, cD (.bool (decide (a19.1 < a20.1))))], [(5000, vL 2 encCount a20.2)]⟩ (allT 3) (by kernel_rfl) (allT_ok 3) ?_
        refine Tri.condP (b := (decide (a19.1 < a20.1))) rfl h (fun h => ?_) (fun h => ?_)
        ·refine Tri.skip ?_
         show Tri _ _ _ _
         refine Tri.seqS ?_
         refine Tri.blockB ?_
         obtain ⟨hc22, h⟩ := need_elim h
         obtain ⟨hc23, h⟩ := need_elim h
         obtain ⟨hc24, h⟩ := need_elim h
         obtain ⟨hc25, h⟩ := need_elim h
         obtain ⟨hc26, h⟩ := need_elim h
         obtain ⟨hc27, h⟩ := need_elim h
         obtain ⟨hc28, h⟩ := need_elim h
         obtain ⟨hc29, h⟩ := need_elim h
         refine Tri.afterA ⟨[(0, .c (oC 5000 2 a20.2)), (14, cD (dI a19.1)), (17, cD (dI a20.1))], [(5000, vL 2 encCount ((a20.2.set (0 + a20.1.toNat) (a20.2.getD (0 + (IntKind.i64.wrap (a20.1 - 1)).toNat) default)).set (0 + (IntKind.i64.wrap (a20.1 - 1)).toNat) (a20.2.getD (0 + a20.1.toNat) default)))]⟩ ?_ ?_
         ·refine Tri.drawnS (s' := ⟨[(0, .c (oC 5000 2 a20.2)), (14, cD (dI a19.1)), (17, cD (dI a20.1))], [(5000, vL 2 encCount ((a20.2.set (0 + a20.1.toNat) (a20.2.getD (0 + (IntKind.i64.wrap (a20.1 - 1)).toNat) default)).set (0 + (IntKind.i64.wrap (a20.1 - 1)).toNat) (a20.2.getD (0 + a20.1.toNat) default)))]⟩) (cs := True ∧ True ∧ True ∧ True ∧ True ∧ True ∧ True ∧ True ∧ ((0 : Int) ≤ (IntKind.i64.wrap (a20.1 - 1)) ∧ (IntKind.i64.wrap (a20.1 - 1)) < (a20.2.length : Int)) ∧ ((0 + (IntKind.i64.wrap (a20.1 - 1)).toNat) < a20.2.length) ∧ True ∧ True ∧ ((0 : Int) ≤ a20.1 ∧ a20.1 < (a20.2.length : Int)) ∧ ((0 + a20.1.toNat) < a20.2.length) ∧ ((0 : Int) ≤ a20.1 ∧ a20.1 < (a20.2.length : Int)) ∧ ((0 : Int) ≤ (IntKind.i64.wrap (a20.1 - 1)) ∧ (IntKind.i64.wrap (a20.1 - 1)) < (a20.2.length : Int)) ∧ True) [.a [0] [], .a [17] [], .a [0] [], .a [17] [], .a [116] [], .a [0] [], .a [17] [], .a [119] [], .a [118, 120] [5000], .a [121] [5000], .a [0] [], .a [17] [], .a [123, 124] [5000], .a [125] [5000], .a [113, 114] [5000], .m ⟨[(122, .agg (cCount (a20.2.getD (0 + (IntKind.i64.wrap (a20.1 - 1)).toNat) default))), (127, .c (.vptr 5000 2 (0 + a20.1.toNat) 0))], [(5000, vL 2 encCount a20.2)]⟩ ⟨[], [(5000, vL 2 encCount (a20.2.set (0 + a20.1.toNat) (a20.2.getD (0 + (IntKind.i64.wrap (a20.1 - 1)).toNat) default)))]⟩ [] [] [], .a [115, 117] [5000], .m ⟨[(126, .agg (cCount (a20.2.getD (0 + a20.1.toNat) default))), (128, .c (.vptr 5000 2 (0 + (IntKind.i64.wrap (a20.1 - 1)).toNat) 0))], [(5000, vL 2 encCount (a20.2.set (0 + a20.1.toNat) (a20.2.getD (0 + (IntKind.i64.wrap (a20.1 - 1)).toNat) default)))]⟩ ⟨[], [(5000, vL 2 encCount ((a20.2.set (0 + a20.1.toNat) (a20.2.getD (0 + (IntKind.i64.wrap (a20.1 - 1)).toNat) default)).set (0 + (IntKind.i64.wrap (a20.1 - 1)).toNat) (a20.2.getD (0 + a20.1.toNat) default)))]⟩ [] [] []] [[], [], [], [], [3], [], [], [6], [5, 6, 7], [5, 6, 7, 8], [], [], [10, 11], [10, 11, 12], [0, 1, 5, 6, 7, 8, 9, 10, 11, 12, 13], [0, 1, 5, 6, 7, 8, 9, 10, 11, 12, 13, 14], [0, 1, 2, 3, 4, 5, 6, 7, 8, 9, 10, 11, 12, 13, 14, 15], [0, 1, 2, 3, 4, 5, 6, 7, 8, 9, 10, 11, 12, 13, 14, 15, 16]] [0, 14, 17] [5000] (by kernel_rfl) (by kernel_rfl) (by kernel_rfl) (by kernel_rfl) (by kernel_rfl) ⟨trivial, trivial, trivial, trivial, trivial, trivial, trivial, trivial, hc22, hc23, trivial, trivial, hc24, hc25, hc26, hc28, trivial⟩ (.a (.a (.a (.a (.a (.a (.a (.a (.a (.a (.a (.a (.a (.a (.a (.m ?_ (.a (.m ?_ .z)))))))))))))))))) (by kernel_rfl) ?_
          · exact DOk.one fun r hr => One.storeT (xs := [.d (lD 3 encValue ((a20.2.getD (0 + (IntKind.i64.wrap (a20.1 - 1)).toNat) default).row)), .d (dI ((a20.2.getD (0 + (IntKind.i64.wrap (a20.1 - 1)).toNat) default).n))]) (ds := [lD 3 encValue ((a20.2.getD (0 + (IntKind.i64.wrap (a20.1 - 1)).toNat) default).row), dI ((a20.2.getD (0 + (IntKind.i64.wrap (a20.1 - 1)).toNat) default).n)]) (encCount) a20.2 (a20.2.getD (0 + (IntKind.i64.wrap (a20.1 - 1)).toNat) default) rfl (by kernel_rfl) rfl rfl rfl hc27 rfl rfl (.refl _) rfl rfl rfl rfl
          · exact DOk.one fun r hr => One.storeT (xs := [.d (lD 3 encValue ((a20.2.getD (0 + a20.1.toNat) default).row)), .d (dI ((a20.2.getD (0 + a20.1.toNat) default).n))]) (ds := [lD 3 encValue ((a20.2.getD (0 + a20.1.toNat) default).row), dI ((a20.2.getD (0 + a20.1.toNat) default).n)]) (encCount) (a20.2.set (0 + a20.1.toNat) (a20.2.getD (0 + (IntKind.i64.wrap (a20.1 - 1)).toNat) default)) (a20.2.getD (0 + a20.1.toNat) default) rfl (by kernel_rfl) rfl rfl rfl hc29 rfl rfl (.refl _) rfl rfl rfl rfl
          exact ⟨rfl, rfl⟩
         ·refine At.eqS (s' := ⟨[(0, .c (oC 5000 2 ((a20.2.set (0 + a20.1.toNat) (a20.2.getD (0 + (IntKind.i64.wrap (a20.1 - 1)).toNat) default)).set (0 + (IntKind.i64.wrap (a20.1 - 1)).toNat) (a20.2.getD (0 + a20.1.toNat) default)))), (14, cD (dI a19.1)), (17, cD (dI a20.1))], [(5000, vL 2 encCount ((a20.2.set (0 + a20.1.toNat) (a20.2.getD (0 + (IntKind.i64.wrap (a20.1 - 1)).toNat) default)).set (0 + (IntKind.i64.wrap (a20.1 - 1)).toNat) (a20.2.getD (0 + a20.1.toNat) default)))]⟩) (by simp only [oC, vL, List.length_set]) ?_
          refine At.done rfl ?_
          show Tri _ _ _ _
          refine Tri.reg ?_
          refine At.seg 3 [0, 14, 17] [5000] (s' := ⟨[(0, .c (oC 5000 2 ((a20.2.set (0 + a20.1.toNat) (a20.2.getD (0 + (IntKind.i64.wrap (a20.1 - 1)).toNat) default)).set (0 + (IntKind.i64.wrap (a20.1 - 1)).toNat) (a20.2.getD (0 + a20.1.toNat) default)))), (14, cD (dI a19.1)), (17, cD (dI (IntKind.i64.wrap (a20.1 - 1))))], [(5000, vL 2 encCount ((a20.2.set (0 + a20.1.toNat) (a20.2.getD (0 + (IntKind.i64.wrap (a20.1 - 1)).toNat) default)).set (0 + (IntKind.i64.wrap (a20.1 - 1)).toNat) (a20.2.getD (0 + a20.1.toNat) default)))]⟩) (c := True ∧ True ∧ True ∧ True) (by kernel_rfl) ⟨trivial, trivial, trivial, trivial⟩ ?_
          refine At.done rfl ?_
          cases h
          exact rfl
        ·refine Tri.keep [0, 14, 17] [5000] (s' := ⟨[(0, .c (oC 5000 2 a20.2)), (14, cD (dI a19.1)), (17, cD (dI a20.1))], [(5000, vL 2 encCount a20.2)]⟩) (by kernel_rfl) ?_
         refine Tri.exit ?_
         cases h
         exact ⟨rfl, rfl⟩
       ·intro a21 h
        show Tri _ _ _ _
        refine Tri.keep [] [5000] (s' := ⟨[], [(5000, vL 2 encCount a21.2)]⟩) (by kernel_rfl) ?_
        refine Tri.ret ?_
        cases h
        refine ⟨_, _, rfl, trivial, rfl, rfl, ?_⟩
        exact SubS.out ⟨⟨rfl, rfl⟩, trivial⟩
       · exact fun x => x.elim
      · exact fun x => x.elim
     ·refine Tri.skip ?_
      show Tri _ _ _ _
      refine Tri.segC [0, 1, 2, 3, 4, 18] [5000] (True ∧ True ∧ True ∧ True ∧ ((0 : Int) ≤ 1) ∧ True ∧ True ∧ True) (by kernel_rfl) (by kernel_rfl) ⟨trivial, trivial, trivial, trivial, (by decide : (0 : Int) ≤ 1), trivial, trivial, trivial⟩ ?_
      refine Tri.segC [0, 1, 2, 3, 4, 18, 19] [5000] (allT 4) (by kernel_rfl) (by kernel_rfl) (allT_ok 4) ?_
      refine Tri.segL [0, 1, 2, 3, 4, 18, 19] [5000] ⟨[(0, .c (oC 5000 2 l0)), (1, cD (dI p1)), (2, cD (dI p2)), (3, cD (dI p3)), (4, cD (.fn 77 [])), (18, cD (dI (IntKind.i64.wrap (shrOp .u64 (IntKind.u64.wrap (IntKind.i64.wrap (p1 + p3))) 1)))), (19, cD (dI (IntKind.i64.wrap ((IntKind.i64.wrap (shrOp .u64 (IntKind.u64.wrap (IntKind.i64.wrap (p1 + p3))) 1)) + p2))))], [(5000, vL 2 encCount l0)]⟩ (allT 2) (by kernel_rfl) (allT_ok 2) ?_
      refine Tri.seqJ (fun (a35 : Int × Int × Int × Int) => ⟨[(0, .c (oC 5000 2 l0)), (1, cD (dI p1)), (2, cD (dI p2)), (3, cD (dI p3)), (4, cD (.fn 77 [])), (18, cD (dI a35.1)), (19, cD (dI a35.2.1)), (20, cD (dI a35.2.2.1)), (21, cD (dI a35.2.2.2))], [(5000, vL 2 encCount l0)]⟩) h (fun a35 h => ?_) (fun j36 h => ?_)
      ·show Tri _ _ ⟨[(0, .c (oC 5000 2 l0)), (1, cD (dI p1)), (2, cD (dI p2)), (3, cD (dI p3)), (4, cD (.fn 77 [])), (18, cD (dI a35.1)), (19, cD (dI a35.2.1)), (20, cD (dI a35.2.2.1)), (21, cD (dI a35.2.2.2))], [(5000, vL 2 encCount l0)]⟩ _
       refine Tri.segC [0, 1, 2, 3, 4, 18, 19, 20, 21, 22] [5000] (allT 3) (by kernel_rfl) (by kernel_rfl) (allT_ok 3) ?_
       refine Tri.seqS ?_
       refine Tri.keep [0, 1, 2, 3, 4, 18, 19, 20, 21, 22] [5000] (s' := ⟨[(0, .c (oC 5000 2 l0)), (1, cD (dI p1)), (2, cD (dI p2)), (3, cD (dI p3)), (4, cD (.fn 77 [])), (18, cD (dI a35.1)), (19, cD (dI a35.2.1)), (20, cD (dI a35.2.2.1)), (21, cD (dI a35.2.2.2)), (22, cD (dI (IntKind.i64.wrap (a35.2.1 - 1))))], [(5000, vL 2 encCount l0)]⟩) (by kernel_rfl) ?_
       refine Tri.loopK (fuel := fuel) (st0 := (a35.2.2.1, a35.2.2.2)) (fun (x : Empty) s => False) (fun (a37 : Int × Int) => ⟨[(0, .c (oC 5000 2 l0)), (1, cD (dI p1)), (2, cD (dI p2)), (3, cD (dI p3)), (4, cD (.fn 77 [])), (18, cD (dI a35.1)), (19, cD (dI a35.2.1)), (20, cD (dI a37.1)), (21, cD (dI a37.2)), (22, cD (dI (IntKind.i64.wrap (a35.2.1 - 1))))], [(5000, vL 2 encCount l0)]⟩) (fun (a37 : Int × Int) => ⟨[(0, .c (oC 5000 2 l0)), (1, cD (dI p1)), (2, cD (dI p2)), (3, cD (dI p3)), (4, cD (.fn 77 [])), (18, cD (dI a35.1)), (19, cD (dI a35.2.1)), (20, cD (dI a37.1)), (21, cD (dI a37.2)), (22, cD (dI (IntKind.i64.wrap (a35.2.1 - 1))))], [(5000, vL 2 encCount l0)]⟩) h ?_ ?_ ?_
       ·intro a37 c h
        show Tri _ _ ⟨[(0, .c (oC 5000 2 l0)), (1, cD (dI p1)), (2, cD (dI p2)), (3, cD (dI p3)), (4, cD (.fn 77 [])), (18, cD (dI a35.1)), (19, cD (dI a35.2.1)), (20, cD (dI a37.1)), (21, cD (dI a37.2)), (22, cD (dI (IntKind.i64.wrap (a35.2.1 - 1))))], [(5000, vL 2 encCount l0)]⟩ _
        refine Tri.seqS ?_
        refine Tri.segL [0, 1, 2, 3, 4, 18, 19, 20, 21, 22, 151] [5000] ⟨[(0, .c (oC 5000 2 l0)), (1, cD (dI p1)), (2, cD (dI p2)), (3, cD (dI p3)), (4, cD (.fn 77 [])), (18, cD (dI a35.1)), (19, cD (dI a35.2.1)), (20, cD (dI a37.1)), (21, cD (dI a37.2)), (22, cD (dI (IntKind.i64.wrap (a35.2.1 - 1)))), (151, cD (.bool (decide (a37.1 < a37.2))))], [(5000, vL 2 encCount l0)]⟩ (allT 3) (by kernel_rfl) (allT_ok 3) ?_
        refine Tri.condP (b := (decide (a37.1 < a37.2))) rfl h (fun h => ?_) (fun h => ?_)
        ·refine Tri.skip ?_
         show Tri _ _ _ _
         refine Tri.blockB ?_
         refine Tri.segL [0, 1, 2, 3, 4, 18, 19, 20, 21, 22, 23] [5000] ⟨[(0, .c (oC 5000 2 l0)), (1, cD (dI p1)), (2, cD (dI p2)), (3, cD (dI p3)), (4, cD (.fn 77 [])), (18, cD (dI a35.1)), (19, cD (dI a35.2.1)), (20, cD (dI a37.1)), (21, cD (dI a37.2)), (22, cD (dI (IntKind.i64.wrap (a35.2.1 - 1)))), (23, cD (dI (IntKind.i64.wrap (shrOp .u64 (IntKind.u64.wrap (IntKind.i64.wrap (a37.1 + a37.2))) 1))))], [(5000, vL 2 encCount l0)]⟩ (True ∧ True ∧ True ∧ True ∧ ((0 : Int) ≤ 1) ∧ True ∧ True ∧ True) (by kernel_rfl) ⟨trivial, trivial, trivial, trivial, (by decide : (0 : Int) ≤ 1), trivial, trivial, trivial⟩ ?_
         refine Tri.seqS ?_
         obtain ⟨hc54, h⟩ := need_elim h
         obtain ⟨hc55, h⟩ := need_elim h
         obtain ⟨hc56, h⟩ := need_elim h
         obtain ⟨hc57, h⟩ := need_elim h
         obtain ⟨r58, hr58, h⟩ := bind_elim h
         refine Tri.drawnS (s' := ⟨[(0, .c (oC 5000 2 l0)), (1, cD (dI p1)), (2, cD (dI p2)), (3, cD (dI p3)), (4, cD (.fn 77 [])), (18, cD (dI a35.1)), (19, cD (dI a35.2.1)), (20, cD (dI a37.1)), (21, cD (dI a37.2)), (22, cD (dI (IntKind.i64.wrap (a35.2.1 - 1)))), (23, cD (dI (IntKind.i64.wrap (shrOp .u64 (IntKind.u64.wrap (IntKind.i64.wrap (a37.1 + a37.2))) 1)))), (171, cD (.bool (!(decide (r58 < 0)))))], [(5000, vL 2 encCount l0)]⟩) (cs := True ∧ True ∧ True ∧ True ∧ True ∧ ((0 : Int) ≤ (IntKind.i64.wrap ((IntKind.i64.wrap (a35.2.1 - 1)) - (IntKind.i64.wrap (shrOp .u64 (IntKind.u64.wrap (IntKind.i64.wrap (a37.1 + a37.2))) 1)))) ∧ (IntKind.i64.wrap ((IntKind.i64.wrap (a35.2.1 - 1)) - (IntKind.i64.wrap (shrOp .u64 (IntKind.u64.wrap (IntKind.i64.wrap (a37.1 + a37.2))) 1)))) < (l0.length : Int)) ∧ ((0 + (IntKind.i64.wrap ((IntKind.i64.wrap (a35.2.1 - 1)) - (IntKind.i64.wrap (shrOp .u64 (IntKind.u64.wrap (IntKind.i64.wrap (a37.1 + a37.2))) 1)))).toNat) < l0.length) ∧ True ∧ True ∧ ((0 : Int) ≤ (IntKind.i64.wrap (shrOp .u64 (IntKind.u64.wrap (IntKind.i64.wrap (a37.1 + a37.2))) 1)) ∧ (IntKind.i64.wrap (shrOp .u64 (IntKind.u64.wrap (IntKind.i64.wrap (a37.1 + a37.2))) 1)) < (l0.length : Int)) ∧ ((0 + (IntKind.i64.wrap (shrOp .u64 (IntKind.u64.wrap (IntKind.i64.wrap (a37.1 + a37.2))) 1)).toNat) < l0.length) ∧ True ∧ True ∧ True) [.a [4] [], .a [0] [], .a [22] [], .a [23] [], .a [160, 161] [], .a [159, 162] [5000], .a [163] [5000], .a [0] [], .a [23] [], .a [165, 166] [5000], .a [167] [5000], .m ⟨[(158, cD (.fn 77 [])), (164, .agg (cCount (l0.getD (0 + (IntKind.i64.wrap ((IntKind.i64.wrap (a35.2.1 - 1)) - (IntKind.i64.wrap (shrOp .u64 (IntKind.u64.wrap (IntKind.i64.wrap (a37.1 + a37.2))) 1)))).toNat) default))), (168, .agg (cCount (l0.getD (0 + (IntKind.i64.wrap (shrOp .u64 (IntKind.u64.wrap (IntKind.i64.wrap (a37.1 + a37.2))) 1)).toNat) default)))], []⟩ ⟨[(169, cD (dI r58))], []⟩ [] [] [], .a [169] [], .a [170] []] [[], [], [], [], [2, 3], [1, 2, 3, 4], [1, 2, 3, 4, 5], [], [], [7, 8], [7, 8, 9], [0, 1, 2, 3, 4, 5, 6, 7, 8, 9, 10], [0, 1, 2, 3, 4, 5, 6, 7, 8, 9, 10, 11], [0, 1, 2, 3, 4, 5, 6, 7, 8, 9, 10, 11, 12]] [0, 1, 2, 3, 4, 18, 19, 20, 21, 22, 23, 171] [5000] (by kernel_rfl) (by kernel_rfl) (by kernel_rfl) (by kernel_rfl) (by kernel_rfl) ⟨trivial, trivial, trivial, trivial, trivial, hc54, hc55, trivial, trivial, hc56, hc57, trivial, trivial, trivial⟩ (.a (.a (.a (.a (.a (.a (.a (.a (.a (.a (.a (.m ?_ (.a (.a .z)))))))))))))) (by kernel_rfl) ?_
         · exact DOk.callA (caps := []) (xs := [.agg (cCount (l0.getD (0 + (IntKind.i64.wrap ((IntKind.i64.wrap (a35.2.1 - 1)) - (IntKind.i64.wrap (shrOp .u64 (IntKind.u64.wrap (IntKind.i64.wrap (a37.1 + a37.2))) 1)))).toNat) default)), .agg (cCount (l0.getD (0 + (IntKind.i64.wrap (shrOp .u64 (IntKind.u64.wrap (IntKind.i64.wrap (a37.1 + a37.2))) 1)).toNat) default))]) (diff_added_1_ok hr58) rfl (fun r => by kernel_rfl) rfl (fun r => by kernel_rfl) (fun r => by kernel_rfl) (fun r => (.cons (.refl _) (.cons (.refl _) .nil))) rfl rfl (fun r => rfl)
         show Tri _ _ _ _
         refine Tri.condP (b := (!(decide (r58 < 0)))) rfl h (fun h => ?_) (fun h => ?_)
         ·refine Tri.reg ?_
          refine At.seg 3 [0, 1, 2, 3, 4, 18, 19, 20, 21, 22] [5000] (s' := ⟨[(0, .c (oC 5000 2 l0)), (1, cD (dI p1)), (2, cD (dI p2)), (3, cD (dI p3)), (4, cD (.fn 77 [])), (18, cD (dI a35.1)), (19, cD (dI a35.2.1)), (20, cD (dI (IntKind.i64.wrap ((IntKind.i64.wrap (shrOp .u64 (IntKind.u64.wrap (IntKind.i64.wrap (a37.1 + a37.2))) 1)) + 1)))), (21, cD (dI a37.2)), (22, cD (dI (IntKind.i64.wrap (a35.2.1 - 1))))], [(5000, vL 2 encCount l0)]⟩) (c := True ∧ True ∧ True ∧ True) (by kernel_rfl) ⟨trivial, trivial, trivial, trivial⟩ ?_
          refine At.done rfl ?_
          cases h
          exact rfl
         ·refine Tri.reg ?_
          refine At.seg 2 [0, 1, 2, 3, 4, 18, 19, 20, 21, 22] [5000] (s' := ⟨[(0, .c (oC 5000 2 l0)), (1, cD (dI p1)), (2, cD (dI p2)), (3, cD (dI p3)), (4, cD (.fn 77 [])), (18, cD (dI a35.1)), (19, cD (dI a35.2.1)), (20, cD (dI a37.1)), (21, cD (dI (IntKind.i64.wrap (shrOp .u64 (IntKind.u64.wrap (IntKind.i64.wrap (a37.1 + a37.2))) 1)))), (22, cD (dI (IntKind.i64.wrap (a35.2.1 - 1))))], [(5000, vL 2 encCount l0)]⟩) (c := True ∧ True ∧ True) (by kernel_rfl) ⟨trivial, trivial, trivial⟩ ?_
          refine At.done rfl ?_
          cases h
          exact rfl
        ·refine Tri.keep [0, 1, 2, 3, 4, 18, 19, 20, 21, 22] [5000] (s' := ⟨[(0, .c (oC 5000 2 l0)), (1, cD (dI p1)), (2, cD (dI p2)), (3, cD (dI p3)), (4, cD (.fn 77 [])), (18, cD (dI a35.1)), (19, cD (dI a35.2.1)), (20, cD (dI a37.1)), (21, cD (dI a37.2)), (22, cD (dI (IntKind.i64.wrap (a35.2.1 - 1))))], [(5000, vL 2 encCount l0)]⟩) (by kernel_rfl) ?_
         refine Tri.exit ?_
         cases h
         exact ⟨rfl, rfl⟩
       ·intro a38 h
        show Tri _ _ _ _
        refine Tri.segL [0, 1, 2, 3, 4, 18, 20, 24] [5000] ⟨[(0, .c (oC 5000 2 l0)), (1, cD (dI p1)), (2, cD (dI p2)), (3, cD (dI p3)), (4, cD (.fn 77 [])), (18, cD (dI a35.1)), (20, cD (dI a38.1)), (24, cD (dI (IntKind.i64.wrap (a35.2.1 - a38.1))))], [(5000, vL 2 encCount l0)]⟩ (allT 4) (by kernel_rfl) (allT_ok 4) ?_
        refine Tri.seqJ (fun (a39 : Int × (List Count)) => ⟨[(0, .c (oC 5000 2 a39.2)), (1, cD (dI p1)), (3, cD (dI p3)), (4, cD (.fn 77 [])), (18, cD (dI a35.1)), (20, cD (dI a38.1)), (24, cD (dI a39.1))], [(5000, vL 2 encCount a39.2)]⟩) h (fun a39 h => ?_) (fun j40 h => ?_)
        ·show Tri _ _ ⟨[(0, .c (oC 5000 2 a39.2)), (1, cD (dI p1)), (3, cD (dI p3)), (4, cD (.fn 77 [])), (18, cD (dI a35.1)), (20, cD (dI a38.1)), (24, cD (dI a39.1))], [(5000, vL 2 encCount a39.2)]⟩ _
         refine Tri.seqJ (fun (a41 : List Count) => ⟨[(0, .c (oC 5000 2 a41)), (3, cD (dI p3)), (4, cD (.fn 77 [])), (18, cD (dI a35.1)), (24, cD (dI a39.1))], [(5000, vL 2 encCount a41)]⟩) h (fun a41 h => ?_) (fun j42 h => ?_)
         ·show Tri _ _ ⟨[(0, .c (oC 5000 2 a41)), (3, cD (dI p3)), (4, cD (.fn 77 [])), (18, cD (dI a35.1)), (24, cD (dI a39.1))], [(5000, vL 2 encCount a41)]⟩ _
          refine Tri.seqJ (fun (a43 : Bool) => ⟨[(0, .c (oC 5000 2 a41)), (3, cD (dI p3)), (4, cD (.fn 77 [])), (18, cD (dI a35.1)), (24, cD (dI a39.1)), (213, cD (.bool a43))], [(5000, vL 2 encCount a41)]⟩) h (fun a43 h => ?_) (fun j44 h => ?_)
          ·show Tri _ _ ⟨[(0, .c (oC 5000 2 a41)), (3, cD (dI p3)), (4, cD (.fn 77 [])), (18, cD (dI a35.1)), (24, cD (dI a39.1)), (213, cD (.bool a43))], [(5000, vL 2 encCount a41)]⟩ _
           refine Tri.condP (b := a43) rfl h (fun h => ?_) (fun h => ?_)
           ·refine Tri.reg ?_
            refine At.seg 5 [214, 215, 216, 217, 218] [5000] (s' := ⟨[(214, .c (oC 5000 2 a41)), (215, cD (dI a35.1)), (216, cD (dI a39.1)), (217, cD (dI p3)), (218, cD (.fn 77 []))], [(5000, vL 2 encCount a41)]⟩) (c := True ∧ True ∧ True ∧ True ∧ True ∧ True) (by kernel_rfl) ⟨trivial, trivial, trivial, trivial, trivial, trivial⟩ ?_
            obtain ⟨r45, hr45, h⟩ := bind_elim h
            refine At.callL (nf := 0) (caps := []) (xs := [.c (oC 5000 2 a41), cD (dI a35.1), cD (dI a39.1), cD (dI p3), cD (.fn 77 [])]) [(5000, 5000)] [] [] (s0 := ⟨[], []⟩) (ih hr45) rfl rfl (by kernel_rfl) rfl (by kernel_rfl) (by kernel_rfl) (.ren rfl rfl (.flat (.refl _) rfl rfl (.flat (.refl _) rfl rfl (.flat (.refl _) rfl rfl (.flat (.refl _) rfl rfl .nil))))) ⟨⟨by kernel_rfl, by kernel_rfl⟩, trivial⟩ (by kernel_rfl) (by kernel_rfl) (by kernel_rfl) (by kernel_rfl) (by kernel_rfl) (by kernel_rfl) (by kernel_rfl) (by kernel_rfl) (by kernel_rfl) ⟨[(219, .tup [])], [(5000, vL 2 encCount r45)]⟩ (by kernel_rfl) ?_
            refine At.keep [] [5000] (s' := ⟨[], [(5000, vL 2 encCount r45)]⟩) (by kernel_rfl) ?_
            refine At.done rfl ?_
            cases h
            refine ⟨_, _, rfl, trivial, rfl, rfl, ?_⟩
            exact SubS.out ⟨⟨rfl, rfl⟩, trivial⟩
           ·refine Tri.keep [] [5000] (s' := ⟨[], [(5000, vL 2 encCount a41)]⟩) (by kernel_rfl) ?_
            refine Tri.skip ?_
            cases h
            refine ⟨_, _, rfl, trivial, rfl, rfl, ?_⟩
            exact SubS.out ⟨⟨rfl, rfl⟩, trivial⟩
          ·refine Tri.reg ?_
           refine At.seg 4 [0, 3, 4, 18, 24, 209] [5000] (s' := ⟨[(0, .c (oC 5000 2 a41)), (3, cD (dI p3)), (4, cD (.fn 77 [])), (18, cD (dI a35.1)), (24, cD (dI a39.1)), (209, cD (.bool (decide (a35.1 < a39.1))))], [(5000, vL 2 encCount a41)]⟩) (c := True ∧ True ∧ True ∧ True ∧ True) (by kernel_rfl) ⟨trivial, trivial, trivial, trivial, trivial⟩ ?_
           refine At.case (fun b => ⟨[(0, .c (oC 5000 2 a41)), (3, cD (dI p3)), (4, cD (.fn 77 [])), (18, cD (dI a35.1)), (24, cD (dI a39.1)), (209, cD (.bool b))], [(5000, vL 2 encCount a41)]⟩) (b := (decide (a35.1 < a39.1))) h (fun h => ?_) (fun h => ?_)
           ·refine At.seg 4 [0, 3, 4, 18, 24, 213] [5000] (s' := ⟨[(0, .c (oC 5000 2 a41)), (3, cD (dI p3)), (4, cD (.fn 77 [])), (18, cD (dI a35.1)), (24, cD (dI a39.1)), (213, cD (.bool (decide (a39.1 < p3))))], [(5000, vL 2 encCount a41)]⟩) (c := True ∧ True ∧ True ∧ True ∧ True) (by kernel_rfl) ⟨trivial, trivial, trivial, trivial, trivial⟩ ?_
            refine At.done rfl ?_
            exact ⟨_, h, rfl⟩
           ·refine At.seg 4 [0, 3, 4, 18, 24, 213] [5000] (s' := ⟨[(0, .c (oC 5000 2 a41)), (3, cD (dI p3)), (4, cD (.fn 77 [])), (18, cD (dI a35.1)), (24, cD (dI a39.1)), (213, cD (.bool false))], [(5000, vL 2 encCount a41)]⟩) (c := True ∧ True) (by kernel_rfl) ⟨trivial, trivial⟩ ?_
            refine At.done rfl ?_
            exact ⟨_, h, rfl⟩
         ·refine Tri.seqJ (fun (a46 : Bool) => ⟨[(0, .c (oC 5000 2 a39.2)), (1, cD (dI p1)), (3, cD (dI p3)), (4, cD (.fn 77 [])), (18, cD (dI a35.1)), (20, cD (dI a38.1)), (24, cD (dI a39.1)), (199, cD (.bool a46))], [(5000, vL 2 encCount a39.2)]⟩) h (fun a46 h => ?_) (fun j47 h => ?_)
          ·show Tri _ _ ⟨[(0, .c (oC 5000 2 a39.2)), (1, cD (dI p1)), (3, cD (dI p3)), (4, cD (.fn 77 [])), (18, cD (dI a35.1)), (20, cD (dI a38.1)), (24, cD (dI a39.1)), (199, cD (.bool a46))], [(5000, vL 2 encCount a39.2)]⟩ _
           refine Tri.condP (b := a46) rfl h (fun h => ?_) (fun h => ?_)
           ·refine Tri.reg ?_
            refine At.seg 5 [0, 3, 4, 18, 24, 200, 201, 202, 203, 204] [5000] (s' := ⟨[(0, .c (oC 5000 2 a39.2)), (3, cD (dI p3)), (4, cD (.fn 77 [])), (18, cD (dI a35.1)), (24, cD (dI a39.1)), (200, .c (oC 5000 2 a39.2)), (201, cD (dI p1)), (202, cD (dI a38.1)), (203, cD (dI a35.1)), (204, cD (.fn 77 []))], [(5000, vL 2 encCount a39.2)]⟩) (c := True ∧ True ∧ True ∧ True ∧ True ∧ True) (by kernel_rfl) ⟨trivial, trivial, trivial, trivial, trivial, trivial⟩ ?_
            obtain ⟨r48, hr48, h⟩ := bind_elim h
            refine At.callL (nf := 0) (caps := []) (xs := [.c (oC 5000 2 a39.2), cD (dI p1), cD (dI a38.1), cD (dI a35.1), cD (.fn 77 [])]) [(5000, 5000)] [0, 3, 4, 18, 24] [] (s0 := ⟨[(0, .c (oC 5000 2 a39.2)), (3, cD (dI p3)), (4, cD (.fn 77 [])), (18, cD (dI a35.1)), (24, cD (dI a39.1))], []⟩) (ih hr48) rfl rfl (by kernel_rfl) rfl (by kernel_rfl) (by kernel_rfl) (.ren rfl rfl (.flat (.refl _) rfl rfl (.flat (.refl _) rfl rfl (.flat (.refl _) rfl rfl (.flat (.refl _) rfl rfl .nil))))) ⟨⟨by kernel_rfl, by kernel_rfl⟩, trivial⟩ (by kernel_rfl) (by kernel_rfl) (by kernel_rfl) (by kernel_rfl) (by kernel_rfl) (by kernel_rfl) (by kernel_rfl) (by kernel_rfl) (by kernel_rfl) ⟨[(205, .tup []), (0, .c (oC 5000 2 a39.2)), (3, cD (dI p3)), (4, cD (.fn 77 [])), (18, cD (dI a35.1)), (24, cD (dI a39.1))], [(5000, vL 2 encCount r48)]⟩ (by kernel_rfl) ?_
            obtain ⟨hc49, h⟩ := need_elim h
            refine At.eqS ⟨[(205, .tup []), (0, .c (oC 5000 2 r48)), (3, cD (dI p3)), (4, cD (.fn 77 [])), (18, cD (dI a35.1)), (24, cD (dI a39.1))], [(5000, vL 2 encCount r48)]⟩ (by simp only [oC, vL, hc49]) ?_
            refine At.keep [0, 3, 4, 18, 24] [5000] (s' := ⟨[(0, .c (oC 5000 2 r48)), (3, cD (dI p3)), (4, cD (.fn 77 [])), (18, cD (dI a35.1)), (24, cD (dI a39.1))], [(5000, vL 2 encCount r48)]⟩) (by kernel_rfl) ?_
            refine At.done rfl ?_
            exact ⟨_, h, rfl⟩
           ·refine Tri.keep [0, 3, 4, 18, 24] [5000] (s' := ⟨[(0, .c (oC 5000 2 a39.2)), (3, cD (dI p3)), (4, cD (.fn 77 [])), (18, cD (dI a35.1)), (24, cD (dI a39.1))], [(5000, vL 2 encCount a39.2)]⟩) (by kernel_rfl) ?_
            refine Tri.skip ?_
            exact ⟨_, h, rfl⟩
          ·refine Tri.reg ?_
           refine At.seg 4 [0, 1, 3, 4, 18, 20, 24, 195] [5000] (s' := ⟨[(0, .c (oC 5000 2 a39.2)), (1, cD (dI p1)), (3, cD (dI p3)), (4, cD (.fn 77 [])), (18, cD (dI a35.1)), (20, cD (dI a38.1)), (24, cD (dI a39.1)), (195, cD (.bool (decide (p1 < a38.1))))], [(5000, vL 2 encCount a39.2)]⟩) (c := True ∧ True ∧ True ∧ True ∧ True) (by kernel_rfl) ⟨trivial, trivial, trivial, trivial, trivial⟩ ?_
           refine At.case (fun b => ⟨[(0, .c (oC 5000 2 a39.2)), (1, cD (dI p1)), (3, cD (dI p3)), (4, cD (.fn 77 [])), (18, cD (dI a35.1)), (20, cD (dI a38.1)), (24, cD (dI a39.1)), (195, cD (.bool b))], [(5000, vL 2 encCount a39.2)]⟩) (b := (decide (p1 < a38.1))) h (fun h => ?_) (fun h => ?_)
           ·refine At.seg 4 [0, 1, 3, 4, 18, 20, 24, 199] [5000] (s' := ⟨[(0, .c (oC 5000 2 a39.2)), (1, cD (dI p1)), (3, cD (dI p3)), (4, cD (.fn 77 [])), (18, cD (dI a35.1)), (20, cD (dI a38.1)), (24, cD (dI a39.1)), (199, cD (.bool (decide (a38.1 < a35.1))))], [(5000, vL 2 encCount a39.2)]⟩) (c := True ∧ True ∧ True ∧ True ∧ True) (by kernel_rfl) ⟨trivial, trivial, trivial, trivial, trivial⟩ ?_
            refine At.done rfl ?_
            exact ⟨_, h, rfl⟩
           ·refine At.seg 4 [0, 1, 3, 4, 18, 20, 24, 199] [5000] (s' := ⟨[(0, .c (oC 5000 2 a39.2)), (1, cD (dI p1)), (3, cD (dI p3)), (4, cD (.fn 77 [])), (18, cD (dI a35.1)), (20, cD (dI a38.1)), (24, cD (dI a39.1)), (199, cD (.bool false))], [(5000, vL 2 encCount a39.2)]⟩) (c := True ∧ True) (by kernel_rfl) ⟨trivial, trivial⟩ ?_
            refine At.done rfl ?_
            exact ⟨_, h, rfl⟩
        ·refine Tri.seqJ (fun (a50 : Int × Bool) => ⟨[(0, .c (oC 5000 2 l0)), (1, cD (dI p1)), (2, cD (dI p2)), (3, cD (dI p3)), (4, cD (.fn 77 [])), (18, cD (dI a35.1)), (20, cD (dI a38.1)), (24, cD (dI a50.1)), (185, cD (.bool a50.2))], [(5000, vL 2 encCount l0)]⟩) h (fun a50 h => ?_) (fun j51 h => ?_)
         ·show Tri _ _ ⟨[(0, .c (oC 5000 2 l0)), (1, cD (dI p1)), (2, cD (dI p2)), (3, cD (dI p3)), (4, cD (.fn 77 [])), (18, cD (dI a35.1)), (20, cD (dI a38.1)), (24, cD (dI a50.1)), (185, cD (.bool a50.2))], [(5000, vL 2 encCount l0)]⟩ _
          refine Tri.condP (b := a50.2) rfl h (fun h => ?_) (fun h => ?_)
          ·refine Tri.reg ?_
           refine At.seg 5 [0, 1, 3, 4, 18, 20, 24, 186, 187, 188, 189, 190] [5000] (s' := ⟨[(0, .c (oC 5000 2 l0)), (1, cD (dI p1)), (3, cD (dI p3)), (4, cD (.fn 77 [])), (18, cD (dI a35.1)), (20, cD (dI a38.1)), (24, cD (dI a50.1)), (186, .c (oC 5000 2 l0)), (187, cD (dI a38.1)), (188, cD (dI p2)), (189, cD (dI a50.1)), (190, cD (.fn 77 []))], [(5000, vL 2 encCount l0)]⟩) (c := True ∧ True ∧ True ∧ True ∧ True ∧ True) (by kernel_rfl) ⟨trivial, trivial, trivial, trivial, trivial, trivial⟩ ?_
           obtain ⟨r52, hr52, h⟩ := bind_elim h
           refine At.callL (nf := 0) (caps := []) (xs := [.c (oC 5000 2 l0), cD (dI a38.1), cD (dI p2), cD (dI a50.1), cD (.fn 77 [])]) [(5000, 5000)] [0, 1, 3, 4, 18, 20, 24] [] (s0 := ⟨[(0, .c (oC 5000 2 l0)), (1, cD (dI p1)), (3, cD (dI p3)), (4, cD (.fn 77 [])), (18, cD (dI a35.1)), (20, cD (dI a38.1)), (24, cD (dI a50.1))], []⟩) (slices_rotateCmpFunc_Count__diff_added_1_w_ok hr52) rfl rfl (by kernel_rfl) rfl (by kernel_rfl) (by kernel_rfl) (.ren rfl rfl (.flat (.refl _) rfl rfl (.flat (.refl _) rfl rfl (.flat (.refl _) rfl rfl (.flat (.refl _) rfl rfl .nil))))) ⟨⟨by kernel_rfl, by kernel_rfl⟩, trivial⟩ (by kernel_rfl) (by kernel_rfl) (by kernel_rfl) (by kernel_rfl) (by kernel_rfl) (by kernel_rfl) (by kernel_rfl) (by kernel_rfl) (by kernel_rfl) ⟨[(191, .tup []), (0, .c (oC 5000 2 l0)), (1, cD (dI p1)), (3, cD (dI p3)), (4, cD (.fn 77 [])), (18, cD (dI a35.1)), (20, cD (dI a38.1)), (24, cD (dI a50.1))], [(5000, vL 2 encCount r52)]⟩ (by kernel_rfl) ?_
           obtain ⟨hc53, h⟩ := need_elim h
           refine At.eqS ⟨[(191, .tup []), (0, .c (oC 5000 2 r52)), (1, cD (dI p1)), (3, cD (dI p3)), (4, cD (.fn 77 [])), (18, cD (dI a35.1)), (20, cD (dI a38.1)), (24, cD (dI a50.1))], [(5000, vL 2 encCount r52)]⟩ (by simp only [oC, vL, hc53]) ?_
           refine At.keep [0, 1, 3, 4, 18, 20, 24] [5000] (s' := ⟨[(0, .c (oC 5000 2 r52)), (1, cD (dI p1)), (3, cD (dI p3)), (4, cD (.fn 77 [])), (18, cD (dI a35.1)), (20, cD (dI a38.1)), (24, cD (dI a50.1))], [(5000, vL 2 encCount r52)]⟩) (by kernel_rfl) ?_
           refine At.done rfl ?_
           exact ⟨_, h, rfl⟩
          ·refine Tri.keep [0, 1, 3, 4, 18, 20, 24] [5000] (s' := ⟨[(0, .c (oC 5000 2 l0)), (1, cD (dI p1)), (3, cD (dI p3)), (4, cD (.fn 77 [])), (18, cD (dI a35.1)), (20, cD (dI a38.1)), (24, cD (dI a50.1))], [(5000, vL 2 encCount l0)]⟩) (by kernel_rfl) ?_
           refine Tri.skip ?_
           exact ⟨_, h, rfl⟩
         ·refine Tri.reg ?_
          refine At.seg 4 [0, 1, 2, 3, 4, 18, 20, 24, 181] [5000] (s' := ⟨[(0, .c (oC 5000 2 l0)), (1, cD (dI p1)), (2, cD (dI p2)), (3, cD (dI p3)), (4, cD (.fn 77 [])), (18, cD (dI a35.1)), (20, cD (dI a38.1)), (24, cD (dI (IntKind.i64.wrap (a35.2.1 - a38.1)))), (181, cD (.bool (decide (a38.1 < p2))))], [(5000, vL 2 encCount l0)]⟩) (c := True ∧ True ∧ True ∧ True ∧ True) (by kernel_rfl) ⟨trivial, trivial, trivial, trivial, trivial⟩ ?_
          refine At.case (fun b => ⟨[(0, .c (oC 5000 2 l0)), (1, cD (dI p1)), (2, cD (dI p2)), (3, cD (dI p3)), (4, cD (.fn 77 [])), (18, cD (dI a35.1)), (20, cD (dI a38.1)), (24, cD (dI (IntKind.i64.wrap (a35.2.1 - a38.1)))), (181, cD (.bool b))], [(5000, vL 2 encCount l0)]⟩) (b := (decide (a38.1 < p2))) h (fun h => ?_) (fun h => ?_)
          ·refine At.seg 4 [0, 1, 2, 3, 4, 18, 20, 24, 185] [5000] (s' := ⟨[(0, .c (oC 5000 2 l0)), (1, cD (dI p1)), (2, cD (dI p2)), (3, cD (dI p3)), (4, cD (.fn 77 [])), (18, cD (dI a35.1)), (20, cD (dI a38.1)), (24, cD (dI (IntKind.i64.wrap (a35.2.1 - a38.1)))), (185, cD (.bool (decide (p2 < (IntKind.i64.wrap (a35.2.1 - a38.1))))))], [(5000, vL 2 encCount l0)]⟩) (c := True ∧ True ∧ True ∧ True ∧ True) (by kernel_rfl) ⟨trivial, trivial, trivial, trivial, trivial⟩ ?_
           refine At.done rfl ?_
           exact ⟨_, h, rfl⟩
          ·refine At.seg 4 [0, 1, 2, 3, 4, 18, 20, 24, 185] [5000] (s' := ⟨[(0, .c (oC 5000 2 l0)), (1, cD (dI p1)), (2, cD (dI p2)), (3, cD (dI p3)), (4, cD (.fn 77 [])), (18, cD (dI a35.1)), (20, cD (dI a38.1)), (24, cD (dI (IntKind.i64.wrap (a35.2.1 - a38.1)))), (185, cD (.bool false))], [(5000, vL 2 encCount l0)]⟩) (c := True ∧ True) (by kernel_rfl) ⟨trivial, trivial⟩ ?_
           refine At.done rfl ?_
           exact ⟨_, h, rfl⟩
       · exact fun x => x.elim
      ·refine Tri.segL [0, 1, 2, 3, 4, 18, 19, 140] [5000] ⟨[(0, .c (oC 5000 2 l0)), (1, cD (dI p1)), (2, cD (dI p2)), (3, cD (dI p3)), (4, cD (.fn 77 [])), (18, cD (dI (IntKind.i64.wrap (shrOp .u64 (IntKind.u64.wrap (IntKind.i64.wrap (p1 + p3))) 1)))), (19, cD (dI (IntKind.i64.wrap ((IntKind.i64.wrap (shrOp .u64 (IntKind.u64.wrap (IntKind.i64.wrap (p1 + p3))) 1)) + p2)))), (140, cD (.bool (decide ((IntKind.i64.wrap (shrOp .u64 (IntKind.u64.wrap (IntKind.i64.wrap (p1 + p3))) 1)) < p2))))], [(5000, vL 2 encCount l0)]⟩ (allT 3) (by kernel_rfl) (allT_ok 3) ?_
       refine Tri.condP (b := (decide ((IntKind.i64.wrap (shrOp .u64 (IntKind.u64.wrap (IntKind.i64.wrap (p1 + p3))) 1)) < p2))) rfl h (fun h => ?_) (fun h => ?_)
       ·refine Tri.segL [0, 1, 2, 3, 4, 18, 19, 20] [5000] ⟨[(0, .c (oC 5000 2 l0)), (1, cD (dI p1)), (2, cD (dI p2)), (3, cD (dI p3)), (4, cD (.fn 77 [])), (18, cD (dI (IntKind.i64.wrap (shrOp .u64 (IntKind.u64.wrap (IntKind.i64.wrap (p1 + p3))) 1)))), (19, cD (dI (IntKind.i64.wrap ((IntKind.i64.wrap (shrOp .u64 (IntKind.u64.wrap (IntKind.i64.wrap (p1 + p3))) 1)) + p2)))), (20, cD (dI (IntKind.i64.wrap ((IntKind.i64.wrap ((IntKind.i64.wrap (shrOp .u64 (IntKind.u64.wrap (IntKind.i64.wrap (p1 + p3))) 1)) + p2)) - p3))))], [(5000, vL 2 encCount l0)]⟩ (allT 4) (by kernel_rfl) (allT_ok 4) ?_
        refine Tri.reg ?_
        refine At.seg 2 [0, 1, 2, 3, 4, 18, 19, 20, 21] [5000] (s' := ⟨[(0, .c (oC 5000 2 l0)), (1, cD (dI p1)), (2, cD (dI p2)), (3, cD (dI p3)), (4, cD (.fn 77 [])), (18, cD (dI (IntKind.i64.wrap (shrOp .u64 (IntKind.u64.wrap (IntKind.i64.wrap (p1 + p3))) 1)))), (19, cD (dI (IntKind.i64.wrap ((IntKind.i64.wrap (shrOp .u64 (IntKind.u64.wrap (IntKind.i64.wrap (p1 + p3))) 1)) + p2)))), (20, cD (dI (IntKind.i64.wrap ((IntKind.i64.wrap ((IntKind.i64.wrap (shrOp .u64 (IntKind.u64.wrap (IntKind.i64.wrap (p1 + p3))) 1)) + p2)) - p3)))), (21, cD (dI (IntKind.i64.wrap (shrOp .u64 (IntKind.u64.wrap (IntKind.i64.wrap (p1 + p3))) 1))))], [(5000, vL 2 encCount l0)]⟩) (c := True ∧ True ∧ True) (by kernel_rfl) ⟨trivial, trivial, trivial⟩ ?_
        refine At.done rfl ?_
        exact ⟨_, h, rfl⟩
       ·refine Tri.segL [0, 1, 2, 3, 4, 18, 19, 20] [5000] ⟨[(0, .c (oC 5000 2 l0)), (1, cD (dI p1)), (2, cD (dI p2)), (3, cD (dI p3)), (4, cD (.fn 77 [])), (18, cD (dI (IntKind.i64.wrap (shrOp .u64 (IntKind.u64.wrap (IntKind.i64.wrap (p1 + p3))) 1)))), (19, cD (dI (IntKind.i64.wrap ((IntKind.i64.wrap (shrOp .u64 (IntKind.u64.wrap (IntKind.i64.wrap (p1 + p3))) 1)) + p2)))), (20, cD (dI p1))], [(5000, vL 2 encCount l0)]⟩ (allT 2) (by kernel_rfl) (allT_ok 2) ?_
        refine Tri.reg ?_
        refine At.seg 2 [0, 1, 2, 3, 4, 18, 19, 20, 21] [5000] (s' := ⟨[(0, .c (oC 5000 2 l0)), (1, cD (dI p1)), (2, cD (dI p2)), (3, cD (dI p3)), (4, cD (.fn 77 [])), (18, cD (dI (IntKind.i64.wrap (shrOp .u64 (IntKind.u64.wrap (IntKind.i64.wrap (p1 + p3))) 1)))), (19, cD (dI (IntKind.i64.wrap ((IntKind.i64.wrap (shrOp .u64 (IntKind.u64.wrap (IntKind.i64.wrap (p1 + p3))) 1)) + p2)))), (20, cD (dI p1)), (21, cD (dI p2))], [(5000, vL 2 encCount l0)]⟩) (c := True ∧ True ∧ True) (by kernel_rfl) ⟨trivial, trivial, trivial⟩ ?_
        refine At.done rfl ?_
        exact ⟨_, h, rfl⟩
set_option maxRecDepth 100000 in
theorem slices_stableCmpFunc_Count__diff_added_1_w_ok {fuel : Nat} {p1 : Int} {l0 : List Count} {q : List Count} (h : slices_stableCmpFunc_Count__diff_added_1_w fuel p1 l0 = some q) :
    Summ Try.prog 96 [.c (oC 5000 2 l0), cD (dI p1), cD (.fn 77 [])] [(5000, vL 2 encCount l0)] (.tup []) [(5000, vL 2 encCount q)] := by
  refine Summ.intro Try.func96 rfl (by kernel_rfl) (by kernel_rfl) [] rfl ?_
  rintro ⟨P, w0, G0, V, LL, lk, N, φ0, fx⟩ rfl rfl rfl rfl
  unfold slices_stableCmpFunc_Count__diff_added_1_w at h
  refine Tri.segC [0, 1, 2, 6] [5000] (allT 1) (by kernel_rfl) (by kernel_rfl) (allT_ok 1) ?_
  refine Tri.segC [0, 1, 2, 6, 7, 8] [5000] (allT 3) (by kernel_rfl) (by kernel_rfl) (allT_ok 3) ?_
  refine Tri.seqS ?_
  refine Tri.keep [0, 1, 2, 6, 7, 8] [5000] (s' := ⟨[(0, .c (oC 5000 2 l0)), (1, cD (dI p1)), (2, cD (.fn 77 [])), (6, cD (dI 20)), (7, cD (dI 0)), (8, cD (dI 20))], [(5000, vL 2 encCount l0)]⟩) (by kernel_rfl) ?_
  refine Tri.loopK (fuel := fuel) (st0 := (0, 20, l0)) (fun (x : Empty) s => False) (fun (a1 : Int × Int × (List Count)) => ⟨[(0, .c (oC 5000 2 a1.2.2)), (1, cD (dI p1)), (2, cD (.fn 77 [])), (6, cD (dI 20)), (7, cD (dI a1.1)), (8, cD (dI a1.2.1))], [(5000, vL 2 encCount a1.2.2)]⟩) (fun (a1 : Int × Int × (List Count)) => ⟨[(0, .c (oC 5000 2 a1.2.2)), (1, cD (dI p1)), (2, cD (.fn 77 [])), (6, cD (dI 20)), (7, cD (dI a1.1)), (8, cD (dI a1.2.1))], [(5000, vL 2 encCount a1.2.2)]⟩) h ?_ ?_ ?_
  ·intro a1 c h
   show Tri _ _ ⟨[(0, .c (oC 5000 2 a1.2.2)), (1, cD (dI p1)), (2, cD (.fn 77 [])), (6, cD (dI 20)), (7, cD (dI a1.1)), (8, cD (dI a1.2.1))], [(5000, vL 2 encCount a1.2.2)]⟩ _
   refine Tri.seqS ?_
   refine Tri.segL [0, 1, 2, 6, 7, 8, 13] [5000] ⟨[(0, .c (oC 5000 2 a1.2.2)), (1, cD (dI p1)), (2, cD (.fn 77 [])), (6, cD (dI 20)), (7, cD (dI a1.1)), (8, cD (dI a1.2.1)), (13, cD (.bool (decide (a1.2.1 ≤ p1))))], [(5000, vL 2 encCount a1.2.2)]⟩ (allT 3) (by kernel_rfl) (allT_ok 3) ?_
   refine Tri.condP (b := (decide (a1.2.1 ≤ p1))) rfl h (fun h => ?_) (fun h => ?_)
   ·refine Tri.skip ?_
    show Tri _ _ _ _
    refine Tri.blockB ?_
    refine Tri.seqS ?_
    refine Tri.reg ?_
    refine At.seg 4 [0, 1, 2, 6, 8, 14, 15, 16, 17] [5000] (s' := ⟨[(0, .c (oC 5000 2 a1.2.2)), (1, cD (dI p1)), (2, cD (.fn 77 [])), (6, cD (dI 20)), (8, cD (dI a1.2.1)), (14, .c (oC 5000 2 a1.2.2)), (15, cD (dI a1.1)), (16, cD (dI a1.2.1)), (17, cD (.fn 77 []))], [(5000, vL 2 encCount a1.2.2)]⟩) (c := True ∧ True ∧ True ∧ True ∧ True) (by kernel_rfl) ⟨trivial, trivial, trivial, trivial, trivial⟩ ?_
    obtain ⟨r15, hr15, h⟩ := bind_elim h
    refine At.callL (nf := 0) (caps := []) (xs := [.c (oC 5000 2 a1.2.2), cD (dI a1.1), cD (dI a1.2.1), cD (.fn 77 [])]) [(5000, 5000)] [0, 1, 2, 6, 8] [] (s0 := ⟨[(0, .c (oC 5000 2 a1.2.2)), (1, cD (dI p1)), (2, cD (.fn 77 [])), (6, cD (dI 20)), (8, cD (dI a1.2.1))], []⟩) (slices_insertionSortCmpFunc_Count__diff_added_1_w_ok hr15) rfl rfl (by kernel_rfl) rfl (by kernel_rfl) (by kernel_rfl) (.ren rfl rfl (.flat (.refl _) rfl rfl (.flat (.refl _) rfl rfl (.flat (.refl _) rfl rfl .nil)))) ⟨⟨by kernel_rfl, by kernel_rfl⟩, trivial⟩ (by kernel_rfl) (by kernel_rfl) (by kernel_rfl) (by kernel_rfl) (by kernel_rfl) (by kernel_rfl) (by kernel_rfl) (by kernel_rfl) (by kernel_rfl) ⟨[(18, .tup []), (0, .c (oC 5000 2 a1.2.2)), (1, cD (dI p1)), (2, cD (.fn 77 [])), (6, cD (dI 20)), (8, cD (dI a1.2.1))], [(5000, vL 2 encCount r15)]⟩ (by kernel_rfl) ?_
    obtain ⟨hc16, h⟩ := need_elim h
    refine At.eqS ⟨[(18, .tup []), (0, .c (oC 5000 2 r15)), (1, cD (dI p1)), (2, cD (.fn 77 [])), (6, cD (dI 20)), (8, cD (dI a1.2.1))], [(5000, vL 2 encCount r15)]⟩ (by simp only [oC, vL, hc16]) ?_
    refine At.done rfl ?_
    show Tri _ _ _ _
    refine Tri.segL [0, 1, 2, 6, 7, 8] [5000] ⟨[(0, .c (oC 5000 2 r15)), (1, cD (dI p1)), (2, cD (.fn 77 [])), (6, cD (dI 20)), (7, cD (dI a1.2.1)), (8, cD (dI a1.2.1))], [(5000, vL 2 encCount r15)]⟩ (allT 2) (by kernel_rfl) (allT_ok 2) ?_
    refine Tri.reg ?_
    refine At.seg 4 [0, 1, 2, 6, 7, 8] [5000] (s' := ⟨[(0, .c (oC 5000 2 r15)), (1, cD (dI p1)), (2, cD (.fn 77 [])), (6, cD (dI 20)), (7, cD (dI a1.2.1)), (8, cD (dI (IntKind.i64.wrap (a1.2.1 + 20))))], [(5000, vL 2 encCount r15)]⟩) (c := True ∧ True ∧ True ∧ True ∧ True) (by kernel_rfl) ⟨trivial, trivial, trivial, trivial, trivial⟩ ?_
    refine At.done rfl ?_
    cases h
    exact rfl
   ·refine Tri.keep [0, 1, 2, 6, 7, 8] [5000] (s' := ⟨[(0, .c (oC 5000 2 a1.2.2)), (1, cD (dI p1)), (2, cD (.fn 77 [])), (6, cD (dI 20)), (7, cD (dI a1.1)), (8, cD (dI a1.2.1))], [(5000, vL 2 encCount a1.2.2)]⟩) (by kernel_rfl) ?_
    refine Tri.exit ?_
    cases h
    exact ⟨rfl, rfl⟩
  ·intro a2 h
   show Tri _ _ _ _
   refine Tri.seqS ?_
   refine Tri.reg ?_
   refine At.seg 4 [0, 1, 2, 6, 23, 24, 25, 26] [5000] (s' := ⟨[(0, .c (oC 5000 2 a2.2.2)), (1, cD (dI p1)), (2, cD (.fn 77 [])), (6, cD (dI 20)), (23, .c (oC 5000 2 a2.2.2)), (24, cD (dI a2.1)), (25, cD (dI p1)), (26, cD (.fn 77 []))], [(5000, vL 2 encCount a2.2.2)]⟩) (c := True ∧ True ∧ True ∧ True ∧ True) (by kernel_rfl) ⟨trivial, trivial, trivial, trivial, trivial⟩ ?_
   obtain ⟨r3, hr3, h⟩ := bind_elim h
   refine At.callL (nf := 0) (caps := []) (xs := [.c (oC 5000 2 a2.2.2), cD (dI a2.1), cD (dI p1), cD (.fn 77 [])]) [(5000, 5000)] [0, 1, 2, 6] [] (s0 := ⟨[(0, .c (oC 5000 2 a2.2.2)), (1, cD (dI p1)), (2, cD (.fn 77 [])), (6, cD (dI 20))], []⟩) (slices_insertionSortCmpFunc_Count__diff_added_1_w_ok hr3) rfl rfl (by kernel_rfl) rfl (by kernel_rfl) (by kernel_rfl) (.ren rfl rfl (.flat (.refl _) rfl rfl (.flat (.refl _) rfl rfl (.flat (.refl _) rfl rfl .nil)))) ⟨⟨by kernel_rfl, by kernel_rfl⟩, trivial⟩ (by kernel_rfl) (by kernel_rfl) (by kernel_rfl) (by kernel_rfl) (by kernel_rfl) (by kernel_rfl) (by kernel_rfl) (by kernel_rfl) (by kernel_rfl) ⟨[(27, .tup []), (0, .c (oC 5000 2 a2.2.2)), (1, cD (dI p1)), (2, cD (.fn 77 [])), (6, cD (dI 20))], [(5000, vL 2 encCount r3)]⟩ (by kernel_rfl) ?_
   obtain ⟨hc4, h⟩ := need_elim h
   refine At.eqS ⟨[(27, .tup []), (0, .c (oC 5000 2 r3)), (1, cD (dI p1)), (2, cD (.fn 77 [])), (6, cD (dI 20))], [(5000, vL 2 encCount r3)]⟩ (by simp only [oC, vL, hc4]) ?_
   refine At.done rfl ?_
   show Tri _ _ _ _
   refine Tri.keep [0, 1, 2, 6] [5000] (s' := ⟨[(0, .c (oC 5000 2 r3)), (1, cD (dI p1)), (2, cD (.fn 77 [])), (6, cD (dI 20))], [(5000, vL 2 encCount r3)]⟩) (by kernel_rfl) ?_
   refine Tri.loopK (fuel := fuel) (st0 := (20, r3)) (fun (x : Empty) s => False) (fun (a5 : Int × (List Count)) => ⟨[(0, .c (oC 5000 2 a5.2)), (1, cD (dI p1)), (2, cD (.fn 77 [])), (6, cD (dI a5.1))], [(5000, vL 2 encCount a5.2)]⟩) (fun (a5 : Int × (List Count)) => ⟨[], [(5000, vL 2 encCount a5.2)]⟩) h ?_ ?_ ?_
   ·intro a5 c h
    show Tri _ _ ⟨[(0, .c (oC 5000 2 a5.2)), (1, cD (dI p1)), (2, cD (.fn 77 [])), (6, cD (dI a5.1))], [(5000, vL 2 encCount a5.2)]⟩ _
    refine Tri.seqS ?_
    refine Tri.segL [0, 1, 2, 6, 30] [5000] ⟨[(0, .c (oC 5000 2 a5.2)), (1, cD (dI p1)), (2, cD (.fn 77 [])), (6, cD (dI a5.1)), (30, cD (.bool (decide (a5.1 < p1))))], [(5000, vL 2 encCount a5.2)]⟩ (allT 3) (by kernel_rfl) (allT_ok 3) ?_
    refine Tri.condP (b := (decide (a5.1 < p1))) rfl h (fun h => ?_) (fun h => ?_)
    ·refine Tri.skip ?_
     show Tri _ _ _ _
     refine Tri.blockB ?_
     refine Tri.segC [0, 1, 2, 6, 7, 8] [5000] (allT 4) (by kernel_rfl) (by kernel_rfl) (allT_ok 4) ?_
     refine Tri.seqS ?_
     refine Tri.keep [0, 1, 2, 6, 7, 8] [5000] (s' := ⟨[(0, .c (oC 5000 2 a5.2)), (1, cD (dI p1)), (2, cD (.fn 77 [])), (6, cD (dI a5.1)), (7, cD (dI 0)), (8, cD (dI (IntKind.i64.wrap ((2 : Int) * a5.1))))], [(5000, vL 2 encCount a5.2)]⟩) (by kernel_rfl) ?_
     refine Tri.loopK (fuel := fuel) (st0 := (0, (IntKind.i64.wrap ((2 : Int) * a5.1)), a5.2)) (fun (x : Empty) s => False) (fun (a7 : Int × Int × (List Count)) => ⟨[(0, .c (oC 5000 2 a7.2.2)), (1, cD (dI p1)), (2, cD (.fn 77 [])), (6, cD (dI a5.1)), (7, cD (dI a7.1)), (8, cD (dI a7.2.1))], [(5000, vL 2 encCount a7.2.2)]⟩) (fun (a7 : Int × Int × (List Count)) => ⟨[(0, .c (oC 5000 2 a7.2.2)), (1, cD (dI p1)), (2, cD (.fn 77 [])), (6, cD (dI a5.1)), (7, cD (dI a7.1)), (8, cD (dI a7.2.1))], [(5000, vL 2 encCount a7.2.2)]⟩) h ?_ ?_ ?_
     ·intro a7 c h
      show Tri _ _ ⟨[(0, .c (oC 5000 2 a7.2.2)), (1, cD (dI p1)), (2, cD (.fn 77 [])), (6, cD (dI a5.1)), (7, cD (dI a7.1)), (8, cD (dI a7.2.1))], [(5000, vL 2 encCount a7.2.2)]⟩ _
      refine Tri.seqS ?_
      refine Tri.segL [0, 1, 2, 6, 7, 8, 35] [5000] ⟨[(0, .c (oC 5000 2 a7.2.2)), (1, cD (dI p1)), (2, cD (.fn 77 [])), (6, cD (dI a5.1)), (7, cD (dI a7.1)), (8, cD (dI a7.2.1)), (35, cD (.bool (decide (a7.2.1 ≤ p1))))], [(5000, vL 2 encCount a7.2.2)]⟩ (allT 3) (by kernel_rfl) (allT_ok 3) ?_
      refine Tri.condP (b := (decide (a7.2.1 ≤ p1))) rfl h (fun h => ?_) (fun h => ?_)
      ·refine Tri.skip ?_
       show Tri _ _ _ _
       refine Tri.blockB ?_
       refine Tri.seqS ?_
       refine Tri.reg ?_
       refine At.seg 7 [0, 1, 2, 6, 8, 36, 37, 40, 41, 42] [5000] (s' := ⟨[(0, .c (oC 5000 2 a7.2.2)), (1, cD (dI p1)), (2, cD (.fn 77 [])), (6, cD (dI a5.1)), (8, cD (dI a7.2.1)), (36, .c (oC 5000 2 a7.2.2)), (37, cD (dI a7.1)), (40, cD (dI (IntKind.i64.wrap (a7.1 + a5.1)))), (41, cD (dI a7.2.1)), (42, cD (.fn 77 []))], [(5000, vL 2 encCount a7.2.2)]⟩) (c := True ∧ True ∧ True ∧ True ∧ True ∧ True ∧ True ∧ True) (by kernel_rfl) ⟨trivial, trivial, trivial, trivial, trivial, trivial, trivial, trivial⟩ ?_
       obtain ⟨r13, hr13, h⟩ := bind_elim h
       refine At.callL (nf := 0) (caps := []) (xs := [.c (oC 5000 2 a7.2.2), cD (dI a7.1), cD (dI (IntKind.i64.wrap (a7.1 + a5.1))), cD (dI a7.2.1), cD (.fn 77 [])]) [(5000, 5000)] [0, 1, 2, 6, 8] [] (s0 := ⟨[(0, .c (oC 5000 2 a7.2.2)), (1, cD (dI p1)), (2, cD (.fn 77 [])), (6, cD (dI a5.1)), (8, cD (dI a7.2.1))], []⟩) (slices_symMergeCmpFunc_Count__diff_added_1_w_ok hr13) rfl rfl (by kernel_rfl) rfl (by kernel_rfl) (by kernel_rfl) (.ren rfl rfl (.flat (.refl _) rfl rfl (.flat (.refl _) rfl rfl (.flat (.refl _) rfl rfl (.flat (.refl _) rfl rfl .nil))))) ⟨⟨by kernel_rfl, by kernel_rfl⟩, trivial⟩ (by kernel_rfl) (by kernel_rfl) (by kernel_rfl) (by kernel_rfl) (by kernel_rfl) (by kernel_rfl) (by kernel_rfl) (by kernel_rfl) (by kernel_rfl) ⟨[(43, .tup []), (0, .c (oC 5000 2 a7.2.2)), (1, cD (dI p1)), (2, cD (.fn 77 [])), (6, cD (dI a5.1)), (8, cD (dI a7.2.1))], [(5000, vL 2 encCount r13)]⟩ (by kernel_rfl) ?_
       obtain ⟨hc14, h⟩ := need_elim h
       refine At.eqS ⟨[(43, .tup []), (0, .c (oC 5000 2 r13)), (1, cD (dI p1)), (2, cD (.fn 77 [])), (6, cD (dI a5.1)), (8, cD (dI a7.2.1))], [(5000, vL 2 encCount r13)]⟩ (by simp only [oC, vL, hc14]) ?_
       refine At.done rfl ?_
       show Tri _ _ _ _
       refine Tri.segL [0, 1, 2, 6, 7, 8] [5000] ⟨[(0, .c (oC 5000 2 r13)), (1, cD (dI p1)), (2, cD (.fn 77 [])), (6, cD (dI a5.1)), (7, cD (dI a7.2.1)), (8, cD (dI a7.2.1))], [(5000, vL 2 encCount r13)]⟩ (allT 2) (by kernel_rfl) (allT_ok 2) ?_
       refine Tri.reg ?_
       refine At.seg 5 [0, 1, 2, 6, 7, 8] [5000] (s' := ⟨[(0, .c (oC 5000 2 r13)), (1, cD (dI p1)), (2, cD (.fn 77 [])), (6, cD (dI a5.1)), (7, cD (dI a7.2.1)), (8, cD (dI (IntKind.i64.wrap (a7.2.1 + (IntKind.i64.wrap ((2 : Int) * a5.1))))))], [(5000, vL 2 encCount r13)]⟩) (c := True ∧ True ∧ True ∧ True ∧ True ∧ True) (by kernel_rfl) ⟨trivial, trivial, trivial, trivial, trivial, trivial⟩ ?_
       refine At.done rfl ?_
       cases h
       exact rfl
      ·refine Tri.keep [0, 1, 2, 6, 7, 8] [5000] (s' := ⟨[(0, .c (oC 5000 2 a7.2.2)), (1, cD (dI p1)), (2, cD (.fn 77 [])), (6, cD (dI a5.1)), (7, cD (dI a7.1)), (8, cD (dI a7.2.1))], [(5000, vL 2 encCount a7.2.2)]⟩) (by kernel_rfl) ?_
       refine Tri.exit ?_
       cases h
       exact ⟨rfl, rfl⟩
     ·intro a8 h
      show Tri _ _ _ _
      refine Tri.seqJ (fun (a9 : List Count) => ⟨[(0, .c (oC 5000 2 a9)), (1, cD (dI p1)), (2, cD (.fn 77 [])), (6, cD (dI a5.1))], [(5000, vL 2 encCount a9)]⟩) h (fun a9 h => ?_) (fun j10 h => ?_)
      ·show Tri _ _ ⟨[(0, .c (oC 5000 2 a9)), (1, cD (dI p1)), (2, cD (.fn 77 [])), (6, cD (dI a5.1))], [(5000, vL 2 encCount a9)]⟩ _
       refine Tri.reg ?_
       refine At.seg 3 [0, 1, 2, 6] [5000] (s' := ⟨[(0, .c (oC 5000 2 a9)), (1, cD (dI p1)), (2, cD (.fn 77 [])), (6, cD (dI (IntKind.i64.wrap (a5.1 * 2))))], [(5000, vL 2 encCount a9)]⟩) (c := True ∧ True ∧ True ∧ True) (by kernel_rfl) ⟨trivial, trivial, trivial, trivial⟩ ?_
       refine At.done rfl ?_
       cases h
       exact rfl
      ·refine Tri.segC [0, 1, 2, 6, 7, 9] [5000] (allT 4) (by kernel_rfl) (by kernel_rfl) (allT_ok 4) ?_
       refine Tri.segL [0, 1, 2, 6, 7, 9, 54] [5000] ⟨[(0, .c (oC 5000 2 a8.2.2)), (1, cD (dI p1)), (2, cD (.fn 77 [])), (6, cD (dI a5.1)), (7, cD (dI a8.1)), (9, cD (dI (IntKind.i64.wrap (a8.1 + a5.1)))), (54, cD (.bool (decide ((IntKind.i64.wrap (a8.1 + a5.1)) < p1))))], [(5000, vL 2 encCount a8.2.2)]⟩ (allT 3) (by kernel_rfl) (allT_ok 3) ?_
       refine Tri.condP (b := (decide ((IntKind.i64.wrap (a8.1 + a5.1)) < p1))) rfl h (fun h => ?_) (fun h => ?_)
       ·refine Tri.reg ?_
        refine At.seg 5 [0, 1, 2, 6, 55, 56, 57, 58, 59] [5000] (s' := ⟨[(0, .c (oC 5000 2 a8.2.2)), (1, cD (dI p1)), (2, cD (.fn 77 [])), (6, cD (dI a5.1)), (55, .c (oC 5000 2 a8.2.2)), (56, cD (dI a8.1)), (57, cD (dI (IntKind.i64.wrap (a8.1 + a5.1)))), (58, cD (dI p1)), (59, cD (.fn 77 []))], [(5000, vL 2 encCount a8.2.2)]⟩) (c := True ∧ True ∧ True ∧ True ∧ True ∧ True) (by kernel_rfl) ⟨trivial, trivial, trivial, trivial, trivial, trivial⟩ ?_
        obtain ⟨r11, hr11, h⟩ := bind_elim h
        refine At.callL (nf := 0) (caps := []) (xs := [.c (oC 5000 2 a8.2.2), cD (dI a8.1), cD (dI (IntKind.i64.wrap (a8.1 + a5.1))), cD (dI p1), cD (.fn 77 [])]) [(5000, 5000)] [0, 1, 2, 6] [] (s0 := ⟨[(0, .c (oC 5000 2 a8.2.2)), (1, cD (dI p1)), (2, cD (.fn 77 [])), (6, cD (dI a5.1))], []⟩) (slices_symMergeCmpFunc_Count__diff_added_1_w_ok hr11) rfl rfl (by kernel_rfl) rfl (by kernel_rfl) (by kernel_rfl) (.ren rfl rfl (.flat (.refl _) rfl rfl (.flat (.refl _) rfl rfl (.flat (.refl _) rfl rfl (.flat (.refl _) rfl rfl .nil))))) ⟨⟨by kernel_rfl, by kernel_rfl⟩, trivial⟩ (by kernel_rfl) (by kernel_rfl) (by kernel_rfl) (by kernel_rfl) (by kernel_rfl) (by kernel_rfl) (by kernel_rfl) (by kernel_rfl) (by kernel_rfl) ⟨[(60, .tup []), (0, .c (oC 5000 2 a8.2.2)), (1, cD (dI p1)), (2, cD (.fn 77 [])), (6, cD (dI a5.1))], [(5000, vL 2 encCount r11)]⟩ (by kernel_rfl) ?_
        obtain ⟨hc12, h⟩ := need_elim h
        refine At.eqS ⟨[(60, .tup []), (0, .c (oC 5000 2 r11)), (1, cD (dI p1)), (2, cD (.fn 77 [])), (6, cD (dI a5.1))], [(5000, vL 2 encCount r11)]⟩ (by simp only [oC, vL, hc12]) ?_
        refine At.keep [0, 1, 2, 6] [5000] (s' := ⟨[(0, .c (oC 5000 2 r11)), (1, cD (dI p1)), (2, cD (.fn 77 [])), (6, cD (dI a5.1))], [(5000, vL 2 encCount r11)]⟩) (by kernel_rfl) ?_
        refine At.done rfl ?_
        exact ⟨_, h, rfl⟩
       ·refine Tri.keep [0, 1, 2, 6] [5000] (s' := ⟨[(0, .c (oC 5000 2 a8.2.2)), (1, cD (dI p1)), (2, cD (.fn 77 [])), (6, cD (dI a5.1))], [(5000, vL 2 encCount a8.2.2)]⟩) (by kernel_rfl) ?_
        refine Tri.skip ?_
        exact ⟨_, h, rfl⟩
     · exact fun x => x.elim
    ·refine Tri.keep [] [5000] (s' := ⟨[], [(5000, vL 2 encCount a5.2)]⟩) (by kernel_rfl) ?_
     refine Tri.exit ?_
     cases h
     exact ⟨rfl, rfl⟩
   ·intro a6 h
    cases h
    refine ⟨_, _, rfl, trivial, rfl, rfl, ?_⟩
    exact SubS.out ⟨⟨rfl, rfl⟩, trivial⟩
   · exact fun x => x.elim
  · exact fun x => x.elim
set_option maxRecDepth 100000 in
theorem slices_SortStableFuncfreshet_api_Count_freshet_api_Count_Count__diff_added_1_w_ok {fuel : Nat} {l0 : List Count} {q : List Count} (h : slices_SortStableFuncfreshet_api_Count_freshet_api_Count_Count__diff_added_1_w fuel l0 = some q) :
    Summ Try.prog 90 [.c (oC 5000 2 l0), cD (.fn 77 [])] [(5000, vL 2 encCount l0)] (.tup []) [(5000, vL 2 encCount q)] := by
  refine Summ.intro Try.func90 rfl (by kernel_rfl) (by kernel_rfl) [] rfl ?_
  rintro ⟨P, w0, G0, V, LL, lk, N, φ0, fx⟩ rfl rfl rfl rfl
  unfold slices_SortStableFuncfreshet_api_Count_freshet_api_Count_Count__diff_added_1_w at h
  refine Tri.reg ?_
  refine At.seg 4 [4, 6, 7] [5000] (s' := ⟨[(4, .c (oC 5000 2 l0)), (6, cD (dI (l0.length : Int))), (7, cD (.fn 77 []))], [(5000, vL 2 encCount l0)]⟩) (c := True ∧ True ∧ True ∧ True ∧ True) (by kernel_rfl) ⟨trivial, trivial, trivial, trivial, trivial⟩ ?_
  obtain ⟨r1, hr1, h⟩ := bind_elim h
  refine At.callL (nf := 0) (caps := []) (xs := [.c (oC 5000 2 l0), cD (dI (l0.length : Int)), cD (.fn 77 [])]) [(5000, 5000)] [] [] (s0 := ⟨[], []⟩) (slices_stableCmpFunc_Count__diff_added_1_w_ok hr1) rfl rfl (by kernel_rfl) rfl (by kernel_rfl) (by kernel_rfl) (.ren rfl rfl (.flat (.refl _) rfl rfl (.flat (.refl _) rfl rfl .nil))) ⟨⟨by kernel_rfl, by kernel_rfl⟩, trivial⟩ (by kernel_rfl) (by kernel_rfl) (by kernel_rfl) (by kernel_rfl) (by kernel_rfl) (by kernel_rfl) (by kernel_rfl) (by kernel_rfl) (by kernel_rfl) ⟨[(8, .tup [])], [(5000, vL 2 encCount r1)]⟩ (by kernel_rfl) ?_
  refine At.keep [] [5000] (s' := ⟨[], [(5000, vL 2 encCount r1)]⟩) (by kernel_rfl) ?_
  refine At.done rfl ?_
  cases h
  refine ⟨_, _, rfl, trivial, rfl, rfl, ?_⟩
  exact SubS.out ⟨⟨rfl, rfl⟩, trivial⟩
set_option maxRecDepth 100000 in
theorem diff_added_2_ok {p0 : Count} {q : Int} (h : diff_added_2 p0 = some q) :
    Summ Try.prog 78 [.agg (cCount p0)] [] (cD (dI q)) [] := by
  refine Summ.intro Try.func78 rfl (by kernel_rfl) (by kernel_rfl) [] rfl ?_
  rintro ⟨P, w0, G0, V, LL, lk, N, φ0, fx⟩ rfl rfl rfl rfl
  unfold diff_added_2 at h
  refine Tri.segC [1] [1] (allT 2) (by kernel_rfl) (by kernel_rfl) (allT_ok 2) ?_
  refine Tri.segC [2] [] (allT 3) (by kernel_rfl) (by kernel_rfl) (allT_ok 3) ?_
  refine Tri.keep [2] [] (s' := ⟨[(2, cD (dI p0.n))], []⟩) (by kernel_rfl) ?_
  refine Tri.ret ?_
  cases h
  refine ⟨_, _, rfl, ⟨trivial, trivial⟩, rfl, rfl, ?_⟩
  intro k c h
  cases h
set_option maxRecDepth 100000 in
theorem freshet_diff_tally_add_w1_ok {p0 : Nat} {p1 : Int} {l0 : List Line_Count} {q : List Line_Count} (h : freshet_diff_tally_add_w1 p0 p1 l0 = some q) :
    Summ Try.prog 31 [.c (.vptr 5000 4 p0 0), cD (dI p1)] [(5000, vL 4 encLine_Count l0)] (.tup []) [(5000, vL 4 encLine_Count q)] := by
  refine Summ.intro Try.func31 rfl (by kernel_rfl) (by kernel_rfl) [] rfl ?_
  rintro ⟨P, w0, G0, V, LL, lk, N, φ0, fx⟩ rfl rfl rfl rfl
  unfold freshet_diff_tally_add_w1 at h
  refine Tri.segL [0, 1] [5000] ⟨[(0, .c (.vptr 5000 4 p0 0)), (1, cD (dI p1))], [(5000, vL 4 encLine_Count l0)]⟩ (allT 1) (by kernel_rfl) (allT_ok 1) ?_
  refine Tri.seqS ?_
  refine Tri.reg ?_
  obtain ⟨hc1, h⟩ := need_elim h
  refine At.seg 7 [0, 1, 6, 10, 12] [5000] (s' := ⟨[(0, .c (.vptr 5000 4 p0 0)), (1, cD (dI p1)), (6, .c (.vptr 5000 4 p0 0)), (10, cD (dU ((l0.getD p0 default).tally.low))), (12, cD (dU (IntKind.u64.wrap p1)))], [(5000, vL 4 encLine_Count l0)]⟩) (c := True ∧ True ∧ True ∧ True ∧ (p0 < l0.length) ∧ True ∧ True ∧ True) (by kernel_rfl) ⟨trivial, trivial, trivial, trivial, hc1, trivial, trivial, trivial⟩ ?_
  obtain ⟨r2, hr2, h⟩ := bind_elim h
  refine At.callA (caps := []) (xs := [cD (dU ((l0.getD p0 default).tally.low)), cD (dU (IntKind.u64.wrap p1)), cD (dU 0)]) (bits_Add64_ok (fn := Try.f60) Try.func60 rfl rfl (by kernel_rfl) (by kernel_rfl) hr2) rfl rfl rfl rfl rfl rfl (.cons (.refl _) (.cons (.refl _) (.cons (.refl _) .nil))) rfl rfl ?_
  refine At.seg 5 [0, 1, 14, 15, 17] [5000] (s' := ⟨[(0, .c (.vptr 5000 4 p0 0)), (1, cD (dI p1)), (14, cD (dU r2.1)), (15, cD (dU r2.2)), (17, .c (.vptr 5000 4 p0 1))], [(5000, vL 4 encLine_Count l0)]⟩) (c := True ∧ True ∧ True ∧ True ∧ True ∧ True) (by kernel_rfl) ⟨trivial, trivial, trivial, trivial, trivial, trivial⟩ ?_
  obtain ⟨hc3, h⟩ := need_elim h
  refine At.one rfl (One.storeT (xs := [.d (dU r2.1)]) (ds := [dU r2.1]) (encLine_Count) l0 (⟨(⟨(l0.getD p0 default).tally.high, r2.1⟩ : Tally), (l0.getD p0 default).of⟩ : Line_Count) rfl rfl rfl rfl rfl hc3 rfl rfl (.refl _) rfl rfl rfl rfl) ?_
  refine At.seg 1 [0, 1, 4] [5000] (s' := ⟨[(0, .c (.vptr 5000 4 p0 0)), (1, cD (dI p1)), (4, cD (dU r2.2))], [(5000, vL 4 encLine_Count (l0.set p0 (⟨(⟨(l0.getD p0 default).tally.high, r2.1⟩ : Tally), (l0.getD p0 default).of⟩ : Line_Count)))]⟩) (c := True ∧ True) (by kernel_rfl) ⟨trivial, trivial⟩ ?_
  refine At.done rfl ?_
  show Tri _ _ _ _
  refine Tri.reg ?_
  obtain ⟨hc4, h⟩ := need_elim h
  refine At.seg 9 [19, 23, 26, 27] [5000] (s' := ⟨[(19, .c (.vptr 5000 4 p0 0)), (23, cD (dU (((l0.set p0 (⟨(⟨(l0.getD p0 default).tally.high, r2.1⟩ : Tally), (l0.getD p0 default).of⟩ : Line_Count)).getD p0 default).tally.high))), (26, cD (dU (IntKind.u64.wrap (shrOp .i64 p1 63)))), (27, cD (dU r2.2))], [(5000, vL 4 encLine_Count (l0.set p0 (⟨(⟨(l0.getD p0 default).tally.high, r2.1⟩ : Tally), (l0.getD p0 default).of⟩ : Line_Count)))]⟩) (c := True ∧ True ∧ True ∧ True ∧ (p0 < (l0.set p0 (⟨(⟨(l0.getD p0 default).tally.high, r2.1⟩ : Tally), (l0.getD p0 default).of⟩ : Line_Count)).length) ∧ True ∧ ((0 : Int) ≤ 63) ∧ True ∧ True ∧ True) (by kernel_rfl) ⟨trivial, trivial, trivial, trivial, hc4, trivial, (by decide : (0 : Int) ≤ 63), trivial, trivial, trivial⟩ ?_
  obtain ⟨r5, hr5, h⟩ := bind_elim h
  refine At.callA (caps := []) (xs := [cD (dU (((l0.set p0 (⟨(⟨(l0.getD p0 default).tally.high, r2.1⟩ : Tally), (l0.getD p0 default).of⟩ : Line_Count)).getD p0 default).tally.high)), cD (dU (IntKind.u64.wrap (shrOp .i64 p1 63))), cD (dU r2.2)]) (bits_Add64_ok (fn := Try.f60) Try.func60 rfl rfl (by kernel_rfl) (by kernel_rfl) hr5) rfl rfl rfl rfl rfl rfl (.cons (.refl _) (.cons (.refl _) (.cons (.refl _) .nil))) rfl rfl ?_
  refine At.seg 5 [29, 32] [5000] (s' := ⟨[(29, cD (dU r5.1)), (32, .c (.vptr 5000 4 p0 0))], [(5000, vL 4 encLine_Count (l0.set p0 (⟨(⟨(l0.getD p0 default).tally.high, r2.1⟩ : Tally), (l0.getD p0 default).of⟩ : Line_Count)))]⟩) (c := True ∧ True ∧ True ∧ True ∧ True ∧ True) (by kernel_rfl) ⟨trivial, trivial, trivial, trivial, trivial, trivial⟩ ?_
  obtain ⟨hc6, h⟩ := need_elim h
  refine At.one rfl (One.storeT (xs := [.d (dU r5.1)]) (ds := [dU r5.1]) (encLine_Count) (l0.set p0 (⟨(⟨(l0.getD p0 default).tally.high, r2.1⟩ : Tally), (l0.getD p0 default).of⟩ : Line_Count)) (⟨(⟨r5.1, ((l0.set p0 (⟨(⟨(l0.getD p0 default).tally.high, r2.1⟩ : Tally), (l0.getD p0 default).of⟩ : Line_Count)).getD p0 default).tally.low⟩ : Tally), ((l0.set p0 (⟨(⟨(l0.getD p0 default).tally.high, r2.1⟩ : Tally), (l0.getD p0 default).of⟩ : Line_Count)).getD p0 default).of⟩ : Line_Count) rfl rfl rfl rfl rfl hc6 rfl rfl (.refl _) rfl rfl rfl rfl) ?_
  refine At.keep [] [5000] (s' := ⟨[], [(5000, vL 4 encLine_Count ((l0.set p0 (⟨(⟨(l0.getD p0 default).tally.high, r2.1⟩ : Tally), (l0.getD p0 default).of⟩ : Line_Count)).set p0 (⟨(⟨r5.1, ((l0.set p0 (⟨(⟨(l0.getD p0 default).tally.high, r2.1⟩ : Tally), (l0.getD p0 default).of⟩ : Line_Count)).getD p0 default).tally.low⟩ : Tally), ((l0.set p0 (⟨(⟨(l0.getD p0 default).tally.high, r2.1⟩ : Tally), (l0.getD p0 default).of⟩ : Line_Count)).getD p0 default).of⟩ : Line_Count)))]⟩) (by kernel_rfl) ?_
  refine At.done rfl ?_
  cases h
  refine ⟨_, _, rfl, trivial, rfl, rfl, ?_⟩
  exact SubS.out ⟨⟨rfl, rfl⟩, trivial⟩
set_option maxRecDepth 100000 in
theorem freshet_diff_tally_fit_w1_ok {l0 : Line_Count} {q : Int × Int × Line_Count} (h : freshet_diff_tally_fit_w1 l0 = some q) :
    Summ Try.prog 32 [.c (.ptr 5000 0)] [(5000, .box (cLine_Count l0))] (.tup [(false, [.d (dI q.1)]), (false, [.d (dI q.2.1)])]) [(5000, .box (cLine_Count q.2.2))] := by
  refine Summ.intro Try.func32 rfl (by kernel_rfl) (by kernel_rfl) [] rfl ?_
  rintro ⟨P, w0, G0, V, LL, lk, N, φ0, fx⟩ rfl rfl rfl rfl
  unfold freshet_diff_tally_fit_w1 at h
  refine Tri.segL [0] [5000] ⟨[(0, .c (.ptr 5000 0))], [(5000, .box (cLine_Count l0))]⟩ (allT 2) (by kernel_rfl) (allT_ok 2) ?_
  refine Tri.seqS ?_
  refine Tri.seqS ?_
  refine Tri.drawnS (s' := ⟨[(0, .c (.ptr 5000 0)), (15, cD (.bool (!decide (l0.tally.high = (IntKind.u64.wrap (shrOp .i64 (IntKind.i64.wrap l0.tally.low) 63))))))], [(5000, .box (cLine_Count l0))]⟩) (cs := True ∧ True ∧ True ∧ True ∧ True ∧ True ∧ True ∧ True ∧ True ∧ ((0 : Int) ≤ 63) ∧ True ∧ True ∧ True) [.a [0] [], .a [4] [], .a [5] [], .a [6] [5000], .a [0] [], .a [8] [], .a [9] [], .a [10] [5000], .a [11] [], .a [12] [], .a [13] [], .a [7, 14] []] [[], [0], [0, 1], [0, 1, 2], [], [4], [4, 5], [4, 5, 6], [4, 5, 6, 7], [4, 5, 6, 7, 8], [4, 5, 6, 7, 8, 9], [0, 1, 2, 3, 4, 5, 6, 7, 8, 9, 10]] [0, 15] [5000] (by kernel_rfl) (by kernel_rfl) (by kernel_rfl) (by kernel_rfl) (by kernel_rfl) ⟨trivial, trivial, trivial, trivial, trivial, trivial, trivial, trivial, trivial, (by decide : (0 : Int) ≤ 63), trivial, trivial, trivial⟩ (.a (.a (.a (.a (.a (.a (.a (.a (.a (.a (.a (.a .z)))))))))))) (by kernel_rfl) ?_
  show Tri _ _ _ _
  refine Tri.condP (b := (!decide (l0.tally.high = (IntKind.u64.wrap (shrOp .i64 (IntKind.i64.wrap l0.tally.low) 63))))) rfl h (fun h => ?_) (fun h => ?_)
  ·refine Tri.segC [2, 3] [5000] (allT 2) (by kernel_rfl) (by kernel_rfl) (allT_ok 2) ?_
   refine Tri.keep [2, 3] [5000] (s' := ⟨[(2, cD (dI 0)), (3, cD (dI 10))], [(5000, .box (cLine_Count l0))]⟩) (by kernel_rfl) ?_
   refine Tri.ret ?_
   cases h
   refine ⟨_, _, rfl, ⟨trivial, ⟨trivial, trivial⟩⟩, rfl, rfl, ?_⟩
   exact SubS.out ⟨⟨rfl, rfl⟩, trivial⟩
  ·refine Tri.skip ?_
   show Tri _ _ _ _
   refine Tri.segC [2, 3] [5000] (allT 7) (by kernel_rfl) (by kernel_rfl) (allT_ok 7) ?_
   refine Tri.keep [2, 3] [5000] (s' := ⟨[(2, cD (dI (IntKind.i64.wrap l0.tally.low))), (3, cD (dI 0))], [(5000, .box (cLine_Count l0))]⟩) (by kernel_rfl) ?_
   refine Tri.ret ?_
   cases h
   refine ⟨_, _, rfl, ⟨trivial, ⟨trivial, trivial⟩⟩, rfl, rfl, ?_⟩
   exact SubS.out ⟨⟨rfl, rfl⟩, trivial⟩
set_option maxRecDepth 100000 in
theorem diff_added_3_ok {p0 : Count} {p1 : Int} {q : Count} (h : diff_added_3 p0 p1 = some q) :
    Summ Try.prog 79 [.agg (cCount p0), cD (dI p1)] [] (.agg (cCount q)) [] := by
  refine Summ.intro Try.func79 rfl (by kernel_rfl) (by kernel_rfl) [] rfl ?_
  rintro ⟨P, w0, G0, V, LL, lk, N, φ0, fx⟩ rfl rfl rfl rfl
  unfold diff_added_3 at h
  refine Tri.segL [1, 2, 4] [2, 4] ⟨[(1, cD (dI p1)), (2, .c (.ptr 2 0)), (4, .c (.ptr 4 0))], [(2, .box (cCount p0)), (4, .box [.zero, .d (dI 0)])]⟩ (allT 2) (by kernel_rfl) (allT_ok 2) ?_
  refine Tri.seqS ?_
  refine Tri.reg ?_
  refine At.seg 2 [1, 4, 6] [4] (s' := ⟨[(1, cD (dI p1)), (4, .c (.ptr 4 0)), (6, cD (lD 3 encValue p0.row))], [(4, .box [.zero, .d (dI 0)])]⟩) (c := True ∧ True ∧ True) (by kernel_rfl) ⟨trivial, trivial, trivial⟩ ?_
  obtain ⟨r1, hr1, h⟩ := bind_elim h
  refine At.callA (caps := []) (xs := [cD (lD 3 encValue p0.row)]) (slices_Clonefreshet_api_Value_freshet_api_Value_Value_ok hr1) rfl rfl rfl rfl rfl rfl (.cons (.refl _) .nil) rfl rfl ?_
  refine At.seg 3 [4] [4] (s' := ⟨[(4, .c (.ptr 4 0))], [(4, .box [.d (lD 3 encValue r1), .d (dI p1)])]⟩) (c := True ∧ True ∧ True ∧ True) (by kernel_rfl) ⟨trivial, trivial, trivial, trivial⟩ ?_
  refine At.done rfl ?_
  show Tri _ _ _ _
  refine Tri.keep [4] [4] (s' := ⟨[(4, .c (.ptr 4 0))], [(4, .box [.d (lD 3 encValue r1), .d (dI p1)])]⟩) (by kernel_rfl) ?_
  refine Tri.ret ?_
  cases h
  refine ⟨_, _, rfl, ⟨trivial, trivial⟩, rfl, rfl, ?_⟩
  intro k c h
  cases h
set_option maxRecDepth 100000 in
theorem diff_total_Count__diff_added_1__diff_added_2__diff_added_3_w_ok {fuel : Nat} {l0 : List Count} {q : (List Count) × Int × (List Count)} (h : diff_total_Count__diff_added_1__diff_added_2__diff_added_3_w fuel l0 = some q) :
    Summ Try.prog 76 [.c (oC 5000 2 l0), cD (.fn 77 []), cD (.fn 78 []), cD (.fn 79 [])] [(5000, vL 2 encCount l0)] (.tup [(false, [.d (lD 2 encCount q.1)]), (false, [.d (dI q.2.1)])]) [(5000, vL 2 encCount q.2.2)] := by
  refine Summ.intro Try.func76 rfl (by kernel_rfl) (by kernel_rfl) [] rfl ?_
  rintro ⟨P, w0, G0, V, LL, lk, N, φ0, fx⟩ rfl rfl rfl rfl
  unfold diff_total_Count__diff_added_1__diff_added_2__diff_added_3_w at h
  refine Tri.segL [0, 1, 2, 3] [5000] ⟨[(0, .c (oC 5000 2 l0)), (1, cD (.fn 77 [])), (2, cD (.fn 78 [])), (3, cD (.fn 79 []))], [(5000, vL 2 encCount l0)]⟩ (allT 2) (by kernel_rfl) (allT_ok 2) ?_
  refine Tri.seqS ?_
  refine Tri.reg ?_
  refine At.seg 2 [0, 1, 2, 3, 19, 20] [5000] (s' := ⟨[(0, .c (oC 5000 2 l0)), (1, cD (.fn 77 [])), (2, cD (.fn 78 [])), (3, cD (.fn 79 [])), (19, .c (oC 5000 2 l0)), (20, cD (.fn 77 []))], [(5000, vL 2 encCount l0)]⟩) (c := True ∧ True ∧ True) (by kernel_rfl) ⟨trivial, trivial, trivial⟩ ?_
  obtain ⟨r1, hr1, h⟩ := bind_elim h
  refine At.callL (nf := 0) (caps := []) (xs := [.c (oC 5000 2 l0), cD (.fn 77 [])]) [(5000, 5000)] [0, 1, 2, 3] [] (s0 := ⟨[(0, .c (oC 5000 2 l0)), (1, cD (.fn 77 [])), (2, cD (.fn 78 [])), (3, cD (.fn 79 []))], []⟩) (slices_SortStableFuncfreshet_api_Count_freshet_api_Count_Count__diff_added_1_w_ok hr1) rfl rfl (by kernel_rfl) rfl (by kernel_rfl) (by kernel_rfl) (.ren rfl rfl (.flat (.refl _) rfl rfl .nil)) ⟨⟨by kernel_rfl, by kernel_rfl⟩, trivial⟩ (by kernel_rfl) (by kernel_rfl) (by kernel_rfl) (by kernel_rfl) (by kernel_rfl) (by kernel_rfl) (by kernel_rfl) (by kernel_rfl) (by kernel_rfl) ⟨[(21, .tup []), (0, .c (oC 5000 2 l0)), (1, cD (.fn 77 [])), (2, cD (.fn 78 [])), (3, cD (.fn 79 []))], [(5000, vL 2 encCount r1)]⟩ (by kernel_rfl) ?_
  obtain ⟨hc2, h⟩ := need_elim h
  refine At.eqS ⟨[(21, .tup []), (0, .c (oC 5000 2 r1)), (1, cD (.fn 77 [])), (2, cD (.fn 78 [])), (3, cD (.fn 79 []))], [(5000, vL 2 encCount r1)]⟩ (by simp only [oC, vL, hc2]) ?_
  refine At.done rfl ?_
  show Tri _ _ _ _
  refine Tri.segL [0, 1, 2, 3, 10] [5000] ⟨[(0, .c (oC 5000 2 r1)), (1, cD (.fn 77 [])), (2, cD (.fn 78 [])), (3, cD (.fn 79 [])), (10, .c (.zero))], [(5000, vL 2 encCount r1)]⟩ (allT 1) (by kernel_rfl) (allT_ok 1) ?_
  refine Tri.seqS ?_
  refine Tri.segL [1, 2, 3, 10, 22, 23, 24] [5000] ⟨[(1, cD (.fn 77 [])), (2, cD (.fn 78 [])), (3, cD (.fn 79 [])), (10, .c (.zero)), (22, .c (oC 5000 2 r1)), (23, cD (dI (r1.length : Int))), (24, cD (dI 0))], [(5000, vL 2 encCount r1)]⟩ (allT 3) (by kernel_rfl) (allT_ok 3) ?_
  refine Tri.newOwn (t := 10) (k := 1010) (es := 4) (fun i => encLine_Count (([] : List Line_Count).getD i default)) rfl rfl rfl ?_
  refine Tri.lenOfO (t := 22) rfl rfl (Nat.le_refl _) fun hlena4 => ?_
  refine Tri.keep [24, 1, 2, 3, 10, 22, 23] [1010, 5000] (s' := idx 24 0 ⟨[(1, cD (.fn 77 [])), (2, cD (.fn 78 [])), (3, cD (.fn 79 [])), (10, .c (oC 1010 4 ([] : List Line_Count))), (22, .c (oC 5000 2 r1)), (23, cD (dI (r1.length : Int)))], [(1010, vL 4 encLine_Count ([] : List Line_Count)), (5000, vL 2 encCount r1)]⟩) (by kernel_rfl) ?_
  refine Tri.range (n := r1.length) (st0 := ([] : List Line_Count)) (fun (x : Empty) s => False) (fun (a4 : List Line_Count) => ⟨[(1, cD (.fn 77 [])), (2, cD (.fn 78 [])), (3, cD (.fn 79 [])), (10, .c (oC 1010 4 a4)), (22, .c (oC 5000 2 r1)), (23, cD (dI (r1.length : Int)))], [(1010, vL 4 encLine_Count a4), (5000, vL 2 encCount r1)]⟩) (fun (a4 : List Line_Count) => ⟨[(1, cD (.fn 77 [])), (2, cD (.fn 78 [])), (3, cD (.fn 79 [])), (10, .c (oC 1010 4 a4)), (22, .c (oC 5000 2 r1)), (23, cD (dI (r1.length : Int)))], [(1010, vL 4 encLine_Count a4), (5000, vL 2 encCount r1)]⟩) (fun i => decide ((i : Int) < (r1.length : Int))) [25, 24, 1, 2, 3, 10, 22, 23] [1010, 5000] [1, 2, 3, 10, 22, 23] [1010, 5000] [24, 1, 2, 3, 10, 22, 23] [1010, 5000] h hlena4 rfl ?_ ?_ ?_ ?_ ?_ ?_ ?_ ?_
  · exact fun i a => ⟨True ∧ True, by kernel_rfl, ⟨trivial, trivial⟩⟩
  · exact fun i hi => decide_eq_true (by omega)
  · exact decide_eq_false (by omega)
  · exact fun a => by kernel_rfl
  · exact fun i a => ⟨True ∧ True ∧ True, by kernel_rfl, ⟨trivial, trivial, trivial⟩⟩
  ·intro i3 a4 c hii3 h
   obtain ⟨hc13, h⟩ := need_elim h
   refine Tri.segL [1, 2, 3, 10, 12, 22, 23, 24] [12, 1010, 5000] ⟨[(1, cD (.fn 77 [])), (2, cD (.fn 78 [])), (3, cD (.fn 79 [])), (10, .c (oC 1010 4 a4)), (12, .c (.ptr 12 0)), (22, .c (oC 5000 2 r1)), (23, cD (dI (r1.length : Int))), (24, cD (dI ((i3 : Nat) : Int)))], [(12, .box (cCount (r1.getD (0 + i3) default))), (1010, vL 4 encLine_Count a4), (5000, vL 2 encCount r1)]⟩ (((0 : Int) ≤ ((i3 : Nat) : Int) ∧ ((i3 : Nat) : Int) < (r1.length : Int)) ∧ ((0 + i3) < r1.length) ∧ True ∧ True ∧ True) (by kernel_rfl) ⟨⟨by omega, by omega⟩, hc13, trivial, trivial, trivial⟩ ?_
   refine Tri.seqJ (fun (a14 : List Line_Count) => ⟨[(1, cD (.fn 77 [])), (2, cD (.fn 78 [])), (3, cD (.fn 79 [])), (10, .c (oC 1010 4 a14)), (12, .c (.ptr 12 0)), (22, .c (oC 5000 2 r1)), (23, cD (dI (r1.length : Int))), (24, cD (dI ((i3 : Nat) : Int)))], [(12, .box (cCount (r1.getD (0 + i3) default))), (1010, vL 4 encLine_Count a14), (5000, vL 2 encCount r1)]⟩) h (fun a14 h => ?_) (fun j15 h => ?_)
   ·show Tri _ _ ⟨[(1, cD (.fn 77 [])), (2, cD (.fn 78 [])), (3, cD (.fn 79 [])), (10, .c (oC 1010 4 a14)), (12, .c (.ptr 12 0)), (22, .c (oC 5000 2 r1)), (23, cD (dI (r1.length : Int))), (24, cD (dI ((i3 : Nat) : Int)))], [(12, .box (cCount (r1.getD (0 + i3) default))), (1010, vL 4 encLine_Count a14), (5000, vL 2 encCount r1)]⟩ _
    obtain ⟨hc16, h⟩ := need_elim h
    obtain ⟨r17, hr17, h⟩ := bind_elim h
    obtain ⟨r18, hr18, h⟩ := bind_elim h
    obtain ⟨hc19, h⟩ := need_elim h
    refine Tri.afterA ⟨[(1, cD (.fn 77 [])), (2, cD (.fn 78 [])), (3, cD (.fn 79 [])), (10, .c (oC 1010 4 a14)), (22, .c (oC 5000 2 r1)), (23, cD (dI (r1.length : Int))), (24, cD (dI ((i3 : Nat) : Int)))], [(1010, vL 4 encLine_Count r18), (5000, vL 2 encCount r1)]⟩ ?_ ?_
    ·refine Tri.drawnS (s' := ⟨[(1, cD (.fn 77 [])), (2, cD (.fn 78 [])), (3, cD (.fn 79 [])), (10, .c (oC 1010 4 a14)), (22, .c (oC 5000 2 r1)), (23, cD (dI (r1.length : Int))), (24, cD (dI ((i3 : Nat) : Int)))], [(1010, vL 4 encLine_Count r18), (5000, vL 2 encCount r1)]⟩) (cs := True ∧ True ∧ True ∧ True ∧ ((0 : Int) ≤ (IntKind.i64.wrap ((a14.length : Int) - 1)) ∧ (IntKind.i64.wrap ((a14.length : Int) - 1)) < (a14.length : Int)) ∧ True ∧ True ∧ True ∧ True) [.a [10] [], .a [10] [], .a [50] [1010], .a [51] [], .a [49, 52] [1010], .a [53] [], .a [2] [], .a [12] [12], .m ⟨[(55, cD (.fn 78 [])), (56, .agg (cCount (r1.getD (0 + i3) default)))], []⟩ ⟨[(57, cD (dI r17))], []⟩ [] [] [], .m ⟨[(54, .c (.vptr 1010 4 (0 + (IntKind.i64.wrap ((a14.length : Int) - 1)).toNat) 0)), (57, cD (dI r17))], [(1010, vL 4 encLine_Count a14)]⟩ ⟨[(58, .tup [])], [(1010, vL 4 encLine_Count r18)]⟩ [] [] []] [[], [], [1], [1, 2], [0, 1, 2, 3], [0, 1, 2, 3, 4], [], [], [6, 7], [0, 1, 2, 3, 4, 5, 6, 7, 8]] [1, 2, 3, 10, 22, 23, 24] [1010, 5000] (by kernel_rfl) (by kernel_rfl) (by kernel_rfl) (by kernel_rfl) (by kernel_rfl) ⟨trivial, trivial, trivial, trivial, hc16, trivial, trivial, trivial, trivial⟩ (.a (.a (.a (.a (.a (.a (.a (.a (.m ?_ (.m ?_ .z)))))))))) (by kernel_rfl) ?_
     · exact DOk.callA (caps := []) (xs := [.agg (cCount (r1.getD (0 + i3) default))]) (diff_added_2_ok hr17) rfl (fun r => by kernel_rfl) rfl (fun r => by kernel_rfl) (fun r => by kernel_rfl) (fun r => (.cons (.refl _) .nil)) rfl rfl (fun r => rfl)
     · exact DOk.callL (nf := 0) (caps := []) (xs := [.c (.vptr 1010 4 (0 + (IntKind.i64.wrap ((a14.length : Int) - 1)).toNat) 0), cD (dI r17)]) [(5000, 1010)] (freshet_diff_tally_add_w1_ok hr18) rfl (fun r => by kernel_rfl) rfl (fun r => by kernel_rfl) (fun r => by kernel_rfl) (fun r => (.ren rfl rfl (.flat (.refl _) rfl rfl .nil))) (fun r => ⟨⟨by kernel_rfl, by kernel_rfl⟩, trivial⟩) (by kernel_rfl) (by kernel_rfl) (by kernel_rfl) (by kernel_rfl) (by kernel_rfl) (by kernel_rfl) (by kernel_rfl) (by kernel_rfl) (by kernel_rfl) (by kernel_rfl) (by first | kernel_rfl | (show _ = _; kernel_rfl))
     exact ⟨rfl, rfl⟩
    ·refine At.eqS (s' := ⟨[(1, cD (.fn 77 [])), (2, cD (.fn 78 [])), (3, cD (.fn 79 [])), (10, .c (oC 1010 4 r18)), (22, .c (oC 5000 2 r1)), (23, cD (dI (r1.length : Int))), (24, cD (dI ((i3 : Nat) : Int)))], [(1010, vL 4 encLine_Count r18), (5000, vL 2 encCount r1)]⟩) (by simp only [oC, vL, List.length_set, hc19]) ?_
     refine At.keep [24, 1, 2, 3, 10, 22, 23] [1010, 5000] (s' := ⟨[(24, cD (dI ((i3 : Nat) : Int))), (1, cD (.fn 77 [])), (2, cD (.fn 78 [])), (3, cD (.fn 79 [])), (10, .c (oC 1010 4 r18)), (22, .c (oC 5000 2 r1)), (23, cD (dI (r1.length : Int)))], [(1010, vL 4 encLine_Count r18), (5000, vL 2 encCount r1)]⟩) (by kernel_rfl) ?_
     refine At.done rfl ?_
     cases h
     exact rfl
   ·refine Tri.segL [1, 2, 3, 10, 12, 13, 22, 23, 24] [12, 1010, 5000] ⟨[(1, cD (.fn 77 [])), (2, cD (.fn 78 [])), (3, cD (.fn 79 [])), (10, .c (oC 1010 4 a4)), (12, .c (.ptr 12 0)), (13, cD (dI (a4.length : Int))), (22, .c (oC 5000 2 r1)), (23, cD (dI (r1.length : Int))), (24, cD (dI ((i3 : Nat) : Int)))], [(12, .box (cCount (r1.getD (0 + i3) default))), (1010, vL 4 encLine_Count a4), (5000, vL 2 encCount r1)]⟩ (allT 3) (by kernel_rfl) (allT_ok 3) ?_
    refine Tri.seqJ (fun (a20 : Bool) => ⟨[(1, cD (.fn 77 [])), (2, cD (.fn 78 [])), (3, cD (.fn 79 [])), (10, .c (oC 1010 4 a4)), (12, .c (.ptr 12 0)), (22, .c (oC 5000 2 r1)), (23, cD (dI (r1.length : Int))), (24, cD (dI ((i3 : Nat) : Int))), (43, cD (.bool a20))], [(12, .box (cCount (r1.getD (0 + i3) default))), (1010, vL 4 encLine_Count a4), (5000, vL 2 encCount r1)]⟩) h (fun a20 h => ?_) (fun j21 h => ?_)
    ·show Tri _ _ ⟨[(1, cD (.fn 77 [])), (2, cD (.fn 78 [])), (3, cD (.fn 79 [])), (10, .c (oC 1010 4 a4)), (12, .c (.ptr 12 0)), (22, .c (oC 5000 2 r1)), (23, cD (dI (r1.length : Int))), (24, cD (dI ((i3 : Nat) : Int))), (43, cD (.bool a20))], [(12, .box (cCount (r1.getD (0 + i3) default))), (1010, vL 4 encLine_Count a4), (5000, vL 2 encCount r1)]⟩ _
     refine Tri.condP (b := a20) rfl h (fun h => ?_) (fun h => ?_)
     ·refine Tri.reg ?_
      refine At.seg 3 [1, 2, 3, 12, 22, 23, 24, 44, 46] [12, 1010, 5000] (s' := ⟨[(1, cD (.fn 77 [])), (2, cD (.fn 78 [])), (3, cD (.fn 79 [])), (12, .c (.ptr 12 0)), (22, .c (oC 5000 2 r1)), (23, cD (dI (r1.length : Int))), (24, cD (dI ((i3 : Nat) : Int))), (44, .c (oC 1010 4 a4)), (46, .agg [.d (dU 0), .d (dU 0), .d (lD 3 encValue ((r1.getD (0 + i3) default).row)), .d (dI ((r1.getD (0 + i3) default).n))])], [(12, .box (cCount (r1.getD (0 + i3) default))), (1010, vL 4 encLine_Count a4), (5000, vL 2 encCount r1)]⟩) (c := True ∧ True ∧ True ∧ True) (by kernel_rfl) ⟨trivial, trivial, trivial, trivial⟩ ?_
      refine At.one rfl (One.buildSlice (z := [.d (dU 0), .d (dU 0), .zero, .d (dI 0)]) (cells := [.d (dU 0), .d (dU 0), .d (lD 3 encValue ((r1.getD (0 + i3) default).row)), .d (dI ((r1.getD (0 + i3) default).n))]) (xs := List.map (encLine_Count) ([(⟨(⟨0, 0⟩ : Tally), (r1.getD (0 + i3) default)⟩ : Line_Count)] : List Line_Count)) rfl rfl rfl rfl (by kernel_rfl) rfl rfl (by kernel_rfl) rfl rfl rfl (by kernel_rfl) rfl ⟨⟨rfl, .refl _⟩, trivial⟩) ?_
      refine At.le [47] (fun k hk h => by first | (cases h; done) | (simp at hk h; omega)) ⟨[(47, cD (lD 4 encLine_Count ([(⟨(⟨0, 0⟩ : Tally), (r1.getD (0 + i3) default)⟩ : Line_Count)] : List Line_Count))), (1, cD (.fn 77 [])), (2, cD (.fn 78 [])), (3, cD (.fn 79 [])), (12, .c (.ptr 12 0)), (22, .c (oC 5000 2 r1)), (23, cD (dI (r1.length : Int))), (24, cD (dI ((i3 : Nat) : Int))), (44, .c (oC 1010 4 a4)), (46, .agg [.d (dU 0), .d (dU 0), .d (lD 3 encValue ((r1.getD (0 + i3) default).row)), .d (dI ((r1.getD (0 + i3) default).n))])], [(12, .box (cCount (r1.getD (0 + i3) default))), (1010, vL 4 encLine_Count a4), (5000, vL 2 encCount r1)]⟩ ⟨⟨_, rfl, .c (.own rfl (List.mem_singleton.2 rfl) (Nat.le_of_ble_eq_true rfl) rfl (encs_getD (encLine_Count) ([(⟨(⟨0, 0⟩ : Tally), (r1.getD (0 + i3) default)⟩ : Line_Count)] : List Line_Count)))⟩, ⟨_, rfl, .refl _⟩, ⟨_, rfl, .refl _⟩, ⟨_, rfl, .refl _⟩, ⟨_, rfl, .refl _⟩, ⟨_, rfl, .refl _⟩, ⟨_, rfl, .refl _⟩, ⟨_, rfl, .refl _⟩, ⟨_, rfl, .refl _⟩, ⟨_, rfl, .refl _⟩, trivial⟩ ⟨⟨_, rfl, .refl _, (by simp)⟩, ⟨_, rfl, .refl _, (by simp)⟩, ⟨_, rfl, .refl _, (by simp)⟩, trivial⟩ ?_
      obtain ⟨hc22, h⟩ := need_elim h
      refine At.one rfl (One.appendT (e := 125) (es := 4) (encLine_Count) a4 ([(⟨(⟨0, 0⟩ : Tally), (r1.getD (0 + i3) default)⟩ : Line_Count)] : List Line_Count) rfl rfl rfl rfl rfl (.of 125 48 [.d (dU 0), .d (dU 0), .zero, .d (dI 0)] (by kernel_rfl) (by kernel_rfl) (by kernel_rfl) (by kernel_rfl) rfl (by kernel_rfl) rfl) rfl rfl rfl (.list rfl (fun _ _ => rfl)) hc22) ?_
      refine At.seg 1 [1, 2, 3, 10, 12, 22, 23, 24] [12, 1010, 5000] (s' := ⟨[(1, cD (.fn 77 [])), (2, cD (.fn 78 [])), (3, cD (.fn 79 [])), (10, .c (oC 1010 4 (a4 ++ ([(⟨(⟨0, 0⟩ : Tally), (r1.getD (0 + i3) default)⟩ : Line_Count)] : List Line_Count)))), (12, .c (.ptr 12 0)), (22, .c (oC 5000 2 r1)), (23, cD (dI (r1.length : Int))), (24, cD (dI ((i3 : Nat) : Int)))], [(12, .box (cCount (r1.getD (0 + i3) default))), (1010, vL 4 encLine_Count (a4 ++ ([(⟨(⟨0, 0⟩ : Tally), (r1.getD (0 + i3) default)⟩ : Line_Count)] : List Line_Count))), (5000, vL 2 encCount r1)]⟩) (c := True ∧ True) (by kernel_rfl) ⟨trivial, trivial⟩ ?_
      refine At.done rfl ?_
      exact ⟨_, h, rfl⟩
     ·refine Tri.keep [1, 2, 3, 10, 12, 22, 23, 24] [12, 1010, 5000] (s' := ⟨[(1, cD (.fn 77 [])), (2, cD (.fn 78 [])), (3, cD (.fn 79 [])), (10, .c (oC 1010 4 a4)), (12, .c (.ptr 12 0)), (22, .c (oC 5000 2 r1)), (23, cD (dI (r1.length : Int))), (24, cD (dI ((i3 : Nat) : Int)))], [(12, .box (cCount (r1.getD (0 + i3) default))), (1010, vL 4 encLine_Count a4), (5000, vL 2 encCount r1)]⟩) (by kernel_rfl) ?_
      refine Tri.skip ?_
      exact ⟨_, h, rfl⟩
    ·rcases bf_cases h with ⟨hp23, h⟩ | ⟨hp23, h⟩
     ·refine Tri.drawnS (s' := ⟨[(1, cD (.fn 77 [])), (2, cD (.fn 78 [])), (3, cD (.fn 79 [])), (10, .c (oC 1010 4 a4)), (12, .c (.ptr 12 0)), (22, .c (oC 5000 2 r1)), (23, cD (dI (r1.length : Int))), (24, cD (dI ((i3 : Nat) : Int))), (43, cD (.bool true))], [(12, .box (cCount (r1.getD (0 + i3) default))), (1010, vL 4 encLine_Count a4), (5000, vL 2 encCount r1)]⟩) (cs := True ∧ True ∧ True ∧ True) [.a [13] [], .a [30] [], .m ⟨[(31, cD (.bool (decide ((a4.length : Int) = 0))))], []⟩ ⟨[(32, .c (.d (.bool true)))], []⟩ [] [] [], .a [1, 32] [], .a [10, 32] [], .a [13, 32] [], .a [32, 35] [], .a [32, 34, 36] [], .a [32, 37] [], .a [32, 38] [], .a [12, 32] [12], .a [32, 33, 39, 40] [], .a [32, 41] [], .a [32, 42] []] [[], [0], [0, 1], [0, 1, 2], [0, 1, 2], [0, 1, 2], [0, 1, 2, 5], [0, 1, 2, 4, 5, 6], [0, 1, 2, 4, 5, 6, 7], [0, 1, 2, 4, 5, 6, 7, 8], [0, 1, 2], [0, 1, 2, 3, 4, 5, 6, 7, 8, 9, 10], [0, 1, 2, 3, 4, 5, 6, 7, 8, 9, 10, 11], [0, 1, 2, 3, 4, 5, 6, 7, 8, 9, 10, 11, 12]] [1, 2, 3, 10, 12, 22, 23, 24, 43] [12, 1010, 5000] (by kernel_rfl) (by kernel_rfl) (by kernel_rfl) (by kernel_rfl) (by kernel_rfl) ⟨trivial, trivial, trivial, trivial⟩ (.a (.a (.m ?_ (.a (.a (.a (.a (.a (.a (.a (.a (.a (.a (.a .z)))))))))))))) (by kernel_rfl) ?_
      · exact DOk.stepP (fun b => .val (.c (.d (.bool b))) (True)) (p := (decide ((a4.length : Int) = 0))) hp23 (fun r => by kernel_rfl) (fun r => by kernel_rfl) trivial (by kernel_rfl) (by kernel_rfl) (fun r => rfl)
      exact ⟨_, h, rfl⟩
     ·obtain ⟨hc24, h⟩ := need_elim h
      obtain ⟨hc25, h⟩ := need_elim h
      obtain ⟨r26, hr26, h⟩ := bind_elim h
      refine Tri.drawnS (s' := ⟨[(1, cD (.fn 77 [])), (2, cD (.fn 78 [])), (3, cD (.fn 79 [])), (10, .c (oC 1010 4 a4)), (12, .c (.ptr 12 0)), (22, .c (oC 5000 2 r1)), (23, cD (dI (r1.length : Int))), (24, cD (dI ((i3 : Nat) : Int))), (43, cD (.bool (!decide (r26 = 0))))], [(12, .box (cCount (r1.getD (0 + i3) default))), (1010, vL 4 encLine_Count a4), (5000, vL 2 encCount r1)]⟩) (cs := True ∧ True ∧ True ∧ True ∧ True ∧ True ∧ ((0 : Int) ≤ (IntKind.i64.wrap ((a4.length : Int) - 1)) ∧ (IntKind.i64.wrap ((a4.length : Int) - 1)) < (a4.length : Int)) ∧ True ∧ ((0 + (IntKind.i64.wrap ((a4.length : Int) - 1)).toNat) < a4.length) ∧ True ∧ True ∧ True ∧ True) [.a [13] [], .a [30] [], .m ⟨[(31, cD (.bool (decide ((a4.length : Int) = 0))))], []⟩ ⟨[(32, .c (.d (.bool false)))], []⟩ [] [] [], .a [1, 32] [], .a [10, 32] [], .a [13, 32] [], .a [32, 35] [], .a [32, 34, 36] [1010], .a [32, 37] [], .a [32, 38] [1010], .a [12, 32] [12], .m ⟨[(32, cD (.bool false)), (33, cD (.fn 77 [])), (39, .agg [.d (lD 3 encValue ((a4.getD (0 + (IntKind.i64.wrap ((a4.length : Int) - 1)).toNat) default).of.row)), .d (dI ((a4.getD (0 + (IntKind.i64.wrap ((a4.length : Int) - 1)).toNat) default).of.n))]), (40, .agg (cCount (r1.getD (0 + i3) default)))], []⟩ ⟨[(41, cD (dI r26))], []⟩ [] [] [], .a [32, 41] [], .a [32, 42] []] [[], [0], [0, 1], [0, 1, 2], [0, 1, 2], [0, 1, 2], [0, 1, 2, 5], [0, 1, 2, 4, 5, 6], [0, 1, 2, 4, 5, 6, 7], [0, 1, 2, 4, 5, 6, 7, 8], [0, 1, 2], [0, 1, 2, 3, 4, 5, 6, 7, 8, 9, 10], [0, 1, 2, 3, 4, 5, 6, 7, 8, 9, 10, 11], [0, 1, 2, 3, 4, 5, 6, 7, 8, 9, 10, 11, 12]] [1, 2, 3, 10, 12, 22, 23, 24, 43] [12, 1010, 5000] (by kernel_rfl) (by kernel_rfl) (by kernel_rfl) (by kernel_rfl) (by kernel_rfl) ⟨trivial, trivial, trivial, trivial, trivial, trivial, hc24, trivial, hc25, trivial, trivial, trivial, trivial⟩ (.a (.a (.m ?_ (.a (.a (.a (.a (.a (.a (.a (.a (.m ?_ (.a (.a .z)))))))))))))) (by kernel_rfl) ?_
      · exact DOk.stepP (fun b => .val (.c (.d (.bool b))) (True)) (p := (decide ((a4.length : Int) = 0))) hp23 (fun r => by kernel_rfl) (fun r => by kernel_rfl) trivial (by kernel_rfl) (by kernel_rfl) (fun r => rfl)
      · exact DOk.callA (caps := []) (xs := [.agg [.d (lD 3 encValue ((a4.getD (0 + (IntKind.i64.wrap ((a4.length : Int) - 1)).toNat) default).of.row)), .d (dI ((a4.getD (0 + (IntKind.i64.wrap ((a4.length : Int) - 1)).toNat) default).of.n))], .agg (cCount (r1.getD (0 + i3) default))]) (diff_added_1_ok hr26) rfl (fun r => by kernel_rfl) rfl (fun r => by kernel_rfl) (fun r => by kernel_rfl) (fun r => (.cons (.refl _) (.cons (.refl _) .nil))) rfl rfl (fun r => rfl)
      exact ⟨_, h, rfl⟩
  ·intro a5 h
   show Tri _ _ _ _
   refine Tri.segL [3, 10, 14] [1010, 5000] ⟨[(3, cD (.fn 79 [])), (10, .c (oC 1010 4 a5)), (14, .c (.zero))], [(1010, vL 4 encLine_Count a5), (5000, vL 2 encCount r1)]⟩ (allT 1) (by kernel_rfl) (allT_ok 1) ?_
   refine Tri.seqS ?_
   refine Tri.segL [3, 14, 60, 61, 62] [1010, 5000] ⟨[(3, cD (.fn 79 [])), (14, .c (.zero)), (60, .c (oC 1010 4 a5)), (61, cD (dI (a5.length : Int))), (62, cD (dI 0))], [(1010, vL 4 encLine_Count a5), (5000, vL 2 encCount r1)]⟩ (allT 3) (by kernel_rfl) (allT_ok 3) ?_
   refine Tri.lenOfO (t := 60) rfl rfl (Nat.le_refl _) fun hlena7 => ?_
   refine Tri.newOwn (t := 14) (k := 1014) (es := 2) (fun i => encCount (([] : List Count).getD i default)) rfl rfl rfl ?_
   refine Tri.keep [62, 3, 14, 60, 61] [1010, 1014, 5000] (s' := idx 62 0 ⟨[(3, cD (.fn 79 [])), (14, .c (oC 1014 2 ([] : List Count))), (60, .c (oC 1010 4 a5)), (61, cD (dI (a5.length : Int)))], [(1010, vL 4 encLine_Count a5), (1014, vL 2 encCount ([] : List Count)), (5000, vL 2 encCount r1)]⟩) (by kernel_rfl) ?_
   refine Tri.range (n := a5.length) (st0 := ([] : List Count)) (fun (x : (List Count) × Int × (List Count)) s => RetAt Try.prog Try.f76 (.tup [(false, [.d (lD 2 encCount x.1)]), (false, [.d (dI x.2.1)])]) [(5000, vL 2 encCount x.2.2)] s) (fun (a7 : List Count) => ⟨[(3, cD (.fn 79 [])), (14, .c (oC 1014 2 a7)), (60, .c (oC 1010 4 a5)), (61, cD (dI (a5.length : Int)))], [(1010, vL 4 encLine_Count a5), (1014, vL 2 encCount a7), (5000, vL 2 encCount r1)]⟩) (fun (a7 : List Count) => ⟨[(3, cD (.fn 79 [])), (14, .c (oC 1014 2 a7)), (60, .c (oC 1010 4 a5)), (61, cD (dI (a5.length : Int)))], [(1010, vL 4 encLine_Count a5), (1014, vL 2 encCount a7), (5000, vL 2 encCount r1)]⟩) (fun i => decide ((i : Int) < (a5.length : Int))) [63, 62, 3, 14, 60, 61] [1010, 1014, 5000] [3, 14, 60, 61] [1010, 1014, 5000] [62, 3, 14, 60, 61] [1010, 1014, 5000] h hlena7 rfl ?_ ?_ ?_ ?_ ?_ ?_ ?_ ?_
   · exact fun i a => ⟨True ∧ True, by kernel_rfl, ⟨trivial, trivial⟩⟩
   · exact fun i hi => decide_eq_true (by omega)
   · exact decide_eq_false (by omega)
   · exact fun a => by kernel_rfl
   · exact fun i a => ⟨True ∧ True ∧ True, by kernel_rfl, ⟨trivial, trivial, trivial⟩⟩
   ·intro i6 a7 c hii6 h
    obtain ⟨hc9, h⟩ := need_elim h
    refine Tri.segL [3, 14, 16, 60, 61, 62] [16, 1010, 1014, 5000] ⟨[(3, cD (.fn 79 [])), (14, .c (oC 1014 2 a7)), (16, .c (.ptr 16 0)), (60, .c (oC 1010 4 a5)), (61, cD (dI (a5.length : Int))), (62, cD (dI ((i6 : Nat) : Int)))], [(16, .box (cLine_Count (a5.getD (0 + i6) default))), (1010, vL 4 encLine_Count a5), (1014, vL 2 encCount a7), (5000, vL 2 encCount r1)]⟩ (((0 : Int) ≤ ((i6 : Nat) : Int) ∧ ((i6 : Nat) : Int) < (a5.length : Int)) ∧ ((0 + i6) < a5.length) ∧ True ∧ True ∧ True) (by kernel_rfl) ⟨⟨by omega, by omega⟩, hc9, trivial, trivial, trivial⟩ ?_
    refine Tri.seqS ?_
    refine Tri.reg ?_
    refine At.seg 1 [3, 14, 16, 60, 61, 62, 67] [16, 1010, 1014, 5000] (s' := ⟨[(3, cD (.fn 79 [])), (14, .c (oC 1014 2 a7)), (16, .c (.ptr 16 0)), (60, .c (oC 1010 4 a5)), (61, cD (dI (a5.length : Int))), (62, cD (dI ((i6 : Nat) : Int))), (67, .c (.ptr 16 0))], [(16, .box (cLine_Count (a5.getD (0 + i6) default))), (1010, vL 4 encLine_Count a5), (1014, vL 2 encCount a7), (5000, vL 2 encCount r1)]⟩) (c := True ∧ True) (by kernel_rfl) ⟨trivial, trivial⟩ ?_
    obtain ⟨r10, hr10, h⟩ := bind_elim h
    refine At.callL (nf := 0) (caps := []) (xs := [.c (.ptr 16 0)]) [(5000, 16)] [3, 14, 16, 60, 61, 62] [1010, 1014, 5000] (s0 := ⟨[(3, cD (.fn 79 [])), (14, .c (oC 1014 2 a7)), (16, .c (.ptr 16 0)), (60, .c (oC 1010 4 a5)), (61, cD (dI (a5.length : Int))), (62, cD (dI ((i6 : Nat) : Int)))], [(1010, vL 4 encLine_Count a5), (1014, vL 2 encCount a7), (5000, vL 2 encCount r1)]⟩) (freshet_diff_tally_fit_w1_ok hr10) rfl rfl (by kernel_rfl) rfl (by kernel_rfl) (by kernel_rfl) (.ren rfl rfl .nil) ⟨⟨by kernel_rfl, by kernel_rfl⟩, trivial⟩ (by kernel_rfl) (by kernel_rfl) (by kernel_rfl) (by kernel_rfl) (by kernel_rfl) (by kernel_rfl) (by kernel_rfl) (by kernel_rfl) (by kernel_rfl) ⟨[(68, .tup [(false, [.d (dI r10.1)]), (false, [.d (dI r10.2.1)])]), (3, cD (.fn 79 [])), (14, .c (oC 1014 2 a7)), (16, .c (.ptr 16 0)), (60, .c (oC 1010 4 a5)), (61, cD (dI (a5.length : Int))), (62, cD (dI ((i6 : Nat) : Int)))], [(16, .box (cLine_Count r10.2.2)), (1010, vL 4 encLine_Count a5), (1014, vL 2 encCount a7), (5000, vL 2 encCount r1)]⟩ (by kernel_rfl) ?_
    refine At.seg 5 [3, 14, 16, 17, 18, 60, 61, 62] [16, 1010, 1014, 5000] (s' := ⟨[(3, cD (.fn 79 [])), (14, .c (oC 1014 2 a7)), (16, .c (.ptr 16 0)), (17, cD (dI r10.1)), (18, cD (dI r10.2.1)), (60, .c (oC 1010 4 a5)), (61, cD (dI (a5.length : Int))), (62, cD (dI ((i6 : Nat) : Int)))], [(16, .box (cLine_Count r10.2.2)), (1010, vL 4 encLine_Count a5), (1014, vL 2 encCount a7), (5000, vL 2 encCount r1)]⟩) (c := True ∧ True ∧ True ∧ True ∧ True ∧ True) (by kernel_rfl) ⟨trivial, trivial, trivial, trivial, trivial, trivial⟩ ?_
    refine At.done rfl ?_
    show Tri _ _ _ _
    refine Tri.seqS ?_
    refine Tri.segL [3, 14, 16, 17, 18, 60, 61, 62, 72] [16, 1010, 1014, 5000] ⟨[(3, cD (.fn 79 [])), (14, .c (oC 1014 2 a7)), (16, .c (.ptr 16 0)), (17, cD (dI r10.1)), (18, cD (dI r10.2.1)), (60, .c (oC 1010 4 a5)), (61, cD (dI (a5.length : Int))), (62, cD (dI ((i6 : Nat) : Int))), (72, cD (.bool (!decide (r10.2.1 = 0))))], [(16, .box (cLine_Count r10.2.2)), (1010, vL 4 encLine_Count a5), (1014, vL 2 encCount a7), (5000, vL 2 encCount r1)]⟩ (allT 2) (by kernel_rfl) (allT_ok 2) ?_
    refine Tri.condP (b := (!decide (r10.2.1 = 0))) rfl h (fun h => ?_) (fun h => ?_)
    ·refine Tri.segC [8, 9] [5000] (allT 3) (by kernel_rfl) (by kernel_rfl) (allT_ok 3) ?_
     refine Tri.keep [8, 9] [5000] (s' := ⟨[(8, .c (.zero)), (9, cD (dI r10.2.1))], [(5000, vL 2 encCount r1)]⟩) (by kernel_rfl) ?_
     refine Tri.le [] (fun k hk => by cases hk) ⟨[(8, cD (lD 2 encCount ([] : List Count))), (9, cD (dI r10.2.1))], [(5000, vL 2 encCount r1)]⟩ ⟨⟨_, rfl, .c (.zero _ _)⟩, ⟨_, rfl, .refl _⟩, trivial⟩ ⟨⟨_, rfl, .refl _, (by simp)⟩, trivial⟩ ?_
     refine Tri.ret ?_
     cases h
     refine ⟨_, _, rfl, ⟨trivial, ⟨trivial, trivial⟩⟩, rfl, rfl, ?_⟩
     exact SubS.out ⟨⟨rfl, rfl⟩, trivial⟩
    ·refine Tri.skip ?_
     show Tri _ _ _ _
     refine Tri.segL [3, 14, 16, 17, 60, 61, 62, 75] [16, 1010, 1014, 5000] ⟨[(3, cD (.fn 79 [])), (14, .c (oC 1014 2 a7)), (16, .c (.ptr 16 0)), (17, cD (dI r10.1)), (60, .c (oC 1010 4 a5)), (61, cD (dI (a5.length : Int))), (62, cD (dI ((i6 : Nat) : Int))), (75, cD (.bool (!decide (r10.1 = 0))))], [(16, .box (cLine_Count r10.2.2)), (1010, vL 4 encLine_Count a5), (1014, vL 2 encCount a7), (5000, vL 2 encCount r1)]⟩ (allT 2) (by kernel_rfl) (allT_ok 2) ?_
     refine Tri.condP (b := (!decide (r10.1 = 0))) rfl h (fun h => ?_) (fun h => ?_)
     ·refine Tri.reg ?_
      refine At.seg 5 [3, 60, 61, 62, 76, 77, 79, 80] [1010, 1014, 5000] (s' := ⟨[(3, cD (.fn 79 [])), (60, .c (oC 1010 4 a5)), (61, cD (dI (a5.length : Int))), (62, cD (dI ((i6 : Nat) : Int))), (76, .c (oC 1014 2 a7)), (77, cD (.fn 79 [])), (79, .agg (cCount r10.2.2.of)), (80, cD (dI r10.1))], [(1010, vL 4 encLine_Count a5), (1014, vL 2 encCount a7), (5000, vL 2 encCount r1)]⟩) (c := True ∧ True ∧ True ∧ True ∧ True ∧ True) (by kernel_rfl) ⟨trivial, trivial, trivial, trivial, trivial, trivial⟩ ?_
      obtain ⟨r11, hr11, h⟩ := bind_elim h
      refine At.callA (caps := []) (xs := [.agg (cCount r10.2.2.of), cD (dI r10.1)]) (diff_added_3_ok hr11) rfl rfl rfl rfl rfl rfl (.cons (.refl _) (.cons (.refl _) .nil)) rfl rfl ?_
      refine At.one rfl (One.buildSlice (z := [.zero, .d (dI 0)]) (cells := [.d (lD 3 encValue r11.row), .d (dI r11.n)]) (xs := List.map (encCount) ([r11] : List Count)) rfl rfl rfl rfl (by kernel_rfl) rfl rfl (by kernel_rfl) rfl rfl rfl (by kernel_rfl) rfl ⟨⟨rfl, .refl _⟩, trivial⟩) ?_
      refine At.le [82] (fun k hk h => by first | (cases h; done) | (simp at hk h; omega)) ⟨[(82, cD (lD 2 encCount ([r11] : List Count))), (3, cD (.fn 79 [])), (60, .c (oC 1010 4 a5)), (61, cD (dI (a5.length : Int))), (62, cD (dI ((i6 : Nat) : Int))), (76, .c (oC 1014 2 a7)), (81, .agg (cCount r11))], [(1010, vL 4 encLine_Count a5), (1014, vL 2 encCount a7), (5000, vL 2 encCount r1)]⟩ ⟨⟨_, rfl, .c (.own rfl (List.mem_singleton.2 rfl) (Nat.le_of_ble_eq_true rfl) rfl (encs_getD (encCount) ([r11] : List Count)))⟩, ⟨_, rfl, .refl _⟩, ⟨_, rfl, .refl _⟩, ⟨_, rfl, .refl _⟩, ⟨_, rfl, .refl _⟩, ⟨_, rfl, .refl _⟩, ⟨_, rfl, .refl _⟩, trivial⟩ ⟨⟨_, rfl, .refl _, (by simp)⟩, ⟨_, rfl, .refl _, (by simp)⟩, ⟨_, rfl, .refl _, (by simp)⟩, trivial⟩ ?_
      obtain ⟨hc12, h⟩ := need_elim h
      refine At.one rfl (One.appendT (e := 73) (es := 2) (encCount) a7 ([r11] : List Count) rfl rfl rfl rfl rfl (.of 73 32 [.zero, .d (dI 0)] (by kernel_rfl) (by kernel_rfl) (by kernel_rfl) (by kernel_rfl) rfl (by kernel_rfl) rfl) rfl rfl rfl (.list rfl (fun _ _ => rfl)) hc12) ?_
      refine At.seg 1 [62, 3, 14, 60, 61] [1010, 1014, 5000] (s' := ⟨[(62, cD (dI ((i6 : Nat) : Int))), (3, cD (.fn 79 [])), (14, .c (oC 1014 2 (a7 ++ ([r11] : List Count)))), (60, .c (oC 1010 4 a5)), (61, cD (dI (a5.length : Int)))], [(1010, vL 4 encLine_Count a5), (1014, vL 2 encCount (a7 ++ ([r11] : List Count))), (5000, vL 2 encCount r1)]⟩) (c := True ∧ True) (by kernel_rfl) ⟨trivial, trivial⟩ ?_
      refine At.done rfl ?_
      cases h
      exact rfl
     ·refine Tri.keep [62, 3, 14, 60, 61] [1010, 1014, 5000] (s' := ⟨[(62, cD (dI ((i6 : Nat) : Int))), (3, cD (.fn 79 [])), (14, .c (oC 1014 2 a7)), (60, .c (oC 1010 4 a5)), (61, cD (dI (a5.length : Int)))], [(1010, vL 4 encLine_Count a5), (1014, vL 2 encCount a7), (5000, vL 2 encCount r1)]⟩) (by kernel_rfl) ?_
      refine Tri.skip ?_
      cases h
      exact rfl
   ·intro a8 h
    show Tri _ _ _ _
    refine Tri.segC [8, 9] [1014, 5000] (allT 3) (by kernel_rfl) (by kernel_rfl) (allT_ok 3) ?_
    refine Tri.keep [8, 9] [1014, 5000] (s' := ⟨[(8, .c (oC 1014 2 a8)), (9, cD (dI 0))], [(1014, vL 2 encCount a8), (5000, vL 2 encCount r1)]⟩) (by kernel_rfl) ?_
    refine Tri.le [1014] (fun k hk h => by first | (cases h; done) | (simp at hk h; omega)) ⟨[(8, cD (lD 2 encCount a8)), (9, cD (dI 0))], [(5000, vL 2 encCount r1)]⟩ ⟨⟨_, rfl, .c (CLe.frozen (encCount) a8 rfl (by simp))⟩, ⟨_, rfl, .refl _⟩, trivial⟩ ⟨⟨_, rfl, .refl _, (by simp)⟩, trivial⟩ ?_
    refine Tri.ret ?_
    cases h
    refine ⟨_, _, rfl, ⟨trivial, ⟨trivial, trivial⟩⟩, rfl, rfl, ?_⟩
    exact SubS.out ⟨⟨rfl, rfl⟩, trivial⟩
   · exact fun x s hx hr => by cases hx; exact hr
  · exact fun x => x.elim
set_option maxRecDepth 100000 in
theorem diff_added_w_ok {fuel : Nat} {l0 : List Count} {q : (List Count) × Int × (List Count)} (h : diff_added_w fuel l0 = some q) :
    Summ Try.prog 56 [.c (oC 5000 2 l0)] [(5000, vL 2 encCount l0)] (.tup [(false, [.d (lD 2 encCount q.1)]), (false, [.d (dI q.2.1)])]) [(5000, vL 2 encCount q.2.2)] := by
  refine Summ.intro Try.func56 rfl (by kernel_rfl) (by kernel_rfl) [] rfl ?_
  rintro ⟨P, w0, G0, V, LL, lk, N, φ0, fx⟩ rfl rfl rfl rfl
  unfold diff_added_w at h
  refine Tri.segL [0] [5000] ⟨[(0, .c (oC 5000 2 l0))], [(5000, vL 2 encCount l0)]⟩ (allT 2) (by kernel_rfl) (allT_ok 2) ?_
  refine Tri.seqS ?_
  refine Tri.reg ?_
  refine At.seg 1 [4] [5000] (s' := ⟨[(4, .c (oC 5000 2 l0))], [(5000, vL 2 encCount l0)]⟩) (c := True ∧ True) (by kernel_rfl) ⟨trivial, trivial⟩ ?_
  obtain ⟨r1, hr1, h⟩ := bind_elim h
  refine At.callL (nf := 0) (caps := []) (xs := [.c (oC 5000 2 l0), cD (.fn 77 []), cD (.fn 78 []), cD (.fn 79 [])]) [(5000, 5000)] [] [] (s0 := ⟨[], []⟩) (diff_total_Count__diff_added_1__diff_added_2__diff_added_3_w_ok hr1) rfl rfl (by kernel_rfl) rfl (by kernel_rfl) (by kernel_rfl) (.ren rfl rfl (.flat (.refl _) rfl rfl (.flat (.refl _) rfl rfl (.flat (.refl _) rfl rfl .nil)))) ⟨⟨by kernel_rfl, by kernel_rfl⟩, trivial⟩ (by kernel_rfl) (by kernel_rfl) (by kernel_rfl) (by kernel_rfl) (by kernel_rfl) (by kernel_rfl) (by kernel_rfl) (by kernel_rfl) (by kernel_rfl) ⟨[(5, .tup [(false, [.d (lD 2 encCount r1.1)]), (false, [.d (dI r1.2.1)])])], [(5000, vL 2 encCount r1.2.2)]⟩ (by kernel_rfl) ?_
  refine At.seg 4 [2, 3] [5000] (s' := ⟨[(2, cD (lD 2 encCount r1.1)), (3, cD (dI r1.2.1))], [(5000, vL 2 encCount r1.2.2)]⟩) (c := True ∧ True ∧ True ∧ True ∧ True) (by kernel_rfl) ⟨trivial, trivial, trivial, trivial, trivial⟩ ?_
  refine At.done rfl ?_
  show Tri _ _ _ _
  refine Tri.keep [2, 3] [5000] (s' := ⟨[(2, cD (lD 2 encCount r1.1)), (3, cD (dI r1.2.1))], [(5000, vL 2 encCount r1.2.2)]⟩) (by kernel_rfl) ?_
  refine Tri.ret ?_
  cases h
  refine ⟨_, _, rfl, ⟨trivial, ⟨trivial, trivial⟩⟩, rfl, rfl, ?_⟩
  exact SubS.out ⟨⟨rfl, rfl⟩, trivial⟩
set_option maxRecDepth 100000 in
theorem diff_At_ok {fuel : Nat} {p0 : List Update} {p1 : Time} {q : (List Count) × Int} (h : diff_At fuel p0 p1 = some q) :
    Summ Try.prog 26 [cD (lD 6 encUpdate p0), .agg (cTime p1)] [] (.tup [(false, [.d (lD 2 encCount q.1)]), (false, [.d (dI q.2)])]) [] := by
  refine Summ.intro Try.func26 rfl (by kernel_rfl) (by kernel_rfl) [] rfl ?_
  rintro ⟨P, w0, G0, V, LL, lk, N, φ0, fx⟩ rfl rfl rfl rfl
  unfold diff_At at h
  refine Tri.segL [0, 3] [3] ⟨[(0, cD (lD 6 encUpdate p0)), (3, .c (.ptr 3 0))], [(3, .box (cTime p1))]⟩ (allT 3) (by kernel_rfl) (allT_ok 3) ?_
  refine Tri.seqS ?_
  refine Tri.seqS ?_
  obtain ⟨r1, hr1, h⟩ := bind_elim h
  obtain ⟨r2, hr2, h⟩ := bind_elim h
  obtain ⟨r3, hr3, h⟩ := bind_elim h
  refine Tri.drawnS (s' := ⟨[(0, cD (lD 6 encUpdate p0)), (3, .c (.ptr 3 0)), (6, cD (dI r3))], [(3, .box (cTime p1))]⟩) (cs := True ∧ True ∧ True ∧ True) [.a [0] [], .m ⟨[(10, cD (lD 6 encUpdate p0))], []⟩ ⟨[(11, cD (dI r1))], []⟩ [] [] [], .a [3] [3], .m ⟨[(12, .agg (cTime p1))], []⟩ ⟨[(13, .c (oC 13 3 ([p1] : List Time)))], [(13, vL 3 encTime ([p1] : List Time))]⟩ [13] [] [], .m ⟨[(13, .c (oC 13 3 ([p1] : List Time)))], [(13, vL 3 encTime ([p1] : List Time))]⟩ ⟨[(14, cD (dI r2))], []⟩ [] [] [], .m ⟨[(11, cD (dI r1)), (14, cD (dI r2))], []⟩ ⟨[(15, .c (oC 15 1 ([r1, r2] : List Int)))], [(15, vL 1 (encInt .i64) ([r1, r2] : List Int))]⟩ [15] [] [], .m ⟨[(15, .c (oC 15 1 ([r1, r2] : List Int)))], [(15, vL 1 (encInt .i64) ([r1, r2] : List Int))]⟩ ⟨[(16, cD (dI r3))], []⟩ [] [] [], .a [16] []] [[], [0], [], [2], [0, 1, 2, 3], [0, 1, 2, 3, 4], [0, 1, 2, 3, 4, 5], [0, 1, 2, 3, 4, 5, 6]] [0, 3, 6] [3] (by kernel_rfl) (by kernel_rfl) (by kernel_rfl) (by kernel_rfl) (by kernel_rfl) ⟨trivial, trivial, trivial, trivial⟩ (.a (.m ?_ (.a (.m ?_ (.m ?_ (.m ?_ (.m ?_ (.a .z)))))))) (by kernel_rfl) ?_
  · exact DOk.callA (caps := []) (xs := [cD (lD 6 encUpdate p0)]) (diff_Check_ok hr1) rfl (fun r => by kernel_rfl) rfl (fun r => by kernel_rfl) (fun r => by kernel_rfl) (fun r => (.cons (.refl _) .nil)) rfl rfl (fun r => rfl)
  · exact DOk.one fun r hr => One.buildT (e := 42) (es := 3) (z := [.d (dU 0), .d (dU 0), .d (dU 0)]) (cells := [.d (dU p1.epoch), .d (dU p1.loop.1), .d (dU p1.loop.2)]) (encTime) ([p1] : List Time) rfl (by kernel_rfl) rfl rfl (St.noRef_app (by kernel_rfl) (hr 13 (by simp))) (by kernel_rfl) rfl (by kernel_rfl) rfl rfl rfl (by kernel_rfl) rfl ⟨⟨rfl, .refl _⟩, trivial⟩
  · exact DOk.callA (caps := []) (xs := [.c (oC 13 3 ([p1] : List Time))]) (moment_Check_ok_v0 hr2) rfl (fun r => by kernel_rfl) rfl (fun r => by kernel_rfl) (fun r => by kernel_rfl) (fun r => (.cons (AVArg.view (encTime) ([p1] : List Time) rfl) .nil)) rfl rfl (fun r => rfl)
  · exact DOk.one fun r hr => One.buildT (e := 23) (es := 1) (z := [.d (dI 0)]) (cells := [.d (dI r1), .d (dI r2)]) (encInt .i64) ([r1, r2] : List Int) rfl (by kernel_rfl) rfl rfl (St.noRef_app (by kernel_rfl) (hr 15 (by simp))) (by kernel_rfl) rfl (by kernel_rfl) rfl rfl rfl (by kernel_rfl) rfl ⟨⟨rfl, .refl _⟩, ⟨rfl, .refl _⟩, trivial⟩
  · exact DOk.callA (caps := []) (xs := [.c (oC 15 1 ([r1, r2] : List Int))]) (cmp_Or_Errno_ok_v0 hr3) rfl (fun r => by kernel_rfl) rfl (fun r => by kernel_rfl) (fun r => by kernel_rfl) (fun r => (.cons (AVArg.view (encInt .i64) ([r1, r2] : List Int) rfl) .nil)) rfl rfl (fun r => rfl)
  show Tri _ _ _ _
  refine Tri.segL [0, 3, 6, 18] [3] ⟨[(0, cD (lD 6 encUpdate p0)), (3, .c (.ptr 3 0)), (6, cD (dI r3)), (18, cD (.bool (!decide (r3 = 0))))], [(3, .box (cTime p1))]⟩ (allT 2) (by kernel_rfl) (allT_ok 2) ?_
  refine Tri.condP (b := (!decide (r3 = 0))) rfl h (fun h => ?_) (fun h => ?_)
  ·refine Tri.segC [4, 5] [] (allT 3) (by kernel_rfl) (by kernel_rfl) (allT_ok 3) ?_
   refine Tri.keep [4, 5] [] (s' := ⟨[(4, .c (.zero)), (5, cD (dI r3))], []⟩) (by kernel_rfl) ?_
   refine Tri.le [] (fun k hk => by cases hk) ⟨[(4, cD (lD 2 encCount ([] : List Count))), (5, cD (dI r3))], []⟩ ⟨⟨_, rfl, .c (.zero _ _)⟩, ⟨_, rfl, .refl _⟩, trivial⟩ trivial ?_
   refine Tri.ret ?_
   cases h
   refine ⟨_, _, rfl, ⟨trivial, ⟨trivial, trivial⟩⟩, rfl, rfl, ?_⟩
   intro k c h
   cases h
  ·refine Tri.skip ?_
   show Tri _ _ _ _
   refine Tri.segL [0, 3, 7] [3] ⟨[(0, cD (lD 6 encUpdate p0)), (3, .c (.ptr 3 0)), (7, .c (.zero))], [(3, .box (cTime p1))]⟩ (allT 1) (by kernel_rfl) (allT_ok 1) ?_
   refine Tri.seqS ?_
   refine Tri.segL [3, 7, 20, 21, 22] [3] ⟨[(3, .c (.ptr 3 0)), (7, .c (.zero)), (20, cD (lD 6 encUpdate p0)), (21, cD (dI (p0.length : Int))), (22, cD (dI 0))], [(3, .box (cTime p1))]⟩ (allT 3) (by kernel_rfl) (allT_ok 3) ?_
   refine Tri.lenOf (t := 20) rfl fun hlena5 => ?_
   refine Tri.newOwn (t := 7) (k := 1007) (es := 2) (fun i => encCount (([] : List Count).getD i default)) rfl rfl rfl ?_
   refine Tri.keep [22, 3, 7, 20, 21] [3, 1007] (s' := idx 22 0 ⟨[(3, .c (.ptr 3 0)), (7, .c (oC 1007 2 ([] : List Count))), (20, cD (lD 6 encUpdate p0)), (21, cD (dI (p0.length : Int)))], [(3, .box (cTime p1)), (1007, vL 2 encCount ([] : List Count))]⟩) (by kernel_rfl) ?_
   refine Tri.range (n := p0.length) (st0 := ([] : List Count)) (fun (x : Empty) s => False) (fun (a5 : List Count) => ⟨[(3, .c (.ptr 3 0)), (7, .c (oC 1007 2 a5)), (20, cD (lD 6 encUpdate p0)), (21, cD (dI (p0.length : Int)))], [(3, .box (cTime p1)), (1007, vL 2 encCount a5)]⟩) (fun (a5 : List Count) => ⟨[(3, .c (.ptr 3 0)), (7, .c (oC 1007 2 a5)), (20, cD (lD 6 encUpdate p0)), (21, cD (dI (p0.length : Int)))], [(3, .box (cTime p1)), (1007, vL 2 encCount a5)]⟩) (fun i => decide ((i : Int) < (p0.length : Int))) [23, 22, 3, 7, 20, 21] [3, 1007] [3, 7, 20, 21] [3, 1007] [22, 3, 7, 20, 21] [3, 1007] h hlena5 rfl ?_ ?_ ?_ ?_ ?_ ?_ ?_ ?_
   · exact fun i a => ⟨True ∧ True, by kernel_rfl, ⟨trivial, trivial⟩⟩
   · exact fun i hi => decide_eq_true (by omega)
   · exact decide_eq_false (by omega)
   · exact fun a => by kernel_rfl
   · exact fun i a => ⟨True ∧ True ∧ True, by kernel_rfl, ⟨trivial, trivial, trivial⟩⟩
   ·intro i4 a5 c hii4 h
    refine Tri.segL [3, 7, 9, 20, 21, 22] [3, 9, 1007] ⟨[(3, .c (.ptr 3 0)), (7, .c (oC 1007 2 a5)), (9, .c (.ptr 9 0)), (20, cD (lD 6 encUpdate p0)), (21, cD (dI (p0.length : Int))), (22, cD (dI ((i4 : Nat) : Int)))], [(3, .box (cTime p1)), (9, .box (cUpdate (p0.getD i4 default))), (1007, vL 2 encCount a5)]⟩ (((0 : Int) ≤ ((i4 : Nat) : Int) ∧ ((i4 : Nat) : Int) < (p0.length : Int)) ∧ True ∧ True ∧ True ∧ True) (by kernel_rfl) ⟨⟨by omega, by omega⟩, trivial, trivial, trivial, trivial⟩ ?_
    refine Tri.seqS ?_
    refine Tri.reg ?_
    refine At.seg 3 [3, 7, 9, 20, 21, 22, 27, 28] [3, 9, 1007] (s' := ⟨[(3, .c (.ptr 3 0)), (7, .c (oC 1007 2 a5)), (9, .c (.ptr 9 0)), (20, cD (lD 6 encUpdate p0)), (21, cD (dI (p0.length : Int))), (22, cD (dI ((i4 : Nat) : Int))), (27, .agg [.d (dU ((p0.getD i4 default).time.epoch)), .d (dU ((p0.getD i4 default).time.loop.1)), .d (dU ((p0.getD i4 default).time.loop.2))]), (28, .agg (cTime p1))], [(3, .box (cTime p1)), (9, .box (cUpdate (p0.getD i4 default))), (1007, vL 2 encCount a5)]⟩) (c := True ∧ True ∧ True ∧ True) (by kernel_rfl) ⟨trivial, trivial, trivial, trivial⟩ ?_
    obtain ⟨r8, hr8, h⟩ := bind_elim h
    refine At.callA (caps := []) (xs := [.agg [.d (dU ((p0.getD i4 default).time.epoch)), .d (dU ((p0.getD i4 default).time.loop.1)), .d (dU ((p0.getD i4 default).time.loop.2))], .agg (cTime p1)]) (moment_Ahead_ok hr8) rfl rfl rfl rfl rfl rfl (.cons (.refl _) (.cons (.refl _) .nil)) rfl rfl ?_
    refine At.done rfl ?_
    show Tri _ _ _ _
    refine Tri.condP (b := r8) rfl h (fun h => ?_) (fun h => ?_)
    ·refine Tri.reg ?_
     refine At.seg 6 [3, 20, 21, 22, 30, 35] [3, 1007] (s' := ⟨[(3, .c (.ptr 3 0)), (20, cD (lD 6 encUpdate p0)), (21, cD (dI (p0.length : Int))), (22, cD (dI ((i4 : Nat) : Int))), (30, .c (oC 1007 2 a5)), (35, .agg [.d (lD 3 encValue ((p0.getD i4 default).row)), .d (dI ((p0.getD i4 default).diff))])], [(3, .box (cTime p1)), (1007, vL 2 encCount a5)]⟩) (c := True ∧ True ∧ True ∧ True ∧ True ∧ True ∧ True) (by kernel_rfl) ⟨trivial, trivial, trivial, trivial, trivial, trivial, trivial⟩ ?_
     refine At.one rfl (One.buildSlice (z := [.zero, .d (dI 0)]) (cells := [.d (lD 3 encValue ((p0.getD i4 default).row)), .d (dI ((p0.getD i4 default).diff))]) (xs := List.map (encCount) ([(⟨(p0.getD i4 default).row, (p0.getD i4 default).diff⟩ : Count)] : List Count)) rfl rfl rfl rfl (by kernel_rfl) rfl rfl (by kernel_rfl) rfl rfl rfl (by kernel_rfl) rfl ⟨⟨rfl, .refl _⟩, trivial⟩) ?_
     refine At.le [36] (fun k hk h => by first | (cases h; done) | (simp at hk h; omega)) ⟨[(36, cD (lD 2 encCount ([(⟨(p0.getD i4 default).row, (p0.getD i4 default).diff⟩ : Count)] : List Count))), (3, .c (.ptr 3 0)), (20, cD (lD 6 encUpdate p0)), (21, cD (dI (p0.length : Int))), (22, cD (dI ((i4 : Nat) : Int))), (30, .c (oC 1007 2 a5)), (35, .agg [.d (lD 3 encValue ((p0.getD i4 default).row)), .d (dI ((p0.getD i4 default).diff))])], [(3, .box (cTime p1)), (1007, vL 2 encCount a5)]⟩ ⟨⟨_, rfl, .c (.own rfl (List.mem_singleton.2 rfl) (Nat.le_of_ble_eq_true rfl) rfl (encs_getD (encCount) ([(⟨(p0.getD i4 default).row, (p0.getD i4 default).diff⟩ : Count)] : List Count)))⟩, ⟨_, rfl, .refl _⟩, ⟨_, rfl, .refl _⟩, ⟨_, rfl, .refl _⟩, ⟨_, rfl, .refl _⟩, ⟨_, rfl, .refl _⟩, ⟨_, rfl, .refl _⟩, trivial⟩ ⟨⟨_, rfl, .refl _, (by simp)⟩, ⟨_, rfl, .refl _, (by simp)⟩, trivial⟩ ?_
     obtain ⟨hc9, h⟩ := need_elim h
     refine At.one rfl (One.appendT (e := 73) (es := 2) (encCount) a5 ([(⟨(p0.getD i4 default).row, (p0.getD i4 default).diff⟩ : Count)] : List Count) rfl rfl rfl rfl rfl (.of 73 32 [.zero, .d (dI 0)] (by kernel_rfl) (by kernel_rfl) (by kernel_rfl) (by kernel_rfl) rfl (by kernel_rfl) rfl) rfl rfl rfl (.list rfl (fun _ _ => rfl)) hc9) ?_
     refine At.seg 1 [22, 3, 7, 20, 21] [3, 1007] (s' := ⟨[(22, cD (dI ((i4 : Nat) : Int))), (3, .c (.ptr 3 0)), (7, .c (oC 1007 2 (a5 ++ ([(⟨(p0.getD i4 default).row, (p0.getD i4 default).diff⟩ : Count)] : List Count)))), (20, cD (lD 6 encUpdate p0)), (21, cD (dI (p0.length : Int)))], [(3, .box (cTime p1)), (1007, vL 2 encCount (a5 ++ ([(⟨(p0.getD i4 default).row, (p0.getD i4 default).diff⟩ : Count)] : List Count)))]⟩) (c := True ∧ True) (by kernel_rfl) ⟨trivial, trivial⟩ ?_
     refine At.done rfl ?_
     cases h
     exact rfl
    ·refine Tri.keep [22, 3, 7, 20, 21] [3, 1007] (s' := ⟨[(22, cD (dI ((i4 : Nat) : Int))), (3, .c (.ptr 3 0)), (7, .c (oC 1007 2 a5)), (20, cD (lD 6 encUpdate p0)), (21, cD (dI (p0.length : Int)))], [(3, .box (cTime p1)), (1007, vL 2 encCount a5)]⟩) (by kernel_rfl) ?_
     refine Tri.skip ?_
     cases h
     exact rfl
   ·intro a6 h
    show Tri _ _ _ _
    refine Tri.seqS ?_
    refine Tri.reg ?_
    refine At.seg 1 [39] [1007] (s' := ⟨[(39, .c (oC 1007 2 a6))], [(1007, vL 2 encCount a6)]⟩) (c := True ∧ True) (by kernel_rfl) ⟨trivial, trivial⟩ ?_
    obtain ⟨r7, hr7, h⟩ := bind_elim h
    refine At.callL (nf := 0) (caps := []) (xs := [.c (oC 1007 2 a6)]) [(5000, 1007)] [] [] (s0 := ⟨[], []⟩) (diff_added_w_ok hr7) rfl rfl (by kernel_rfl) rfl (by kernel_rfl) (by kernel_rfl) (.ren rfl rfl .nil) ⟨⟨by kernel_rfl, by kernel_rfl⟩, trivial⟩ (by kernel_rfl) (by kernel_rfl) (by kernel_rfl) (by kernel_rfl) (by kernel_rfl) (by kernel_rfl) (by kernel_rfl) (by kernel_rfl) (by kernel_rfl) ⟨[(40, .tup [(false, [.d (lD 2 encCount r7.1)]), (false, [.d (dI r7.2.1)])])], [(1007, vL 2 encCount r7.2.2)]⟩ (by kernel_rfl) ?_
    refine At.seg 4 [4, 5] [] (s' := ⟨[(4, cD (lD 2 encCount r7.1)), (5, cD (dI r7.2.1))], []⟩) (c := True ∧ True ∧ True ∧ True ∧ True) (by kernel_rfl) ⟨trivial, trivial, trivial, trivial, trivial⟩ ?_
    refine At.done rfl ?_
    show Tri _ _ _ _
    refine Tri.keep [4, 5] [] (s' := ⟨[(4, cD (lD 2 encCount r7.1)), (5, cD (dI r7.2.1))], []⟩) (by kernel_rfl) ?_
    refine Tri.ret ?_
    cases h
    refine ⟨_, _, rfl, ⟨trivial, ⟨trivial, trivial⟩⟩, rfl, rfl, ?_⟩
    intro k c h
    cases h
   · exact fun x => x.elim
set_option maxRecDepth 100000 in
theorem diff_Even_ok {fuel : Nat} {p0 : List Update} {q : Bool} (h : diff_Even fuel p0 = some q) :
    Summ Try.prog 22 [cD (lD 6 encUpdate p0)] [] (cD (.bool q)) [] := by
  refine Summ.intro Try.func22 rfl (by kernel_rfl) (by kernel_rfl) [] rfl ?_
  rintro ⟨P, w0, G0, V, LL, lk, N, φ0, fx⟩ rfl rfl rfl rfl
  unfold diff_Even at h
  refine Tri.segL [0] [] ⟨[(0, cD (lD 6 encUpdate p0))], []⟩ (allT 1) (by kernel_rfl) (allT_ok 1) ?_
  refine Tri.seqS ?_
  refine Tri.segL [0, 5, 6, 7] [] ⟨[(0, cD (lD 6 encUpdate p0)), (5, cD (lD 6 encUpdate p0)), (6, cD (dI (p0.length : Int))), (7, cD (dI 0))], []⟩ (allT 3) (by kernel_rfl) (allT_ok 3) ?_
  refine Tri.lenOf (t := 5) rfl fun hlena2 => ?_
  refine Tri.keep [7, 0, 5, 6] [] (s' := idx 7 0 ⟨[(0, cD (lD 6 encUpdate p0)), (5, cD (lD 6 encUpdate p0)), (6, cD (dI (p0.length : Int)))], []⟩) (by kernel_rfl) ?_
  refine Tri.range (n := p0.length) (st0 := ()) (fun (x : Bool) s => RetAt Try.prog Try.f22 (cD (.bool x)) [] s) (fun (a2 : Unit) => ⟨[(0, cD (lD 6 encUpdate p0)), (5, cD (lD 6 encUpdate p0)), (6, cD (dI (p0.length : Int)))], []⟩) (fun (a2 : Unit) => ⟨[(0, cD (lD 6 encUpdate p0)), (5, cD (lD 6 encUpdate p0)), (6, cD (dI (p0.length : Int)))], []⟩) (fun i => decide ((i : Int) < (p0.length : Int))) [8, 7, 0, 5, 6] [] [0, 5, 6] [] [7, 0, 5, 6] [] h hlena2 rfl ?_ ?_ ?_ ?_ ?_ ?_ ?_ ?_
  · exact fun i a => ⟨True ∧ True, by kernel_rfl, ⟨trivial, trivial⟩⟩
  · exact fun i hi => decide_eq_true (by omega)
  · exact decide_eq_false (by omega)
  · exact fun a => by kernel_rfl
  · exact fun i a => ⟨True ∧ True ∧ True, by kernel_rfl, ⟨trivial, trivial, trivial⟩⟩
  ·intro i1 a2 c hii1 h
   refine Tri.segL [0, 3, 4, 5, 6, 7] [4] ⟨[(0, cD (lD 6 encUpdate p0)), (3, cD (dI ((i1 : Nat) : Int))), (4, .c (.ptr 4 0)), (5, cD (lD 6 encUpdate p0)), (6, cD (dI (p0.length : Int))), (7, cD (dI ((i1 : Nat) : Int)))], [(4, .box (cUpdate (p0.getD i1 default)))]⟩ (True ∧ ((0 : Int) ≤ ((i1 : Nat) : Int) ∧ ((i1 : Nat) : Int) < (p0.length : Int)) ∧ True ∧ True ∧ True ∧ True ∧ True) (by kernel_rfl) ⟨trivial, ⟨by omega, by omega⟩, trivial, trivial, trivial, trivial, trivial⟩ ?_
   refine Tri.seqJ (fun (a5 : Bool) => ⟨[(0, cD (lD 6 encUpdate p0)), (5, cD (lD 6 encUpdate p0)), (6, cD (dI (p0.length : Int))), (7, cD (dI ((i1 : Nat) : Int))), (28, cD (.bool a5))], []⟩) h (fun a5 h => ?_) (fun j6 h => ?_)
   ·show Tri _ _ ⟨[(0, cD (lD 6 encUpdate p0)), (5, cD (lD 6 encUpdate p0)), (6, cD (dI (p0.length : Int))), (7, cD (dI ((i1 : Nat) : Int))), (28, cD (.bool a5))], []⟩ _
    refine Tri.condP (b := a5) rfl h (fun h => ?_) (fun h => ?_)
    ·refine Tri.segC [2] [] (allT 1) (by kernel_rfl) (by kernel_rfl) (allT_ok 1) ?_
     refine Tri.keep [2] [] (s' := ⟨[(2, cD (.bool false))], []⟩) (by kernel_rfl) ?_
     refine Tri.ret ?_
     cases h
     refine ⟨_, _, rfl, ⟨trivial, trivial⟩, rfl, rfl, ?_⟩
     intro k c h
     cases h
    ·refine Tri.keep [7, 0, 5, 6] [] (s' := ⟨[(7, cD (dI ((i1 : Nat) : Int))), (0, cD (lD 6 encUpdate p0)), (5, cD (lD 6 encUpdate p0)), (6, cD (dI (p0.length : Int)))], []⟩) (by kernel_rfl) ?_
     refine Tri.skip ?_
     cases h
     exact rfl
   ·rcases bf_cases h with ⟨hp7, h⟩ | ⟨hp7, h⟩
    ·refine Tri.drawnS (s' := ⟨[(0, cD (lD 6 encUpdate p0)), (5, cD (lD 6 encUpdate p0)), (6, cD (dI (p0.length : Int))), (7, cD (dI ((i1 : Nat) : Int))), (28, cD (.bool true))], []⟩) (cs := True ∧ True ∧ True ∧ True ∧ True) [.a [4] [], .a [12] [4], .a [13] [], .m ⟨[(14, cD (.bool (decide ((p0.getD i1 default).diff = 0))))], []⟩ ⟨[(15, .c (.d (.bool true)))], []⟩ [] [] [], .a [3, 15] [], .a [15, 16] [], .a [15, 17] [], .a [0, 18] [], .a [3, 18] [], .a [18, 20] [], .a [18, 19, 21] [], .a [18, 22] [], .a [4, 18] [4], .a [18, 23, 24] [], .a [18, 25] [], .a [15, 18, 26] [], .a [15, 27] []] [[], [0], [0, 1], [0, 1, 2], [0, 1, 2, 3], [0, 1, 2, 3, 4], [0, 1, 2, 3, 4, 5], [0, 1, 2, 3, 4, 5, 6], [0, 1, 2, 3, 4, 5, 6], [0, 1, 2, 3, 4, 5, 6, 8], [0, 1, 2, 3, 4, 5, 6, 7, 8, 9], [0, 1, 2, 3, 4, 5, 6, 7, 8, 9, 10], [0, 1, 2, 3, 4, 5, 6], [0, 1, 2, 3, 4, 5, 6, 7, 8, 9, 10, 11, 12], [0, 1, 2, 3, 4, 5, 6, 7, 8, 9, 10, 11, 12, 13], [0, 1, 2, 3, 4, 5, 6, 7, 8, 9, 10, 11, 12, 13, 14], [0, 1, 2, 3, 4, 5, 6, 7, 8, 9, 10, 11, 12, 13, 14, 15]] [0, 5, 6, 7, 28] [] (by kernel_rfl) (by kernel_rfl) (by kernel_rfl) (by kernel_rfl) (by kernel_rfl) ⟨trivial, trivial, trivial, trivial, trivial⟩ (.a (.a (.a (.m ?_ (.a (.a (.a (.a (.a (.a (.a (.a (.a (.a (.a (.a (.a .z))))))))))))))))) (by kernel_rfl) ?_
     · exact DOk.stepP (fun b => .val (.c (.d (.bool b))) (True)) (p := (decide ((p0.getD i1 default).diff = 0))) hp7 (fun r => by kernel_rfl) (fun r => by kernel_rfl) trivial (by kernel_rfl) (by kernel_rfl) (fun r => rfl)
     exact ⟨_, h, rfl⟩
    ·rcases bf_cases h with ⟨hp8, h⟩ | ⟨hp8, h⟩
     ·obtain ⟨hc9, h⟩ := need_elim h
      obtain ⟨r10, hr10, h⟩ := bind_elim h
      refine Tri.drawnS (s' := ⟨[(0, cD (lD 6 encUpdate p0)), (5, cD (lD 6 encUpdate p0)), (6, cD (dI (p0.length : Int))), (7, cD (dI ((i1 : Nat) : Int))), (28, cD (.bool (decide (0 ≤ r10))))], []⟩) (cs := True ∧ True ∧ True ∧ True ∧ True ∧ True ∧ True ∧ True ∧ ((0 : Int) ≤ (IntKind.i64.wrap (((i1 : Nat) : Int) - 1)) ∧ (IntKind.i64.wrap (((i1 : Nat) : Int) - 1)) < (p0.length : Int)) ∧ True ∧ True ∧ True ∧ True ∧ True ∧ True) [.a [4] [], .a [12] [4], .a [13] [], .m ⟨[(14, cD (.bool (decide ((p0.getD i1 default).diff = 0))))], []⟩ ⟨[(15, .c (.d (.bool false)))], []⟩ [] [] [], .a [3, 15] [], .a [15, 16] [], .m ⟨[(15, cD (.bool false)), (17, cD (.bool (decide (0 < ((i1 : Nat) : Int)))))], []⟩ ⟨[(18, .c (.d (.bool true)))], []⟩ [] [] [], .a [0, 18] [], .a [3, 18] [], .a [18, 20] [], .a [18, 19, 21] [], .a [18, 22] [], .a [4, 18] [4], .m ⟨[(18, cD (.bool true)), (23, .agg (cUpdate (p0.getD ((IntKind.i64.wrap (((i1 : Nat) : Int) - 1)).toNat) default))), (24, .agg (cUpdate (p0.getD i1 default)))], []⟩ ⟨[(25, cD (dI r10))], []⟩ [] [] [], .a [18, 25] [], .a [15, 18, 26] [], .a [15, 27] []] [[], [0], [0, 1], [0, 1, 2], [0, 1, 2, 3], [0, 1, 2, 3, 4], [0, 1, 2, 3, 4, 5], [0, 1, 2, 3, 4, 5, 6], [0, 1, 2, 3, 4, 5, 6], [0, 1, 2, 3, 4, 5, 6, 8], [0, 1, 2, 3, 4, 5, 6, 7, 8, 9], [0, 1, 2, 3, 4, 5, 6, 7, 8, 9, 10], [0, 1, 2, 3, 4, 5, 6], [0, 1, 2, 3, 4, 5, 6, 7, 8, 9, 10, 11, 12], [0, 1, 2, 3, 4, 5, 6, 7, 8, 9, 10, 11, 12, 13], [0, 1, 2, 3, 4, 5, 6, 7, 8, 9, 10, 11, 12, 13, 14], [0, 1, 2, 3, 4, 5, 6, 7, 8, 9, 10, 11, 12, 13, 14, 15]] [0, 5, 6, 7, 28] [] (by kernel_rfl) (by kernel_rfl) (by kernel_rfl) (by kernel_rfl) (by kernel_rfl) ⟨trivial, trivial, trivial, trivial, trivial, trivial, trivial, trivial, hc9, trivial, trivial, trivial, trivial, trivial, trivial⟩ (.a (.a (.a (.m ?_ (.a (.a (.m ?_ (.a (.a (.a (.a (.a (.a (.m ?_ (.a (.a (.a .z))))))))))))))))) (by kernel_rfl) ?_
      · exact DOk.stepP (fun b => .val (.c (.d (.bool b))) (True)) (p := (decide ((p0.getD i1 default).diff = 0))) hp7 (fun r => by kernel_rfl) (fun r => by kernel_rfl) trivial (by kernel_rfl) (by kernel_rfl) (fun r => rfl)
      · exact DOk.stepP (fun b => .val (.c (.d (.bool b))) (True)) (p := (decide (0 < ((i1 : Nat) : Int)))) hp8 (fun r => by kernel_rfl) (fun r => by kernel_rfl) trivial (by kernel_rfl) (by kernel_rfl) (fun r => rfl)
      · exact DOk.callA (caps := []) (xs := [.agg (cUpdate (p0.getD ((IntKind.i64.wrap (((i1 : Nat) : Int) - 1)).toNat) default)), .agg (cUpdate (p0.getD i1 default))]) (diff_Compare_ok hr10) rfl (fun r => by kernel_rfl) rfl (fun r => by kernel_rfl) (fun r => by kernel_rfl) (fun r => (.cons (.refl _) (.cons (.refl _) .nil))) rfl rfl (fun r => rfl)
      exact ⟨_, h, rfl⟩
     ·refine Tri.drawnS (s' := ⟨[(0, cD (lD 6 encUpdate p0)), (5, cD (lD 6 encUpdate p0)), (6, cD (dI (p0.length : Int))), (7, cD (dI ((i1 : Nat) : Int))), (28, cD (.bool false))], []⟩) (cs := True ∧ True ∧ True ∧ True ∧ True ∧ True ∧ True ∧ True) [.a [4] [], .a [12] [4], .a [13] [], .m ⟨[(14, cD (.bool (decide ((p0.getD i1 default).diff = 0))))], []⟩ ⟨[(15, .c (.d (.bool false)))], []⟩ [] [] [], .a [3, 15] [], .a [15, 16] [], .m ⟨[(15, cD (.bool false)), (17, cD (.bool (decide (0 < ((i1 : Nat) : Int)))))], []⟩ ⟨[(18, .c (.d (.bool false)))], []⟩ [] [] [], .a [0, 18] [], .a [3, 18] [], .a [18, 20] [], .a [18, 19, 21] [], .a [18, 22] [], .a [4, 18] [4], .a [18, 23, 24] [], .a [18, 25] [], .a [15, 18, 26] [], .a [15, 27] []] [[], [0], [0, 1], [0, 1, 2], [0, 1, 2, 3], [0, 1, 2, 3, 4], [0, 1, 2, 3, 4, 5], [0, 1, 2, 3, 4, 5, 6], [0, 1, 2, 3, 4, 5, 6], [0, 1, 2, 3, 4, 5, 6, 8], [0, 1, 2, 3, 4, 5, 6, 7, 8, 9], [0, 1, 2, 3, 4, 5, 6, 7, 8, 9, 10], [0, 1, 2, 3, 4, 5, 6], [0, 1, 2, 3, 4, 5, 6, 7, 8, 9, 10, 11, 12], [0, 1, 2, 3, 4, 5, 6, 7, 8, 9, 10, 11, 12, 13], [0, 1, 2, 3, 4, 5, 6, 7, 8, 9, 10, 11, 12, 13, 14], [0, 1, 2, 3, 4, 5, 6, 7, 8, 9, 10, 11, 12, 13, 14, 15]] [0, 5, 6, 7, 28] [] (by kernel_rfl) (by kernel_rfl) (by kernel_rfl) (by kernel_rfl) (by kernel_rfl) ⟨trivial, trivial, trivial, trivial, trivial, trivial, trivial, trivial⟩ (.a (.a (.a (.m ?_ (.a (.a (.m ?_ (.a (.a (.a (.a (.a (.a (.a (.a (.a (.a .z))))))))))))))))) (by kernel_rfl) ?_
      · exact DOk.stepP (fun b => .val (.c (.d (.bool b))) (True)) (p := (decide ((p0.getD i1 default).diff = 0))) hp7 (fun r => by kernel_rfl) (fun r => by kernel_rfl) trivial (by kernel_rfl) (by kernel_rfl) (fun r => rfl)
      · exact DOk.stepP (fun b => .val (.c (.d (.bool b))) (True)) (p := (decide (0 < ((i1 : Nat) : Int)))) hp8 (fun r => by kernel_rfl) (fun r => by kernel_rfl) trivial (by kernel_rfl) (by kernel_rfl) (fun r => rfl)
      exact ⟨_, h, rfl⟩
  ·intro a3 h
   show Tri _ _ _ _
   refine Tri.seqS ?_
   refine Tri.reg ?_
   refine At.seg 1 [30] [] (s' := ⟨[(30, cD (lD 6 encUpdate p0))], []⟩) (c := True ∧ True) (by kernel_rfl) ⟨trivial, trivial⟩ ?_
   obtain ⟨r4, hr4, h⟩ := bind_elim h
   refine At.callA (caps := []) (xs := [cD (lD 6 encUpdate p0)]) (diff_Check_ok hr4) rfl rfl rfl rfl rfl rfl (.cons (.refl _) .nil) rfl rfl ?_
   refine At.seg 2 [2] [] (s' := ⟨[(2, cD (.bool (decide (r4 = 0))))], []⟩) (c := True ∧ True ∧ True) (by kernel_rfl) ⟨trivial, trivial, trivial⟩ ?_
   refine At.done rfl ?_
   show Tri _ _ _ _
   refine Tri.keep [2] [] (s' := ⟨[(2, cD (.bool (decide (r4 = 0))))], []⟩) (by kernel_rfl) ?_
   refine Tri.ret ?_
   cases h
   refine ⟨_, _, rfl, ⟨trivial, trivial⟩, rfl, rfl, ?_⟩
   intro k c h
   cases h
  · exact fun x s hx hr => by cases hx; exact hr
set_option maxRecDepth 100000 in
theorem freshetlaw05_lists_ok {fuel : Nat} {q : Bool} (h : freshetlaw05_lists fuel = some q) :
    Summ Try.prog 18 [] [] (cD (.bool q)) [] := by
  refine Summ.intro Try.func18 rfl (by kernel_rfl) (by kernel_rfl) [] rfl ?_
  rintro ⟨P, w0, G0, V, LL, lk, N, φ0, fx⟩ rfl rfl rfl rfl
  unfold freshetlaw05_lists at h
  refine Tri.segL [] [] ⟨[], []⟩ (allT 1) (by kernel_rfl) (allT_ok 1) ?_
  refine Tri.seqS ?_
  refine Tri.reg ?_
  obtain ⟨r1, hr1, h⟩ := bind_elim h
  refine At.callA (caps := []) (xs := [cD (dI 2)]) (freshetlaw05_row_ok hr1) rfl rfl rfl rfl rfl rfl (.cons (.refl _) .nil) rfl rfl ?_
  refine At.seg 1 [7] [] (s' := ⟨[(7, .agg [.zero, .d (lD 3 encValue r1), .d (dU 0), .d (dU 0), .d (dU 0), .d (dI 2)])], []⟩) (c := True ∧ True) (by kernel_rfl) ⟨trivial, trivial⟩ ?_
  obtain ⟨r2, hr2, h⟩ := bind_elim h
  refine At.callA (caps := []) (xs := [cD (dI 1)]) (freshetlaw05_row_ok hr2) rfl rfl rfl rfl rfl rfl (.cons (.refl _) .nil) rfl rfl ?_
  refine At.seg 1 [7, 9] [] (s' := ⟨[(7, .agg [.zero, .d (lD 3 encValue r1), .d (dU 0), .d (dU 0), .d (dU 0), .d (dI 2)]), (9, .agg [.zero, .d (lD 3 encValue r2), .d (dU 0), .d (dU 0), .d (dU 0), .d (dI 1)])], []⟩) (c := True ∧ True) (by kernel_rfl) ⟨trivial, trivial⟩ ?_
  refine At.one rfl (One.buildSlice (z := [.zero, .zero, .d (dU 0), .d (dU 0), .d (dU 0), .d (dI 0)]) (cells := [.zero, .d (lD 3 encValue r1), .d (dU 0), .d (dU 0), .d (dU 0), .d (dI 2), .zero, .d (lD 3 encValue r2), .d (dU 0), .d (dU 0), .d (dU 0), .d (dI 1)]) (xs := List.map (encUpdate) ([(⟨([] : List Value), r1, (⟨0, (0, 0)⟩ : Time), 2⟩ : Update), (⟨([] : List Value), r2, (⟨0, (0, 0)⟩ : Time), 1⟩ : Update)] : List Update)) rfl rfl rfl rfl (by kernel_rfl) rfl rfl (by kernel_rfl) rfl rfl rfl (by kernel_rfl) rfl ⟨⟨rfl, (.cons (.zero _ _) (.cons (.refl _) (.cons (.refl _) (.cons (.refl _) (.cons (.refl _) (.cons (.refl _) .nil))))))⟩, ⟨rfl, (.cons (.zero _ _) (.cons (.refl _) (.cons (.refl _) (.cons (.refl _) (.cons (.refl _) (.cons (.refl _) .nil))))))⟩, trivial⟩) ?_
  refine At.le [10] (fun k hk h => by first | (cases h; done) | (simp at hk h; omega)) ⟨[(10, cD (lD 6 encUpdate ([(⟨([] : List Value), r1, (⟨0, (0, 0)⟩ : Time), 2⟩ : Update), (⟨([] : List Value), r2, (⟨0, (0, 0)⟩ : Time), 1⟩ : Update)] : List Update))), (7, .agg [.zero, .d (lD 3 encValue r1), .d (dU 0), .d (dU 0), .d (dU 0), .d (dI 2)]), (9, .agg [.zero, .d (lD 3 encValue r2), .d (dU 0), .d (dU 0), .d (dU 0), .d (dI 1)])], []⟩ ⟨⟨_, rfl, .c (.own rfl (List.mem_singleton.2 rfl) (Nat.le_of_ble_eq_true rfl) rfl (encs_getD (encUpdate) ([(⟨([] : List Value), r1, (⟨0, (0, 0)⟩ : Time), 2⟩ : Update), (⟨([] : List Value), r2, (⟨0, (0, 0)⟩ : Time), 1⟩ : Update)] : List Update)))⟩, ⟨_, rfl, .refl _⟩, ⟨_, rfl, .refl _⟩, trivial⟩ trivial ?_
  obtain ⟨r3, hr3, h⟩ := bind_elim h
  refine At.callA (caps := []) (xs := [cD (dI 2)]) (freshetlaw05_row_ok hr3) rfl rfl rfl rfl rfl rfl (.cons (.refl _) .nil) rfl rfl ?_
  refine At.seg 1 [10, 12] [] (s' := ⟨[(10, cD (lD 6 encUpdate ([(⟨([] : List Value), r1, (⟨0, (0, 0)⟩ : Time), 2⟩ : Update), (⟨([] : List Value), r2, (⟨0, (0, 0)⟩ : Time), 1⟩ : Update)] : List Update))), (12, .agg [.zero, .d (lD 3 encValue r3), .d (dU 0), .d (dU 0), .d (dU 0), .d (dI (-2))])], []⟩) (c := True ∧ True) (by kernel_rfl) ⟨trivial, trivial⟩ ?_
  refine At.one rfl (One.buildSlice (z := [.zero, .zero, .d (dU 0), .d (dU 0), .d (dU 0), .d (dI 0)]) (cells := [.zero, .d (lD 3 encValue r3), .d (dU 0), .d (dU 0), .d (dU 0), .d (dI (-2))]) (xs := List.map (encUpdate) ([(⟨([] : List Value), r3, (⟨0, (0, 0)⟩ : Time), (-2)⟩ : Update)] : List Update)) rfl rfl rfl rfl (by kernel_rfl) rfl rfl (by kernel_rfl) rfl rfl rfl (by kernel_rfl) rfl ⟨⟨rfl, (.cons (.zero _ _) (.cons (.refl _) (.cons (.refl _) (.cons (.refl _) (.cons (.refl _) (.cons (.refl _) .nil))))))⟩, trivial⟩) ?_
  refine At.le [13] (fun k hk h => by first | (cases h; done) | (simp at hk h; omega)) ⟨[(13, cD (lD 6 encUpdate ([(⟨([] : List Value), r3, (⟨0, (0, 0)⟩ : Time), (-2)⟩ : Update)] : List Update))), (10, cD (lD 6 encUpdate ([(⟨([] : List Value), r1, (⟨0, (0, 0)⟩ : Time), 2⟩ : Update), (⟨([] : List Value), r2, (⟨0, (0, 0)⟩ : Time), 1⟩ : Update)] : List Update))), (12, .agg [.zero, .d (lD 3 encValue r3), .d (dU 0), .d (dU 0), .d (dU 0), .d (dI (-2))])], []⟩ ⟨⟨_, rfl, .c (.own rfl (List.mem_singleton.2 rfl) (Nat.le_of_ble_eq_true rfl) rfl (encs_getD (encUpdate) ([(⟨([] : List Value), r3, (⟨0, (0, 0)⟩ : Time), (-2)⟩ : Update)] : List Update)))⟩, ⟨_, rfl, .refl _⟩, ⟨_, rfl, .refl _⟩, trivial⟩ trivial ?_
  refine At.one rfl (One.buildSlice (z := [.zero]) (cells := [.d (lD 6 encUpdate ([(⟨([] : List Value), r1, (⟨0, (0, 0)⟩ : Time), 2⟩ : Update), (⟨([] : List Value), r2, (⟨0, (0, 0)⟩ : Time), 1⟩ : Update)] : List Update)), .d (lD 6 encUpdate ([(⟨([] : List Value), r3, (⟨0, (0, 0)⟩ : Time), (-2)⟩ : Update)] : List Update))]) (xs := List.map ((fun xs => [encL 6 encUpdate xs])) ([([(⟨([] : List Value), r1, (⟨0, (0, 0)⟩ : Time), 2⟩ : Update), (⟨([] : List Value), r2, (⟨0, (0, 0)⟩ : Time), 1⟩ : Update)] : List Update), ([(⟨([] : List Value), r3, (⟨0, (0, 0)⟩ : Time), (-2)⟩ : Update)] : List Update)] : List (List Update))) rfl rfl rfl rfl (by kernel_rfl) rfl rfl (by kernel_rfl) rfl rfl rfl (by kernel_rfl) rfl ⟨⟨rfl, .refl _⟩, ⟨rfl, .refl _⟩, trivial⟩) ?_
  refine At.le [14] (fun k hk h => by first | (cases h; done) | (simp at hk h; omega)) ⟨[(14, cD (lD 1 (fun xs => [encL 6 encUpdate xs]) ([([(⟨([] : List Value), r1, (⟨0, (0, 0)⟩ : Time), 2⟩ : Update), (⟨([] : List Value), r2, (⟨0, (0, 0)⟩ : Time), 1⟩ : Update)] : List Update), ([(⟨([] : List Value), r3, (⟨0, (0, 0)⟩ : Time), (-2)⟩ : Update)] : List Update)] : List (List Update)))), (10, cD (lD 6 encUpdate ([(⟨([] : List Value), r1, (⟨0, (0, 0)⟩ : Time), 2⟩ : Update), (⟨([] : List Value), r2, (⟨0, (0, 0)⟩ : Time), 1⟩ : Update)] : List Update))), (13, cD (lD 6 encUpdate ([(⟨([] : List Value), r3, (⟨0, (0, 0)⟩ : Time), (-2)⟩ : Update)] : List Update)))], []⟩ ⟨⟨_, rfl, .c (.own rfl (List.mem_singleton.2 rfl) (Nat.le_of_ble_eq_true rfl) rfl (encs_getD ((fun xs => [encL 6 encUpdate xs])) ([([(⟨([] : List Value), r1, (⟨0, (0, 0)⟩ : Time), 2⟩ : Update), (⟨([] : List Value), r2, (⟨0, (0, 0)⟩ : Time), 1⟩ : Update)] : List Update), ([(⟨([] : List Value), r3, (⟨0, (0, 0)⟩ : Time), (-2)⟩ : Update)] : List Update)] : List (List Update))))⟩, ⟨_, rfl, .refl _⟩, ⟨_, rfl, .refl _⟩, trivial⟩ trivial ?_
  obtain ⟨r4, hr4, h⟩ := bind_elim h
  refine At.callA (caps := []) (xs := [cD (lD 1 (fun xs => [encL 6 encUpdate xs]) ([([(⟨([] : List Value), r1, (⟨0, (0, 0)⟩ : Time), 2⟩ : Update), (⟨([] : List Value), r2, (⟨0, (0, 0)⟩ : Time), 1⟩ : Update)] : List Update), ([(⟨([] : List Value), r3, (⟨0, (0, 0)⟩ : Time), (-2)⟩ : Update)] : List Update)] : List (List Update)))]) (diff_Consolidate_ok hr4) rfl rfl rfl rfl rfl rfl (.cons (.refl _) .nil) rfl rfl ?_
  refine At.seg 5 [1, 2] [] (s' := ⟨[(1, cD (lD 6 encUpdate r4.1)), (2, cD (dI r4.2))], []⟩) (c := True ∧ True ∧ True ∧ True ∧ True ∧ True) (by kernel_rfl) ⟨trivial, trivial, trivial, trivial, trivial, trivial⟩ ?_
  refine At.done rfl ?_
  show Tri _ _ _ _
  refine Tri.seqS ?_
  refine Tri.reg ?_
  obtain ⟨r5, hr5, h⟩ := bind_elim h
  refine At.callA (caps := []) (xs := [cD (dI 1)]) (freshetlaw05_row_ok hr5) rfl rfl rfl rfl rfl rfl (.cons (.refl _) .nil) rfl rfl ?_
  refine At.seg 1 [1, 2, 20] [] (s' := ⟨[(1, cD (lD 6 encUpdate r4.1)), (2, cD (dI r4.2)), (20, .agg [.zero, .d (lD 3 encValue r5), .d (dU 0), .d (dU 0), .d (dU 0), .d (dI 3)])], []⟩) (c := True ∧ True) (by kernel_rfl) ⟨trivial, trivial⟩ ?_
  obtain ⟨r6, hr6, h⟩ := bind_elim h
  refine At.callA (caps := []) (xs := [cD (dI 1)]) (freshetlaw05_row_ok hr6) rfl rfl rfl rfl rfl rfl (.cons (.refl _) .nil) rfl rfl ?_
  refine At.seg 2 [1, 2, 20, 23] [] (s' := ⟨[(1, cD (lD 6 encUpdate r4.1)), (2, cD (dI r4.2)), (20, .agg [.zero, .d (lD 3 encValue r5), .d (dU 0), .d (dU 0), .d (dU 0), .d (dI 3)]), (23, .agg [.zero, .d (lD 3 encValue r6), .d (dU 2), .d (dU 0), .d (dU 0), .d (dI 4)])], []⟩) (c := True ∧ True ∧ True) (by kernel_rfl) ⟨trivial, trivial, trivial⟩ ?_
  refine At.one rfl (One.buildSlice (z := [.zero, .zero, .d (dU 0), .d (dU 0), .d (dU 0), .d (dI 0)]) (cells := [.zero, .d (lD 3 encValue r5), .d (dU 0), .d (dU 0), .d (dU 0), .d (dI 3), .zero, .d (lD 3 encValue r6), .d (dU 2), .d (dU 0), .d (dU 0), .d (dI 4)]) (xs := List.map (encUpdate) ([(⟨([] : List Value), r5, (⟨0, (0, 0)⟩ : Time), 3⟩ : Update), (⟨([] : List Value), r6, (⟨2, (0, 0)⟩ : Time), 4⟩ : Update)] : List Update)) rfl rfl rfl rfl (by kernel_rfl) rfl rfl (by kernel_rfl) rfl rfl rfl (by kernel_rfl) rfl ⟨⟨rfl, (.cons (.zero _ _) (.cons (.refl _) (.cons (.refl _) (.cons (.refl _) (.cons (.refl _) (.cons (.refl _) .nil))))))⟩, ⟨rfl, (.cons (.zero _ _) (.cons (.refl _) (.cons (.refl _) (.cons (.refl _) (.cons (.refl _) (.cons (.refl _) .nil))))))⟩, trivial⟩) ?_
  refine At.le [24] (fun k hk h => by first | (cases h; done) | (simp at hk h; omega)) ⟨[(24, cD (lD 6 encUpdate ([(⟨([] : List Value), r5, (⟨0, (0, 0)⟩ : Time), 3⟩ : Update), (⟨([] : List Value), r6, (⟨2, (0, 0)⟩ : Time), 4⟩ : Update)] : List Update))), (1, cD (lD 6 encUpdate r4.1)), (2, cD (dI r4.2)), (20, .agg [.zero, .d (lD 3 encValue r5), .d (dU 0), .d (dU 0), .d (dU 0), .d (dI 3)]), (23, .agg [.zero, .d (lD 3 encValue r6), .d (dU 2), .d (dU 0), .d (dU 0), .d (dI 4)])], []⟩ ⟨⟨_, rfl, .c (.own rfl (List.mem_singleton.2 rfl) (Nat.le_of_ble_eq_true rfl) rfl (encs_getD (encUpdate) ([(⟨([] : List Value), r5, (⟨0, (0, 0)⟩ : Time), 3⟩ : Update), (⟨([] : List Value), r6, (⟨2, (0, 0)⟩ : Time), 4⟩ : Update)] : List Update)))⟩, ⟨_, rfl, .refl _⟩, ⟨_, rfl, .refl _⟩, ⟨_, rfl, .refl _⟩, ⟨_, rfl, .refl _⟩, trivial⟩ trivial ?_
  refine At.seg 1 [1, 2, 24, 25] [] (s' := ⟨[(1, cD (lD 6 encUpdate r4.1)), (2, cD (dI r4.2)), (24, cD (lD 6 encUpdate ([(⟨([] : List Value), r5, (⟨0, (0, 0)⟩ : Time), 3⟩ : Update), (⟨([] : List Value), r6, (⟨2, (0, 0)⟩ : Time), 4⟩ : Update)] : List Update))), (25, .agg [.d (dU 1), .d (dU 0), .d (dU 0)])], []⟩) (c := True ∧ True) (by kernel_rfl) ⟨trivial, trivial⟩ ?_
  obtain ⟨r7, hr7, h⟩ := bind_elim h
  refine At.callA (caps := []) (xs := [cD (lD 6 encUpdate ([(⟨([] : List Value), r5, (⟨0, (0, 0)⟩ : Time), 3⟩ : Update), (⟨([] : List Value), r6, (⟨2, (0, 0)⟩ : Time), 4⟩ : Update)] : List Update)), .agg [.d (dU 1), .d (dU 0), .d (dU 0)]]) (diff_At_ok hr7) rfl rfl rfl rfl rfl rfl (.cons (.refl _) (.cons (.refl _) .nil)) rfl rfl ?_
  refine At.seg 5 [1, 2, 3, 4] [] (s' := ⟨[(1, cD (lD 6 encUpdate r4.1)), (2, cD (dI r4.2)), (3, cD (lD 2 encCount r7.1)), (4, cD (dI r7.2))], []⟩) (c := True ∧ True ∧ True ∧ True ∧ True ∧ True) (by kernel_rfl) ⟨trivial, trivial, trivial, trivial, trivial, trivial⟩ ?_
  refine At.done rfl ?_
  show Tri _ _ _ _
  refine Tri.seqJ (fun (a8 : Bool) => ⟨[(0, cD (.bool a8))], []⟩) h (fun a8 h => ?_) (fun j9 h => ?_)
  ·show Tri _ _ ⟨[(0, cD (.bool a8))], []⟩ _
   refine Tri.keep [0] [] (s' := ⟨[(0, cD (.bool a8))], []⟩) (by kernel_rfl) ?_
   refine Tri.ret ?_
   cases h
   refine ⟨_, _, rfl, ⟨trivial, trivial⟩, rfl, rfl, ?_⟩
   intro k c h
   cases h
  ·refine Tri.reg ?_
   refine At.seg 4 [1, 2, 3, 4, 32] [] (s' := ⟨[(1, cD (lD 6 encUpdate r4.1)), (2, cD (dI r4.2)), (3, cD (lD 2 encCount r7.1)), (4, cD (dI r7.2)), (32, cD (.bool (decide ((r4.1.length : Int) = 1))))], []⟩) (c := True ∧ True ∧ True ∧ True ∧ True) (by kernel_rfl) ⟨trivial, trivial, trivial, trivial, trivial⟩ ?_
   refine At.case (fun b => ⟨[(1, cD (lD 6 encUpdate r4.1)), (2, cD (dI r4.2)), (3, cD (lD 2 encCount r7.1)), (4, cD (dI r7.2)), (32, cD (.bool b))], []⟩) (b := (decide ((r4.1.length : Int) = 1))) h (fun h => ?_) (fun h => ?_)
   ·obtain ⟨hc10, h⟩ := need_elim h
    refine At.seg 7 [1, 2, 3, 4, 39] [] (s' := ⟨[(1, cD (lD 6 encUpdate r4.1)), (2, cD (dI r4.2)), (3, cD (lD 2 encCount r7.1)), (4, cD (dI r7.2)), (39, cD (.bool (decide ((r4.1.getD 0 default).diff = 1))))], []⟩) (c := True ∧ ((0 : Int) ≤ 0 ∧ 0 < (r4.1.length : Int)) ∧ True ∧ True ∧ True ∧ True ∧ True ∧ True) (by kernel_rfl) ⟨trivial, hc10, trivial, trivial, trivial, trivial, trivial, trivial⟩ ?_
    refine At.case (fun b => ⟨[(1, cD (lD 6 encUpdate r4.1)), (2, cD (dI r4.2)), (3, cD (lD 2 encCount r7.1)), (4, cD (dI r7.2)), (39, cD (.bool b))], []⟩) (b := (decide ((r4.1.getD 0 default).diff = 1))) h (fun h => ?_) (fun h => ?_)
    ·refine At.seg 4 [1, 3, 4, 43] [] (s' := ⟨[(1, cD (lD 6 encUpdate r4.1)), (3, cD (lD 2 encCount r7.1)), (4, cD (dI r7.2)), (43, cD (.bool (decide (r4.2 = 0))))], []⟩) (c := True ∧ True ∧ True ∧ True ∧ True) (by kernel_rfl) ⟨trivial, trivial, trivial, trivial, trivial⟩ ?_
     refine At.case (fun b => ⟨[(1, cD (lD 6 encUpdate r4.1)), (3, cD (lD 2 encCount r7.1)), (4, cD (dI r7.2)), (43, cD (.bool b))], []⟩) (b := (decide (r4.2 = 0))) h (fun h => ?_) (fun h => ?_)
     ·refine At.seg 1 [3, 4, 43, 44] [] (s' := ⟨[(3, cD (lD 2 encCount r7.1)), (4, cD (dI r7.2)), (43, cD (.bool true)), (44, cD (lD 6 encUpdate r4.1))], []⟩) (c := True ∧ True) (by kernel_rfl) ⟨trivial, trivial⟩ ?_
      obtain ⟨r11, hr11, h⟩ := bind_elim h
      refine At.callA (caps := []) (xs := [cD (lD 6 encUpdate r4.1)]) (diff_Even_ok hr11) rfl rfl rfl rfl rfl rfl (.cons (.refl _) .nil) rfl rfl ?_
      refine At.seg 2 [3, 4, 47] [] (s' := ⟨[(3, cD (lD 2 encCount r7.1)), (4, cD (dI r7.2)), (47, cD (.bool r11))], []⟩) (c := True ∧ True ∧ True) (by kernel_rfl) ⟨trivial, trivial, trivial⟩ ?_
      refine At.case (fun b => ⟨[(3, cD (lD 2 encCount r7.1)), (4, cD (dI r7.2)), (47, cD (.bool b))], []⟩) (b := r11) h (fun h => ?_) (fun h => ?_)
      ·refine At.seg 5 [3, 4, 52] [] (s' := ⟨[(3, cD (lD 2 encCount r7.1)), (4, cD (dI r7.2)), (52, cD (.bool (decide ((r7.1.length : Int) = 1))))], []⟩) (c := True ∧ True ∧ True ∧ True ∧ True ∧ True) (by kernel_rfl) ⟨trivial, trivial, trivial, trivial, trivial, trivial⟩ ?_
       refine At.case (fun b => ⟨[(3, cD (lD 2 encCount r7.1)), (4, cD (dI r7.2)), (52, cD (.bool b))], []⟩) (b := (decide ((r7.1.length : Int) = 1))) h (fun h => ?_) (fun h => ?_)
       ·obtain ⟨hc12, h⟩ := need_elim h
        refine At.seg 7 [4, 59] [] (s' := ⟨[(4, cD (dI r7.2)), (59, cD (.bool (decide ((r7.1.getD 0 default).n = 3))))], []⟩) (c := True ∧ ((0 : Int) ≤ 0 ∧ 0 < (r7.1.length : Int)) ∧ True ∧ True ∧ True ∧ True ∧ True ∧ True) (by kernel_rfl) ⟨trivial, hc12, trivial, trivial, trivial, trivial, trivial, trivial⟩ ?_
        refine At.case (fun b => ⟨[(4, cD (dI r7.2)), (59, cD (.bool b))], []⟩) (b := (decide ((r7.1.getD 0 default).n = 3))) h (fun h => ?_) (fun h => ?_)
        ·refine At.seg 4 [0] [] (s' := ⟨[(0, cD (.bool (decide (r7.2 = 0))))], []⟩) (c := True ∧ True ∧ True ∧ True ∧ True) (by kernel_rfl) ⟨trivial, trivial, trivial, trivial, trivial⟩ ?_
         refine At.done rfl ?_
         exact ⟨_, h, rfl⟩
        ·refine At.seg 4 [0] [] (s' := ⟨[(0, cD (.bool false))], []⟩) (c := True ∧ True ∧ True) (by kernel_rfl) ⟨trivial, trivial, trivial⟩ ?_
         refine At.done rfl ?_
         exact ⟨_, h, rfl⟩
       ·refine At.seg 11 [0] [] (s' := ⟨[(0, cD (.bool false))], []⟩) (c := True ∧ True ∧ True ∧ True ∧ True) (by kernel_rfl) ⟨trivial, trivial, trivial, trivial, trivial⟩ ?_
        refine At.done rfl ?_
        exact ⟨_, h, rfl⟩
      ·refine At.seg 16 [0] [] (s' := ⟨[(0, cD (.bool false))], []⟩) (c := True ∧ True ∧ True ∧ True ∧ True ∧ True ∧ True) (by kernel_rfl) ⟨trivial, trivial, trivial, trivial, trivial, trivial, trivial⟩ ?_
       refine At.done rfl ?_
       exact ⟨_, h, rfl⟩
     ·refine At.seg 20 [0] [] (s' := ⟨[(0, cD (.bool false))], []⟩) (c := True ∧ True ∧ True ∧ True ∧ True ∧ True ∧ True ∧ True ∧ True) (by kernel_rfl) ⟨trivial, trivial, trivial, trivial, trivial, trivial, trivial, trivial, trivial⟩ ?_
      refine At.done rfl ?_
      exact ⟨_, h, rfl⟩
    ·refine At.seg 24 [0] [] (s' := ⟨[(0, cD (.bool false))], []⟩) (c := True ∧ True ∧ True ∧ True ∧ True ∧ True ∧ True ∧ True ∧ True ∧ True ∧ True) (by kernel_rfl) ⟨trivial, trivial, trivial, trivial, trivial, trivial, trivial, trivial, trivial, trivial, trivial⟩ ?_
     refine At.done rfl ?_
     exact ⟨_, h, rfl⟩
   ·refine At.seg 31 [0] [] (s' := ⟨[(0, cD (.bool false))], []⟩) (c := True ∧ True ∧ True ∧ True ∧ True ∧ True ∧ True ∧ True ∧ True ∧ True ∧ True ∧ True ∧ True) (by kernel_rfl) ⟨trivial, trivial, trivial, trivial, trivial, trivial, trivial, trivial, trivial, trivial, trivial, trivial, trivial⟩ ?_
    refine At.done rfl ?_
    exact ⟨_, h, rfl⟩
set_option maxRecDepth 100000 in
theorem freshetref03_Same_ok {p0 : List Value} {p1 : List Value} {q : Bool} (h : freshetref03_Same p0 p1 = some q) :
    Summ Try.prog 44 [cD (lD 3 encValue p0), cD (lD 3 encValue p1)] [] (cD (.bool q)) [] := by
  refine Summ.intro Try.func44 rfl (by kernel_rfl) (by kernel_rfl) [] rfl ?_
  rintro ⟨P, w0, G0, V, LL, lk, N, φ0, fx⟩ rfl rfl rfl rfl
  unfold freshetref03_Same at h
  refine Tri.segL [0, 1] [] ⟨[(0, cD (lD 3 encValue p0)), (1, cD (lD 3 encValue p1))], []⟩ (allT 1) (by kernel_rfl) (allT_ok 1) ?_
  refine Tri.seqS ?_
  refine Tri.segL [0, 1, 10] [] ⟨[(0, cD (lD 3 encValue p0)), (1, cD (lD 3 encValue p1)), (10, cD (.bool (!decide ((p0.length : Int) = (p1.length : Int)))))], []⟩ (allT 5) (by kernel_rfl) (allT_ok 5) ?_
  refine Tri.condP (b := (!decide ((p0.length : Int) = (p1.length : Int)))) rfl h (fun h => ?_) (fun h => ?_)
  ·refine Tri.segC [4] [] (allT 1) (by kernel_rfl) (by kernel_rfl) (allT_ok 1) ?_
   refine Tri.keep [4] [] (s' := ⟨[(4, cD (.bool false))], []⟩) (by kernel_rfl) ?_
   refine Tri.ret ?_
   cases h
   refine ⟨_, _, rfl, ⟨trivial, trivial⟩, rfl, rfl, ?_⟩
   intro k c h
   cases h
  ·refine Tri.skip ?_
   show Tri _ _ _ _
   refine Tri.seqS ?_
   refine Tri.segL [0, 1, 12, 13] [] ⟨[(0, cD (lD 3 encValue p0)), (1, cD (lD 3 encValue p1)), (12, cD (dI (p0.length : Int))), (13, cD (dI 0))], []⟩ (allT 3) (by kernel_rfl) (allT_ok 3) ?_
   refine Tri.lenOf (t := 0) rfl fun hlena2 => ?_
   refine Tri.keep [13, 0, 1, 12] [] (s' := idx 13 0 ⟨[(0, cD (lD 3 encValue p0)), (1, cD (lD 3 encValue p1)), (12, cD (dI (p0.length : Int)))], []⟩) (by kernel_rfl) ?_
   refine Tri.range (n := p0.length) (st0 := ()) (fun (x : Bool) s => RetAt Try.prog Try.f44 (cD (.bool x)) [] s) (fun (a2 : Unit) => ⟨[(0, cD (lD 3 encValue p0)), (1, cD (lD 3 encValue p1)), (12, cD (dI (p0.length : Int)))], []⟩) (fun (a2 : Unit) => ⟨[(0, cD (lD 3 encValue p0)), (1, cD (lD 3 encValue p1)), (12, cD (dI (p0.length : Int)))], []⟩) (fun i => decide ((i : Int) < (p0.length : Int))) [14, 13, 0, 1, 12] [] [0, 1, 12] [] [13, 0, 1, 12] [] h hlena2 rfl ?_ ?_ ?_ ?_ ?_ ?_ ?_ ?_
   · exact fun i a => ⟨True ∧ True, by kernel_rfl, ⟨trivial, trivial⟩⟩
   · exact fun i hi => decide_eq_true (by omega)
   · exact decide_eq_false (by omega)
   · exact fun a => by kernel_rfl
   · exact fun i a => ⟨True ∧ True ∧ True, by kernel_rfl, ⟨trivial, trivial, trivial⟩⟩
   ·intro i1 a2 c hii1 h
    refine Tri.segL [0, 1, 5, 12, 13] [] ⟨[(0, cD (lD 3 encValue p0)), (1, cD (lD 3 encValue p1)), (5, cD (dI ((i1 : Nat) : Int))), (12, cD (dI (p0.length : Int))), (13, cD (dI ((i1 : Nat) : Int)))], []⟩ (allT 2) (by kernel_rfl) (allT_ok 2) ?_
    refine Tri.seqS ?_
    obtain ⟨hc4, h⟩ := need_elim h
    refine Tri.drawnS (s' := ⟨[(0, cD (lD 3 encValue p0)), (1, cD (lD 3 encValue p1)), (12, cD (dI (p0.length : Int))), (13, cD (dI ((i1 : Nat) : Int))), (24, cD (.bool (!(eqValue (p0.getD i1 default) (p1.getD i1 default)))))], []⟩) (cs := True ∧ True ∧ ((0 : Int) ≤ ((i1 : Nat) : Int) ∧ ((i1 : Nat) : Int) < (p0.length : Int)) ∧ True ∧ True ∧ True ∧ ((0 : Int) ≤ ((i1 : Nat) : Int) ∧ ((i1 : Nat) : Int) < (p1.length : Int)) ∧ True ∧ True) [.a [0] [], .a [5] [], .a [16, 17] [], .a [18] [], .a [1] [], .a [5] [], .a [20, 21] [], .a [22] [], .m ⟨[(19, .agg (cValue (p0.getD i1 default))), (23, .agg (cValue (p1.getD i1 default)))], []⟩ ⟨[(24, cD (.bool (!(eqValue (p0.getD i1 default) (p1.getD i1 default)))))], []⟩ [] [] []] [[], [], [0, 1], [0, 1, 2], [], [], [4, 5], [4, 5, 6], [0, 1, 2, 3, 4, 5, 6, 7]] [0, 1, 12, 13, 24] [] (by kernel_rfl) (by kernel_rfl) (by kernel_rfl) (by kernel_rfl) (by kernel_rfl) ⟨trivial, trivial, ⟨by omega, by omega⟩, trivial, trivial, trivial, hc4, trivial, trivial⟩ (.a (.a (.a (.a (.a (.a (.a (.a (.m ?_ .z))))))))) (by kernel_rfl) ?_
    · exact DOk.one fun r _ => One.eql (b := (eqValue (p0.getD i1 default) (p1.getD i1 default))) (d := 9) rfl (by kernel_rfl) rfl (.inr rfl) rfl rfl (by kernel_rfl) rfl (by kernel_rfl)
    show Tri _ _ _ _
    refine Tri.condP (b := (!(eqValue (p0.getD i1 default) (p1.getD i1 default)))) rfl h (fun h => ?_) (fun h => ?_)
    ·refine Tri.segC [4] [] (allT 1) (by kernel_rfl) (by kernel_rfl) (allT_ok 1) ?_
     refine Tri.keep [4] [] (s' := ⟨[(4, cD (.bool false))], []⟩) (by kernel_rfl) ?_
     refine Tri.ret ?_
     cases h
     refine ⟨_, _, rfl, ⟨trivial, trivial⟩, rfl, rfl, ?_⟩
     intro k c h
     cases h
    ·refine Tri.keep [13, 0, 1, 12] [] (s' := ⟨[(13, cD (dI ((i1 : Nat) : Int))), (0, cD (lD 3 encValue p0)), (1, cD (lD 3 encValue p1)), (12, cD (dI (p0.length : Int)))], []⟩) (by kernel_rfl) ?_
     refine Tri.skip ?_
     cases h
     exact rfl
   ·intro a3 h
    show Tri _ _ _ _
    refine Tri.segC [4] [] (allT 1) (by kernel_rfl) (by kernel_rfl) (allT_ok 1) ?_
    refine Tri.keep [4] [] (s' := ⟨[(4, cD (.bool true))], []⟩) (by kernel_rfl) ?_
    refine Tri.ret ?_
    cases h
    refine ⟨_, _, rfl, ⟨trivial, trivial⟩, rfl, rfl, ?_⟩
    intro k c h
    cases h
   · exact fun x s hx hr => by cases hx; exact hr
set_option maxRecDepth 100000 in
theorem slices_Growfreshet_api_Count_freshet_api_Count_Count_ok_o {p1 : Int} {q : List Count} (h : slices_Growfreshet_api_Count_freshet_api_Count_Count p1 = some q) :
    Summ Try.prog 80 [.c (.zero), cD (dI p1)] [] (.c (oC 6000 2 q)) [(6000, vL 2 encCount q)] := by
  refine Summ.intro Try.func80 rfl (by kernel_rfl) (by kernel_rfl) [6000] rfl ?_
  rintro ⟨P, w0, G0, V, LL, lk, N, φ0, fx⟩ rfl rfl rfl rfl
  unfold slices_Growfreshet_api_Count_freshet_api_Count_Count at h
  refine Tri.segL [0, 1] [] ⟨[(0, .c (.zero)), (1, cD (dI p1))], []⟩ (allT 1) (by kernel_rfl) (allT_ok 1) ?_
  refine Tri.seqS ?_
  refine Tri.segL [0, 1, 6] [] ⟨[(0, .c (.zero)), (1, cD (dI p1)), (6, cD (.bool (decide (p1 < 0))))], []⟩ (allT 2) (by kernel_rfl) (allT_ok 2) ?_
  refine Tri.condP (b := (decide (p1 < 0))) rfl h (fun h => ?_) (fun h => ?_)
  ·refine Tri.reg ?_
   cases h
  ·refine Tri.skip ?_
   show Tri _ _ _ _
   refine Tri.seqJ (fun (a1 : List Count) => ⟨[(0, .c (oC 22 2 a1))], [(22, vL 2 encCount a1)]⟩) h (fun a1 h => ?_) (fun j2 h => ?_)
   ·show Tri _ _ ⟨[(0, .c (oC 22 2 a1))], [(22, vL 2 encCount a1)]⟩ _
    refine Tri.segC [4] [22] (allT 2) (by kernel_rfl) (by kernel_rfl) (allT_ok 2) ?_
    refine Tri.keep [4] [22] (s' := ⟨[(4, .c (oC 22 2 a1))], [(22, vL 2 encCount a1)]⟩) (by kernel_rfl) ?_
    refine Tri.rename 22 6000 ⟨[(4, .c (oC 6000 2 a1))], [(6000, vL 2 encCount a1)]⟩ (by kernel_rfl) rfl rfl rfl ?_
    refine Tri.keep [4] [6000] (s' := ⟨[(4, .c (oC 6000 2 a1))], [(6000, vL 2 encCount a1)]⟩) (by kernel_rfl) ?_
    refine Tri.ret ?_
    cases h
    refine ⟨_, _, rfl, ⟨trivial, trivial⟩, rfl, rfl, ?_⟩
    exact SubS.out ⟨⟨rfl, rfl⟩, trivial⟩
   ·refine Tri.seqS ?_
    refine Tri.reg ?_
    refine At.seg 2 [0, 8, 9] [] (s' := ⟨[(0, .c (.zero)), (8, cD (dI p1)), (9, .c (.zero))], []⟩) (c := True ∧ True ∧ True) (by kernel_rfl) ⟨trivial, trivial, trivial⟩ ?_
    refine At.one rfl (One.cap0 (e := 73) rfl rfl rfl rfl rfl rfl) ?_
    refine At.seg 5 [0, 1] [] (s' := ⟨[(0, .c (.zero)), (1, cD (dI (IntKind.i64.wrap (p1 - (IntKind.i64.wrap ((0 : Int) - 0))))))], []⟩) (c := True ∧ True ∧ True ∧ True ∧ True ∧ True) (by kernel_rfl) ⟨trivial, trivial, trivial, trivial, trivial, trivial⟩ ?_
    refine At.done rfl ?_
    show Tri _ _ _ _
    refine Tri.segL [0, 1, 16] [] ⟨[(0, .c (.zero)), (1, cD (dI (IntKind.i64.wrap (p1 - (IntKind.i64.wrap ((0 : Int) - 0)))))), (16, cD (.bool (decide (0 < (IntKind.i64.wrap (p1 - (IntKind.i64.wrap ((0 : Int) - 0))))))))], []⟩ (allT 2) (by kernel_rfl) (allT_ok 2) ?_
    refine Tri.condP (b := (decide (0 < (IntKind.i64.wrap (p1 - (IntKind.i64.wrap ((0 : Int) - 0))))))) rfl h (fun h => ?_) (fun h => ?_)
    ·refine Tri.reg ?_
     refine At.seg 2 [0, 1, 17, 18] [] (s' := ⟨[(0, .c (.zero)), (1, cD (dI (IntKind.i64.wrap (p1 - (IntKind.i64.wrap ((0 : Int) - 0)))))), (17, .c (.zero)), (18, .c (.zero))], []⟩) (c := True ∧ True ∧ True) (by kernel_rfl) ⟨trivial, trivial, trivial⟩ ?_
     refine At.one rfl (One.cap0 (e := 73) rfl rfl rfl rfl rfl rfl) ?_
     refine At.seg 2 [0, 20, 21] [] (s' := ⟨[(0, .c (.zero)), (20, .c (.zero)), (21, cD (dI (IntKind.i64.wrap (p1 - (IntKind.i64.wrap ((0 : Int) - 0))))))], []⟩) (c := ((0 : Int) ≤ (0 : Int) ∧ (0 : Int) ≤ (0 : Int) ∧ (0 : Int) ≤ ((0 : Nat) : Int)) ∧ True ∧ True) (by kernel_rfl) ⟨⟨by decide, by decide, by decide⟩, trivial, trivial⟩ ?_
     obtain ⟨hc3, h⟩ := need_elim h
     refine At.one rfl (One.appendN0 (e := 73) (es := 2) (bs := 32) (n := (IntKind.i64.wrap (p1 - (IntKind.i64.wrap ((0 : Int) - 0))))) (z := [.zero, .d (dI 0)]) (encCount) ((⟨([] : List Value), 0⟩ : Count) : Count) rfl rfl rfl rfl (by kernel_rfl) rfl rfl rfl rfl rfl rfl (by kernel_rfl) rfl rfl (.cons (.zero _ _) (.cons (.refl _) .nil)) rfl rfl rfl hc3.1 hc3.2) ?_
     refine At.seg 2 [22, 24] [22] (s' := ⟨[(22, .c (oC 22 2 (List.replicate ((IntKind.i64.wrap (p1 - (IntKind.i64.wrap ((0 : Int) - 0)))).toNat) ((⟨([] : List Value), 0⟩ : Count) : Count)))), (24, cD (dI 0))], [(22, vL 2 encCount (List.replicate ((IntKind.i64.wrap (p1 - (IntKind.i64.wrap ((0 : Int) - 0)))).toNat) ((⟨([] : List Value), 0⟩ : Count) : Count)))]⟩) (c := True ∧ True ∧ True) (by kernel_rfl) ⟨trivial, trivial, trivial⟩ ?_
     obtain ⟨hc4, h⟩ := need_elim h
     refine At.seg 1 [25] [22] (s' := ⟨[(25, .c (.own 22 2 (0 + (0 : Int).toNat) ((0 : Int).toNat - (0 : Int).toNat)))], [(22, vL 2 encCount (List.replicate ((IntKind.i64.wrap (p1 - (IntKind.i64.wrap ((0 : Int) - 0)))).toNat) ((⟨([] : List Value), 0⟩ : Count) : Count)))]⟩) (c := ((0 : Int) ≤ 0 ∧ (0 : Int) ≤ 0 ∧ (0 : Int) ≤ ((List.replicate ((IntKind.i64.wrap (p1 - (IntKind.i64.wrap ((0 : Int) - 0)))).toNat) ((⟨([] : List Value), 0⟩ : Count) : Count)).length : Int)) ∧ True) (by kernel_rfl) ⟨hc4, trivial⟩ ?_
     refine At.eqS (s' := ⟨[(25, .c (oC 22 2 ((List.replicate ((IntKind.i64.wrap (p1 - (IntKind.i64.wrap ((0 : Int) - 0)))).toNat) ((⟨([] : List Value), 0⟩ : Count) : Count)).take 0)))], [(22, vL 2 encCount (List.replicate ((IntKind.i64.wrap (p1 - (IntKind.i64.wrap ((0 : Int) - 0)))).toNat) ((⟨([] : List Value), 0⟩ : Count) : Count)))]⟩) (by simp only [oC, vL, List.length_take, Int.toNat_zero, Nat.add_zero, Nat.zero_add, Nat.sub_zero, take_min hc4, Nat.zero_min]) ?_
     refine At.le [] (fun k hk => by cases hk) ⟨[(25, .c (oC 22 2 ((List.replicate ((IntKind.i64.wrap (p1 - (IntKind.i64.wrap ((0 : Int) - 0)))).toNat) ((⟨([] : List Value), 0⟩ : Count) : Count)).take 0)))], [(22, vL 2 encCount ((List.replicate ((IntKind.i64.wrap (p1 - (IntKind.i64.wrap ((0 : Int) - 0)))).toNat) ((⟨([] : List Value), 0⟩ : Count) : Count)).take 0))]⟩ ⟨⟨_, rfl, .refl _⟩, trivial⟩ ⟨⟨_, rfl, .take (take_le _ _) (take_get (encCount) _ _), (by simp)⟩, trivial⟩ ?_
     refine At.seg 1 [0] [22] (s' := ⟨[(0, .c (oC 22 2 ((List.replicate ((IntKind.i64.wrap (p1 - (IntKind.i64.wrap ((0 : Int) - 0)))).toNat) ((⟨([] : List Value), 0⟩ : Count) : Count)).take 0)))], [(22, vL 2 encCount ((List.replicate ((IntKind.i64.wrap (p1 - (IntKind.i64.wrap ((0 : Int) - 0)))).toNat) ((⟨([] : List Value), 0⟩ : Count) : Count)).take 0))]⟩) (c := True ∧ True) (by kernel_rfl) ⟨trivial, trivial⟩ ?_
     refine At.done rfl ?_
     exact ⟨_, h, rfl⟩
    ·refine Tri.newOwn (t := 0) (k := 22) (es := 2) (fun i => encCount (([] : List Count).getD i default)) rfl rfl rfl ?_
     refine Tri.keep [0] [22] (s' := ⟨[(0, .c (oC 22 2 ([] : List Count)))], [(22, vL 2 encCount ([] : List Count))]⟩) (by kernel_rfl) ?_
     refine Tri.skip ?_
     exact ⟨_, h, rfl⟩
end Go.Av
namespace Go.Av
open Go Go.Proofs
set_option linter.unusedVariables false
set_option linter.unusedSimpArgs false
set_option maxRecDepth 100000 in
theorem slices_Concatfreshet_api_Count_freshet_api_Count_Count_ok_o {p0 : List (List Count)} {q : List Count} (h : slices_Concatfreshet_api_Count_freshet_api_Count_Count p0 = some q) :
    Summ Try.prog 59 [cD (lD 1 (fun xs => [encL 2 encCount xs]) p0)] [] (.c (oC 6000 2 q)) [(6000, vL 2 encCount q)] := by
  refine Summ.intro Try.func59 rfl (by kernel_rfl) (by kernel_rfl) [6000] rfl ?_
  rintro ⟨P, w0, G0, V, LL, lk, N, φ0, fx⟩ rfl rfl rfl rfl
  unfold slices_Concatfreshet_api_Count_freshet_api_Count_Count at h
  refine Tri.segC [0] [] (allT 1) (by kernel_rfl) (by kernel_rfl) (allT_ok 1) ?_
  refine Tri.segL [0, 3] [] ⟨[(0, cD (lD 1 (fun xs => [encL 2 encCount xs]) p0)), (3, cD (dI 0))], []⟩ (allT 1) (by kernel_rfl) (allT_ok 1) ?_
  refine Tri.seqS ?_
  refine Tri.segL [0, 3, 9, 10, 11] [] ⟨[(0, cD (lD 1 (fun xs => [encL 2 encCount xs]) p0)), (3, cD (dI 0)), (9, cD (lD 1 (fun xs => [encL 2 encCount xs]) p0)), (10, cD (dI (p0.length : Int))), (11, cD (dI 0))], []⟩ (allT 3) (by kernel_rfl) (allT_ok 3) ?_
  refine Tri.lenOf (t := 9) rfl fun hlena2 => ?_
  refine Tri.keep [11, 0, 3, 9, 10] [] (s' := idx 11 0 ⟨[(0, cD (lD 1 (fun xs => [encL 2 encCount xs]) p0)), (3, cD (dI 0)), (9, cD (lD 1 (fun xs => [encL 2 encCount xs]) p0)), (10, cD (dI (p0.length : Int)))], []⟩) (by kernel_rfl) ?_
  refine Tri.range (n := p0.length) (st0 := 0) (fun (x : Empty) s => False) (fun (a2 : Int) => ⟨[(0, cD (lD 1 (fun xs => [encL 2 encCount xs]) p0)), (3, cD (dI a2)), (9, cD (lD 1 (fun xs => [encL 2 encCount xs]) p0)), (10, cD (dI (p0.length : Int)))], []⟩) (fun (a2 : Int) => ⟨[(0, cD (lD 1 (fun xs => [encL 2 encCount xs]) p0)), (3, cD (dI a2)), (9, cD (lD 1 (fun xs => [encL 2 encCount xs]) p0)), (10, cD (dI (p0.length : Int)))], []⟩) (fun i => decide ((i : Int) < (p0.length : Int))) [12, 11, 0, 3, 9, 10] [] [0, 3, 9, 10] [] [11, 0, 3, 9, 10] [] h hlena2 rfl ?_ ?_ ?_ ?_ ?_ ?_ ?_ ?_
  · exact fun i a => ⟨True ∧ True, by kernel_rfl, ⟨trivial, trivial⟩⟩
  · exact fun i hi => decide_eq_true (by omega)
  · exact decide_eq_false (by omega)
  · exact fun a => by kernel_rfl
  · exact fun i a => ⟨True ∧ True ∧ True, by kernel_rfl, ⟨trivial, trivial, trivial⟩⟩
  ·intro i1 a2 c hii1 h
   refine Tri.segC [0, 3, 5, 9, 10, 11] [] (((0 : Int) ≤ ((i1 : Nat) : Int) ∧ ((i1 : Nat) : Int) < (p0.length : Int)) ∧ True ∧ True ∧ True) (by kernel_rfl) (by kernel_rfl) ⟨⟨by omega, by omega⟩, trivial, trivial, trivial⟩ ?_
   refine Tri.segC [0, 3, 9, 10, 11] [] (allT 5) (by kernel_rfl) (by kernel_rfl) (allT_ok 5) ?_
   refine Tri.segL [0, 3, 9, 10, 11, 20] [] ⟨[(0, cD (lD 1 (fun xs => [encL 2 encCount xs]) p0)), (3, cD (dI (IntKind.i64.wrap (a2 + ((p0.getD i1 default).length : Int))))), (9, cD (lD 1 (fun xs => [encL 2 encCount xs]) p0)), (10, cD (dI (p0.length : Int))), (11, cD (dI ((i1 : Nat) : Int))), (20, cD (.bool (decide ((IntKind.i64.wrap (a2 + ((p0.getD i1 default).length : Int))) < 0))))], []⟩ (allT 2) (by kernel_rfl) (allT_ok 2) ?_
   refine Tri.condP (b := (decide ((IntKind.i64.wrap (a2 + ((p0.getD i1 default).length : Int))) < 0))) rfl h (fun h => ?_) (fun h => ?_)
   ·refine Tri.reg ?_
    cases h
   ·refine Tri.keep [11, 0, 3, 9, 10] [] (s' := ⟨[(11, cD (dI ((i1 : Nat) : Int))), (0, cD (lD 1 (fun xs => [encL 2 encCount xs]) p0)), (3, cD (dI (IntKind.i64.wrap (a2 + ((p0.getD i1 default).length : Int))))), (9, cD (lD 1 (fun xs => [encL 2 encCount xs]) p0)), (10, cD (dI (p0.length : Int)))], []⟩) (by kernel_rfl) ?_
    refine Tri.skip ?_
    cases h
    exact rfl
  ·intro a3 h
   show Tri _ _ _ _
   refine Tri.seqS ?_
   refine Tri.reg ?_
   refine At.seg 1 [0, 23] [] (s' := ⟨[(0, cD (lD 1 (fun xs => [encL 2 encCount xs]) p0)), (23, cD (dI a3))], []⟩) (c := True ∧ True) (by kernel_rfl) ⟨trivial, trivial⟩ ?_
   obtain ⟨r4, hr4, h⟩ := bind_elim h
   refine At.callL (nf := 0) (caps := []) (xs := [.c (.zero), cD (dI a3)]) [(6000, 30096)] [0] [] (s0 := ⟨[(0, cD (lD 1 (fun xs => [encL 2 encCount xs]) p0))], []⟩) (slices_Growfreshet_api_Count_freshet_api_Count_Count_ok_o hr4) rfl rfl (by kernel_rfl) rfl (by kernel_rfl) (by kernel_rfl) (.flat (.refl _) rfl rfl (.flat (.refl _) rfl rfl .nil)) trivial (by kernel_rfl) (by kernel_rfl) (by kernel_rfl) (by kernel_rfl) (by kernel_rfl) (by kernel_rfl) (by kernel_rfl) (by kernel_rfl) (by kernel_rfl) ⟨[(24, .c (oC 30096 2 r4)), (0, cD (lD 1 (fun xs => [encL 2 encCount xs]) p0))], [(30096, vL 2 encCount r4)]⟩ (by kernel_rfl) ?_
   refine At.seg 1 [0, 6] [30096] (s' := ⟨[(0, cD (lD 1 (fun xs => [encL 2 encCount xs]) p0)), (6, .c (oC 30096 2 r4))], [(30096, vL 2 encCount r4)]⟩) (c := True ∧ True) (by kernel_rfl) ⟨trivial, trivial⟩ ?_
   refine At.done rfl ?_
   show Tri _ _ _ _
   refine Tri.seqS ?_
   refine Tri.segL [6, 25, 26, 27] [30096] ⟨[(6, .c (oC 30096 2 r4)), (25, cD (lD 1 (fun xs => [encL 2 encCount xs]) p0)), (26, cD (dI (p0.length : Int))), (27, cD (dI 0))], [(30096, vL 2 encCount r4)]⟩ (allT 3) (by kernel_rfl) (allT_ok 3) ?_
   refine Tri.lenOf (t := 25) rfl fun hlena6 => ?_
   refine Tri.keep [27, 6, 25, 26] [30096] (s' := idx 27 0 ⟨[(6, .c (oC 30096 2 r4)), (25, cD (lD 1 (fun xs => [encL 2 encCount xs]) p0)), (26, cD (dI (p0.length : Int)))], [(30096, vL 2 encCount r4)]⟩) (by kernel_rfl) ?_
   refine Tri.range (n := p0.length) (st0 := r4) (fun (x : Empty) s => False) (fun (a6 : List Count) => ⟨[(6, .c (oC 30096 2 a6)), (25, cD (lD 1 (fun xs => [encL 2 encCount xs]) p0)), (26, cD (dI (p0.length : Int)))], [(30096, vL 2 encCount a6)]⟩) (fun (a6 : List Count) => ⟨[(6, .c (oC 30096 2 a6)), (25, cD (lD 1 (fun xs => [encL 2 encCount xs]) p0)), (26, cD (dI (p0.length : Int)))], [(30096, vL 2 encCount a6)]⟩) (fun i => decide ((i : Int) < (p0.length : Int))) [28, 27, 6, 25, 26] [30096] [6, 25, 26] [30096] [27, 6, 25, 26] [30096] h hlena6 rfl ?_ ?_ ?_ ?_ ?_ ?_ ?_ ?_
   · exact fun i a => ⟨True ∧ True, by kernel_rfl, ⟨trivial, trivial⟩⟩
   · exact fun i hi => decide_eq_true (by omega)
   · exact decide_eq_false (by omega)
   · exact fun a => by kernel_rfl
   · exact fun i a => ⟨True ∧ True ∧ True, by kernel_rfl, ⟨trivial, trivial, trivial⟩⟩
   ·intro i5 a6 c hii5 h
    refine Tri.segL [6, 8, 25, 26, 27] [30096] ⟨[(6, .c (oC 30096 2 a6)), (8, cD (lD 2 encCount (p0.getD i5 default))), (25, cD (lD 1 (fun xs => [encL 2 encCount xs]) p0)), (26, cD (dI (p0.length : Int))), (27, cD (dI ((i5 : Nat) : Int)))], [(30096, vL 2 encCount a6)]⟩ (((0 : Int) ≤ ((i5 : Nat) : Int) ∧ ((i5 : Nat) : Int) < (p0.length : Int)) ∧ True ∧ True ∧ True) (by kernel_rfl) ⟨⟨by omega, by omega⟩, trivial, trivial, trivial⟩ ?_
    refine Tri.reg ?_
    refine At.seg 2 [25, 26, 27, 31, 32] [30096] (s' := ⟨[(25, cD (lD 1 (fun xs => [encL 2 encCount xs]) p0)), (26, cD (dI (p0.length : Int))), (27, cD (dI ((i5 : Nat) : Int))), (31, .c (oC 30096 2 a6)), (32, cD (lD 2 encCount (p0.getD i5 default)))], [(30096, vL 2 encCount a6)]⟩) (c := True ∧ True ∧ True) (by kernel_rfl) ⟨trivial, trivial, trivial⟩ ?_
    obtain ⟨hc8, h⟩ := need_elim h
    refine At.one rfl (One.appendT (e := 73) (es := 2) (encCount) a6 (p0.getD i5 default) rfl rfl rfl rfl rfl (.of 73 32 [.zero, .d (dI 0)] (by kernel_rfl) (by kernel_rfl) (by kernel_rfl) (by kernel_rfl) rfl (by kernel_rfl) rfl) rfl rfl rfl (.list rfl (fun _ _ => rfl)) hc8) ?_
    refine At.seg 1 [27, 6, 25, 26] [30096] (s' := ⟨[(27, cD (dI ((i5 : Nat) : Int))), (6, .c (oC 30096 2 (a6 ++ (p0.getD i5 default)))), (25, cD (lD 1 (fun xs => [encL 2 encCount xs]) p0)), (26, cD (dI (p0.length : Int)))], [(30096, vL 2 encCount (a6 ++ (p0.getD i5 default)))]⟩) (c := True ∧ True) (by kernel_rfl) ⟨trivial, trivial⟩ ?_
    refine At.done rfl ?_
    cases h
    exact rfl
   ·intro a7 h
    show Tri _ _ _ _
    refine Tri.segC [2] [30096] (allT 2) (by kernel_rfl) (by kernel_rfl) (allT_ok 2) ?_
    refine Tri.keep [2] [30096] (s' := ⟨[(2, .c (oC 30096 2 a7))], [(30096, vL 2 encCount a7)]⟩) (by kernel_rfl) ?_
    refine Tri.rename 30096 6000 ⟨[(2, .c (oC 6000 2 a7))], [(6000, vL 2 encCount a7)]⟩ (by kernel_rfl) rfl rfl rfl ?_
    refine Tri.keep [2] [6000] (s' := ⟨[(2, .c (oC 6000 2 a7))], [(6000, vL 2 encCount a7)]⟩) (by kernel_rfl) ?_
    refine Tri.ret ?_
    cases h
    refine ⟨_, _, rfl, ⟨trivial, trivial⟩, rfl, rfl, ?_⟩
    exact SubS.out ⟨⟨rfl, rfl⟩, trivial⟩
   · exact fun x => x.elim
  · exact fun x => x.elim
set_option maxRecDepth 100000 in
theorem diff_Merge_ok {fuel : Nat} {p0 : List (List Count)} {q : (List Count) × Int} (h : diff_Merge fuel p0 = some q) :
    Summ Try.prog 28 [cD (lD 1 (fun xs => [encL 2 encCount xs]) p0)] [] (.tup [(false, [.d (lD 2 encCount q.1)]), (false, [.d (dI q.2)])]) [] := by
  refine Summ.intro Try.func28 rfl (by kernel_rfl) (by kernel_rfl) [] rfl ?_
  rintro ⟨P, w0, G0, V, LL, lk, N, φ0, fx⟩ rfl rfl rfl rfl
  unfold diff_Merge at h
  refine Tri.segL [0] [] ⟨[(0, cD (lD 1 (fun xs => [encL 2 encCount xs]) p0))], []⟩ (allT 2) (by kernel_rfl) (allT_ok 2) ?_
  refine Tri.seqS ?_
  refine Tri.reg ?_
  refine At.seg 1 [8] [] (s' := ⟨[(8, cD (lD 1 (fun xs => [encL 2 encCount xs]) p0))], []⟩) (c := True ∧ True) (by kernel_rfl) ⟨trivial, trivial⟩ ?_
  obtain ⟨r1, hr1, h⟩ := bind_elim h
  refine At.callL (nf := 0) (caps := []) (xs := [cD (lD 1 (fun xs => [encL 2 encCount xs]) p0)]) [(6000, 30036)] [] [] (s0 := ⟨[], []⟩) (slices_Concatfreshet_api_Count_freshet_api_Count_Count_ok_o hr1) rfl rfl (by kernel_rfl) rfl (by kernel_rfl) (by kernel_rfl) (.flat (.refl _) rfl rfl .nil) trivial (by kernel_rfl) (by kernel_rfl) (by kernel_rfl) (by kernel_rfl) (by kernel_rfl) (by kernel_rfl) (by kernel_rfl) (by kernel_rfl) (by kernel_rfl) ⟨[(9, .c (oC 30036 2 r1))], [(30036, vL 2 encCount r1)]⟩ (by kernel_rfl) ?_
  refine At.seg 1 [4] [30036] (s' := ⟨[(4, .c (oC 30036 2 r1))], [(30036, vL 2 encCount r1)]⟩) (c := True ∧ True) (by kernel_rfl) ⟨trivial, trivial⟩ ?_
  refine At.done rfl ?_
  show Tri _ _ _ _
  refine Tri.seqS ?_
  refine Tri.segL [4, 10, 11, 12] [30036] ⟨[(4, .c (oC 30036 2 r1)), (10, .c (oC 30036 2 r1)), (11, cD (dI (r1.length : Int))), (12, cD (dI 0))], [(30036, vL 2 encCount r1)]⟩ (allT 3) (by kernel_rfl) (allT_ok 3) ?_
  refine Tri.lenOfO (t := 4) rfl rfl (Nat.le_refl _) fun hlena3 => ?_
  refine Tri.keep [12, 4, 10, 11] [30036] (s' := idx 12 0 ⟨[(4, .c (oC 30036 2 r1)), (10, .c (oC 30036 2 r1)), (11, cD (dI (r1.length : Int)))], [(30036, vL 2 encCount r1)]⟩) (by kernel_rfl) ?_
  refine Tri.range (n := r1.length) (st0 := ()) (fun (x : (List Count) × Int) s => RetAt Try.prog Try.f28 (.tup [(false, [.d (lD 2 encCount x.1)]), (false, [.d (dI x.2)])]) [] s) (fun (a3 : Unit) => ⟨[(4, .c (oC 30036 2 r1)), (10, .c (oC 30036 2 r1)), (11, cD (dI (r1.length : Int)))], [(30036, vL 2 encCount r1)]⟩) (fun (a3 : Unit) => ⟨[(4, .c (oC 30036 2 r1)), (10, .c (oC 30036 2 r1)), (11, cD (dI (r1.length : Int)))], [(30036, vL 2 encCount r1)]⟩) (fun i => decide ((i : Int) < (r1.length : Int))) [13, 12, 4, 10, 11] [30036] [4, 10, 11] [30036] [12, 4, 10, 11] [30036] h hlena3 rfl ?_ ?_ ?_ ?_ ?_ ?_ ?_ ?_
  · exact fun i a => ⟨True ∧ True, by kernel_rfl, ⟨trivial, trivial⟩⟩
  · exact fun i hi => decide_eq_true (by omega)
  · exact decide_eq_false (by omega)
  · exact fun a => by kernel_rfl
  · exact fun i a => ⟨True ∧ True ∧ True, by kernel_rfl, ⟨trivial, trivial, trivial⟩⟩
  ·intro i2 a3 c hii2 h
   obtain ⟨hc6, h⟩ := need_elim h
   refine Tri.segL [4, 6, 10, 11, 12] [6, 30036] ⟨[(4, .c (oC 30036 2 r1)), (6, .c (.ptr 6 0)), (10, .c (oC 30036 2 r1)), (11, cD (dI (r1.length : Int))), (12, cD (dI ((i2 : Nat) : Int)))], [(6, .box (cCount (r1.getD (0 + i2) default))), (30036, vL 2 encCount r1)]⟩ (((0 : Int) ≤ ((i2 : Nat) : Int) ∧ ((i2 : Nat) : Int) < (r1.length : Int)) ∧ ((0 + i2) < r1.length) ∧ True ∧ True ∧ True) (by kernel_rfl) ⟨⟨by omega, by omega⟩, hc6, trivial, trivial, trivial⟩ ?_
   refine Tri.seqS ?_
   refine Tri.reg ?_
   refine At.seg 2 [4, 10, 11, 12, 17] [30036] (s' := ⟨[(4, .c (oC 30036 2 r1)), (10, .c (oC 30036 2 r1)), (11, cD (dI (r1.length : Int))), (12, cD (dI ((i2 : Nat) : Int))), (17, cD (lD 3 encValue ((r1.getD (0 + i2) default).row)))], [(30036, vL 2 encCount r1)]⟩) (c := True ∧ True ∧ True) (by kernel_rfl) ⟨trivial, trivial, trivial⟩ ?_
   obtain ⟨r7, hr7, h⟩ := bind_elim h
   refine At.callA (caps := []) (xs := [cD (lD 3 encValue ((r1.getD (0 + i2) default).row))]) (value_Check_ok hr7) rfl rfl rfl rfl rfl rfl (.cons (.refl _) .nil) rfl rfl ?_
   refine At.seg 1 [4, 7, 10, 11, 12] [30036] (s' := ⟨[(4, .c (oC 30036 2 r1)), (7, cD (dI r7)), (10, .c (oC 30036 2 r1)), (11, cD (dI (r1.length : Int))), (12, cD (dI ((i2 : Nat) : Int)))], [(30036, vL 2 encCount r1)]⟩) (c := True ∧ True) (by kernel_rfl) ⟨trivial, trivial⟩ ?_
   refine At.done rfl ?_
   show Tri _ _ _ _
   refine Tri.segL [4, 7, 10, 11, 12, 20] [30036] ⟨[(4, .c (oC 30036 2 r1)), (7, cD (dI r7)), (10, .c (oC 30036 2 r1)), (11, cD (dI (r1.length : Int))), (12, cD (dI ((i2 : Nat) : Int))), (20, cD (.bool (!decide (r7 = 0))))], [(30036, vL 2 encCount r1)]⟩ (allT 2) (by kernel_rfl) (allT_ok 2) ?_
   refine Tri.condP (b := (!decide (r7 = 0))) rfl h (fun h => ?_) (fun h => ?_)
   ·refine Tri.segC [2, 3] [] (allT 3) (by kernel_rfl) (by kernel_rfl) (allT_ok 3) ?_
    refine Tri.keep [2, 3] [] (s' := ⟨[(2, .c (.zero)), (3, cD (dI r7))], []⟩) (by kernel_rfl) ?_
    refine Tri.le [] (fun k hk => by cases hk) ⟨[(2, cD (lD 2 encCount ([] : List Count))), (3, cD (dI r7))], []⟩ ⟨⟨_, rfl, .c (.zero _ _)⟩, ⟨_, rfl, .refl _⟩, trivial⟩ trivial ?_
    refine Tri.ret ?_
    cases h
    refine ⟨_, _, rfl, ⟨trivial, ⟨trivial, trivial⟩⟩, rfl, rfl, ?_⟩
    intro k c h
    cases h
   ·refine Tri.keep [12, 4, 10, 11] [30036] (s' := ⟨[(12, cD (dI ((i2 : Nat) : Int))), (4, .c (oC 30036 2 r1)), (10, .c (oC 30036 2 r1)), (11, cD (dI (r1.length : Int)))], [(30036, vL 2 encCount r1)]⟩) (by kernel_rfl) ?_
    refine Tri.skip ?_
    cases h
    exact rfl
  ·intro a4 h
   show Tri _ _ _ _
   refine Tri.seqS ?_
   refine Tri.reg ?_
   refine At.seg 1 [23] [30036] (s' := ⟨[(23, .c (oC 30036 2 r1))], [(30036, vL 2 encCount r1)]⟩) (c := True ∧ True) (by kernel_rfl) ⟨trivial, trivial⟩ ?_
   obtain ⟨r5, hr5, h⟩ := bind_elim h
   refine At.callL (nf := 0) (caps := []) (xs := [.c (oC 30036 2 r1)]) [(5000, 30036)] [] [] (s0 := ⟨[], []⟩) (diff_added_w_ok hr5) rfl rfl (by kernel_rfl) rfl (by kernel_rfl) (by kernel_rfl) (.ren rfl rfl .nil) ⟨⟨by kernel_rfl, by kernel_rfl⟩, trivial⟩ (by kernel_rfl) (by kernel_rfl) (by kernel_rfl) (by kernel_rfl) (by kernel_rfl) (by kernel_rfl) (by kernel_rfl) (by kernel_rfl) (by kernel_rfl) ⟨[(24, .tup [(false, [.d (lD 2 encCount r5.1)]), (false, [.d (dI r5.2.1)])])], [(30036, vL 2 encCount r5.2.2)]⟩ (by kernel_rfl) ?_
   refine At.seg 4 [2, 3] [] (s' := ⟨[(2, cD (lD 2 encCount r5.1)), (3, cD (dI r5.2.1))], []⟩) (c := True ∧ True ∧ True ∧ True ∧ True) (by kernel_rfl) ⟨trivial, trivial, trivial, trivial, trivial⟩ ?_
   refine At.done rfl ?_
   show Tri _ _ _ _
   refine Tri.keep [2, 3] [] (s' := ⟨[(2, cD (lD 2 encCount r5.1)), (3, cD (dI r5.2.1))], []⟩) (by kernel_rfl) ?_
   refine Tri.ret ?_
   cases h
   refine ⟨_, _, rfl, ⟨trivial, ⟨trivial, trivial⟩⟩, rfl, rfl, ?_⟩
   intro k c h
   cases h
  · exact fun x s hx hr => by cases hx; exact hr
set_option maxRecDepth 100000 in
theorem freshetref05_SameCounts_ok {p0 : List Count} {p1 : List Count} {q : Bool} (h : freshetref05_SameCounts p0 p1 = some q) :
    Summ Try.prog 30 [cD (lD 2 encCount p0), cD (lD 2 encCount p1)] [] (cD (.bool q)) [] := by
  refine Summ.intro Try.func30 rfl (by kernel_rfl) (by kernel_rfl) [] rfl ?_
  rintro ⟨P, w0, G0, V, LL, lk, N, φ0, fx⟩ rfl rfl rfl rfl
  unfold freshetref05_SameCounts at h
  refine Tri.segL [0, 1] [] ⟨[(0, cD (lD 2 encCount p0)), (1, cD (lD 2 encCount p1))], []⟩ (allT 1) (by kernel_rfl) (allT_ok 1) ?_
  refine Tri.seqS ?_
  refine Tri.segL [0, 1, 10] [] ⟨[(0, cD (lD 2 encCount p0)), (1, cD (lD 2 encCount p1)), (10, cD (.bool (!decide ((p0.length : Int) = (p1.length : Int)))))], []⟩ (allT 5) (by kernel_rfl) (allT_ok 5) ?_
  refine Tri.condP (b := (!decide ((p0.length : Int) = (p1.length : Int)))) rfl h (fun h => ?_) (fun h => ?_)
  ·refine Tri.segC [4] [] (allT 1) (by kernel_rfl) (by kernel_rfl) (allT_ok 1) ?_
   refine Tri.keep [4] [] (s' := ⟨[(4, cD (.bool false))], []⟩) (by kernel_rfl) ?_
   refine Tri.ret ?_
   cases h
   refine ⟨_, _, rfl, ⟨trivial, trivial⟩, rfl, rfl, ?_⟩
   intro k c h
   cases h
  ·refine Tri.skip ?_
   show Tri _ _ _ _
   refine Tri.seqS ?_
   refine Tri.segL [0, 1, 12, 13] [] ⟨[(0, cD (lD 2 encCount p0)), (1, cD (lD 2 encCount p1)), (12, cD (dI (p0.length : Int))), (13, cD (dI 0))], []⟩ (allT 3) (by kernel_rfl) (allT_ok 3) ?_
   refine Tri.lenOf (t := 0) rfl fun hlena2 => ?_
   refine Tri.keep [13, 0, 1, 12] [] (s' := idx 13 0 ⟨[(0, cD (lD 2 encCount p0)), (1, cD (lD 2 encCount p1)), (12, cD (dI (p0.length : Int)))], []⟩) (by kernel_rfl) ?_
   refine Tri.range (n := p0.length) (st0 := ()) (fun (x : Bool) s => RetAt Try.prog Try.f30 (cD (.bool x)) [] s) (fun (a2 : Unit) => ⟨[(0, cD (lD 2 encCount p0)), (1, cD (lD 2 encCount p1)), (12, cD (dI (p0.length : Int)))], []⟩) (fun (a2 : Unit) => ⟨[(0, cD (lD 2 encCount p0)), (1, cD (lD 2 encCount p1)), (12, cD (dI (p0.length : Int)))], []⟩) (fun i => decide ((i : Int) < (p0.length : Int))) [14, 13, 0, 1, 12] [] [0, 1, 12] [] [13, 0, 1, 12] [] h hlena2 rfl ?_ ?_ ?_ ?_ ?_ ?_ ?_ ?_
   · exact fun i a => ⟨True ∧ True, by kernel_rfl, ⟨trivial, trivial⟩⟩
   · exact fun i hi => decide_eq_true (by omega)
   · exact decide_eq_false (by omega)
   · exact fun a => by kernel_rfl
   · exact fun i a => ⟨True ∧ True ∧ True, by kernel_rfl, ⟨trivial, trivial, trivial⟩⟩
   ·intro i1 a2 c hii1 h
    refine Tri.segL [0, 1, 5, 12, 13] [] ⟨[(0, cD (lD 2 encCount p0)), (1, cD (lD 2 encCount p1)), (5, cD (dI ((i1 : Nat) : Int))), (12, cD (dI (p0.length : Int))), (13, cD (dI ((i1 : Nat) : Int)))], []⟩ (allT 2) (by kernel_rfl) (allT_ok 2) ?_
    refine Tri.seqJ (fun (a4 : Bool) => ⟨[(0, cD (lD 2 encCount p0)), (1, cD (lD 2 encCount p1)), (12, cD (dI (p0.length : Int))), (13, cD (dI ((i1 : Nat) : Int))), (40, cD (.bool a4))], []⟩) h (fun a4 h => ?_) (fun j5 h => ?_)
    ·show Tri _ _ ⟨[(0, cD (lD 2 encCount p0)), (1, cD (lD 2 encCount p1)), (12, cD (dI (p0.length : Int))), (13, cD (dI ((i1 : Nat) : Int))), (40, cD (.bool a4))], []⟩ _
     refine Tri.condP (b := a4) rfl h (fun h => ?_) (fun h => ?_)
     ·refine Tri.segC [4] [] (allT 1) (by kernel_rfl) (by kernel_rfl) (allT_ok 1) ?_
      refine Tri.keep [4] [] (s' := ⟨[(4, cD (.bool false))], []⟩) (by kernel_rfl) ?_
      refine Tri.ret ?_
      cases h
      refine ⟨_, _, rfl, ⟨trivial, trivial⟩, rfl, rfl, ?_⟩
      intro k c h
      cases h
     ·refine Tri.keep [13, 0, 1, 12] [] (s' := ⟨[(13, cD (dI ((i1 : Nat) : Int))), (0, cD (lD 2 encCount p0)), (1, cD (lD 2 encCount p1)), (12, cD (dI (p0.length : Int)))], []⟩) (by kernel_rfl) ?_
      refine Tri.skip ?_
      cases h
      exact rfl
    ·obtain ⟨hc6, h⟩ := need_elim h
     obtain ⟨r7, hr7, h⟩ := bind_elim h
     rcases bf_cases h with ⟨hp8, h⟩ | ⟨hp8, h⟩
     ·refine Tri.drawnS (s' := ⟨[(0, cD (lD 2 encCount p0)), (1, cD (lD 2 encCount p1)), (12, cD (dI (p0.length : Int))), (13, cD (dI ((i1 : Nat) : Int))), (40, cD (.bool true))], []⟩) (cs := True ∧ True ∧ ((0 : Int) ≤ ((i1 : Nat) : Int) ∧ ((i1 : Nat) : Int) < (p0.length : Int)) ∧ True ∧ True ∧ True ∧ True ∧ ((0 : Int) ≤ ((i1 : Nat) : Int) ∧ ((i1 : Nat) : Int) < (p1.length : Int)) ∧ True ∧ True ∧ True ∧ True ∧ True) [.a [0] [], .a [5] [], .a [16, 17] [], .a [18] [], .a [19] [], .a [1] [], .a [5] [], .a [21, 22] [], .a [23] [], .a [24] [], .m ⟨[(20, cD (lD 3 encValue ((p0.getD i1 default).row))), (25, cD (lD 3 encValue ((p1.getD i1 default).row)))], []⟩ ⟨[(26, cD (.bool r7))], []⟩ [] [] [], .a [26] [], .m ⟨[(27, cD (.bool (!r7)))], []⟩ ⟨[(28, .c (.d (.bool true)))], []⟩ [] [] [], .a [0, 28] [], .a [5, 28] [], .a [28, 29, 30] [], .a [28, 31] [], .a [28, 32] [], .a [1, 28] [], .a [5, 28] [], .a [28, 34, 35] [], .a [28, 36] [], .a [28, 37] [], .a [28, 33, 38] [], .a [28, 39] []] [[], [], [0, 1], [0, 1, 2], [0, 1, 2, 3], [], [], [5, 6], [5, 6, 7], [5, 6, 7, 8], [0, 1, 2, 3, 4, 5, 6, 7, 8, 9], [0, 1, 2, 3, 4, 5, 6, 7, 8, 9, 10], [0, 1, 2, 3, 4, 5, 6, 7, 8, 9, 10, 11], [0, 1, 2, 3, 4, 5, 6, 7, 8, 9, 10, 11, 12], [0, 1, 2, 3, 4, 5, 6, 7, 8, 9, 10, 11, 12], [0, 1, 2, 3, 4, 5, 6, 7, 8, 9, 10, 11, 12, 13, 14], [0, 1, 2, 3, 4, 5, 6, 7, 8, 9, 10, 11, 12, 13, 14, 15], [0, 1, 2, 3, 4, 5, 6, 7, 8, 9, 10, 11, 12, 13, 14, 15, 16], [0, 1, 2, 3, 4, 5, 6, 7, 8, 9, 10, 11, 12], [0, 1, 2, 3, 4, 5, 6, 7, 8, 9, 10, 11, 12], [0, 1, 2, 3, 4, 5, 6, 7, 8, 9, 10, 11, 12, 18, 19], [0, 1, 2, 3, 4, 5, 6, 7, 8, 9, 10, 11, 12, 18, 19, 20], [0, 1, 2, 3, 4, 5, 6, 7, 8, 9, 10, 11, 12, 18, 19, 20, 21], [0, 1, 2, 3, 4, 5, 6, 7, 8, 9, 10, 11, 12, 13, 14, 15, 16, 17, 18, 19, 20, 21, 22], [0, 1, 2, 3, 4, 5, 6, 7, 8, 9, 10, 11, 12, 13, 14, 15, 16, 17, 18, 19, 20, 21, 22, 23]] [0, 1, 12, 13, 40] [] (by kernel_rfl) (by kernel_rfl) (by kernel_rfl) (by kernel_rfl) (by kernel_rfl) ⟨trivial, trivial, ⟨by omega, by omega⟩, trivial, trivial, trivial, trivial, hc6, trivial, trivial, trivial, trivial, trivial⟩ (.a (.a (.a (.a (.a (.a (.a (.a (.a (.a (.m ?_ (.a (.m ?_ (.a (.a (.a (.a (.a (.a (.a (.a (.a (.a (.a (.a .z))))))))))))))))))))))))) (by kernel_rfl) ?_
      · exact DOk.callA (caps := []) (xs := [cD (lD 3 encValue ((p0.getD i1 default).row)), cD (lD 3 encValue ((p1.getD i1 default).row))]) (freshetref03_Same_ok hr7) rfl (fun r => by kernel_rfl) rfl (fun r => by kernel_rfl) (fun r => by kernel_rfl) (fun r => (.cons (.refl _) (.cons (.refl _) .nil))) rfl rfl (fun r => rfl)
      · exact DOk.stepP (fun b => .val (.c (.d (.bool b))) (True)) (p := (!r7)) hp8 (fun r => by kernel_rfl) (fun r => by kernel_rfl) trivial (by kernel_rfl) (by kernel_rfl) (fun r => rfl)
      exact ⟨_, h, rfl⟩
     ·obtain ⟨hc9, h⟩ := need_elim h
      refine Tri.drawnS (s' := ⟨[(0, cD (lD 2 encCount p0)), (1, cD (lD 2 encCount p1)), (12, cD (dI (p0.length : Int))), (13, cD (dI ((i1 : Nat) : Int))), (40, cD (.bool (!decide ((p0.getD i1 default).n = (p1.getD i1 default).n))))], []⟩) (cs := True ∧ True ∧ ((0 : Int) ≤ ((i1 : Nat) : Int) ∧ ((i1 : Nat) : Int) < (p0.length : Int)) ∧ True ∧ True ∧ True ∧ True ∧ ((0 : Int) ≤ ((i1 : Nat) : Int) ∧ ((i1 : Nat) : Int) < (p1.length : Int)) ∧ True ∧ True ∧ True ∧ True ∧ True ∧ ((0 : Int) ≤ ((i1 : Nat) : Int) ∧ ((i1 : Nat) : Int) < (p0.length : Int)) ∧ True ∧ True ∧ True ∧ True ∧ ((0 : Int) ≤ ((i1 : Nat) : Int) ∧ ((i1 : Nat) : Int) < (p1.length : Int)) ∧ True ∧ True ∧ True ∧ True ∧ True) [.a [0] [], .a [5] [], .a [16, 17] [], .a [18] [], .a [19] [], .a [1] [], .a [5] [], .a [21, 22] [], .a [23] [], .a [24] [], .m ⟨[(20, cD (lD 3 encValue ((p0.getD i1 default).row))), (25, cD (lD 3 encValue ((p1.getD i1 default).row)))], []⟩ ⟨[(26, cD (.bool r7))], []⟩ [] [] [], .a [26] [], .m ⟨[(27, cD (.bool (!r7)))], []⟩ ⟨[(28, .c (.d (.bool false)))], []⟩ [] [] [], .a [0, 28] [], .a [5, 28] [], .a [28, 29, 30] [], .a [28, 31] [], .a [28, 32] [], .a [1, 28] [], .a [5, 28] [], .a [28, 34, 35] [], .a [28, 36] [], .a [28, 37] [], .a [28, 33, 38] [], .a [28, 39] []] [[], [], [0, 1], [0, 1, 2], [0, 1, 2, 3], [], [], [5, 6], [5, 6, 7], [5, 6, 7, 8], [0, 1, 2, 3, 4, 5, 6, 7, 8, 9], [0, 1, 2, 3, 4, 5, 6, 7, 8, 9, 10], [0, 1, 2, 3, 4, 5, 6, 7, 8, 9, 10, 11], [0, 1, 2, 3, 4, 5, 6, 7, 8, 9, 10, 11, 12], [0, 1, 2, 3, 4, 5, 6, 7, 8, 9, 10, 11, 12], [0, 1, 2, 3, 4, 5, 6, 7, 8, 9, 10, 11, 12, 13, 14], [0, 1, 2, 3, 4, 5, 6, 7, 8, 9, 10, 11, 12, 13, 14, 15], [0, 1, 2, 3, 4, 5, 6, 7, 8, 9, 10, 11, 12, 13, 14, 15, 16], [0, 1, 2, 3, 4, 5, 6, 7, 8, 9, 10, 11, 12], [0, 1, 2, 3, 4, 5, 6, 7, 8, 9, 10, 11, 12], [0, 1, 2, 3, 4, 5, 6, 7, 8, 9, 10, 11, 12, 18, 19], [0, 1, 2, 3, 4, 5, 6, 7, 8, 9, 10, 11, 12, 18, 19, 20], [0, 1, 2, 3, 4, 5, 6, 7, 8, 9, 10, 11, 12, 18, 19, 20, 21], [0, 1, 2, 3, 4, 5, 6, 7, 8, 9, 10, 11, 12, 13, 14, 15, 16, 17, 18, 19, 20, 21, 22], [0, 1, 2, 3, 4, 5, 6, 7, 8, 9, 10, 11, 12, 13, 14, 15, 16, 17, 18, 19, 20, 21, 22, 23]] [0, 1, 12, 13, 40] [] (by kernel_rfl) (by kernel_rfl) (by kernel_rfl) (by kernel_rfl) (by kernel_rfl) ⟨trivial, trivial, ⟨by omega, by omega⟩, trivial, trivial, trivial, trivial, hc6, trivial, trivial, trivial, trivial, trivial, ⟨by omega, by omega⟩, trivial, trivial, trivial, trivial, hc9, trivial, trivial, trivial, trivial, trivial⟩ (.a (.a (.a (.a (.a (.a (.a (.a (.a (.a (.m ?_ (.a (.m ?_ (.a (.a (.a (.a (.a (.a (.a (.a (.a (.a (.a (.a .z))))))))))))))))))))))))) (by kernel_rfl) ?_
      · exact DOk.callA (caps := []) (xs := [cD (lD 3 encValue ((p0.getD i1 default).row)), cD (lD 3 encValue ((p1.getD i1 default).row))]) (freshetref03_Same_ok hr7) rfl (fun r => by kernel_rfl) rfl (fun r => by kernel_rfl) (fun r => by kernel_rfl) (fun r => (.cons (.refl _) (.cons (.refl _) .nil))) rfl rfl (fun r => rfl)
      · exact DOk.stepP (fun b => .val (.c (.d (.bool b))) (True)) (p := (!r7)) hp8 (fun r => by kernel_rfl) (fun r => by kernel_rfl) trivial (by kernel_rfl) (by kernel_rfl) (fun r => rfl)
      exact ⟨_, h, rfl⟩
   ·intro a3 h
    show Tri _ _ _ _
    refine Tri.segC [4] [] (allT 1) (by kernel_rfl) (by kernel_rfl) (allT_ok 1) ?_
    refine Tri.keep [4] [] (s' := ⟨[(4, cD (.bool true))], []⟩) (by kernel_rfl) ?_
    refine Tri.ret ?_
    cases h
    refine ⟨_, _, rfl, ⟨trivial, trivial⟩, rfl, rfl, ?_⟩
    intro k c h
    cases h
   · exact fun x s hx hr => by cases hx; exact hr
set_option maxRecDepth 100000 in
theorem diff_Check_ok_v0 {fuel : Nat} {p0 : List Update} {q : Int} (h : diff_Check fuel p0 = some q) :
    Summ Try.prog 20 [.c (wC 6 encUpdate p0)] [] (cD (dI q)) [] := by
  refine Summ.intro Try.func20 rfl (by kernel_rfl) (by kernel_rfl) [] rfl ?_
  rintro ⟨P, w0, G0, V, LL, lk, N, φ0, fx⟩ rfl rfl rfl rfl
  unfold diff_Check at h
  refine Tri.segL [0] [] ⟨[(0, .c (wC 6 encUpdate p0))], []⟩ (allT 1) (by kernel_rfl) (allT_ok 1) ?_
  refine Tri.seqS ?_
  refine Tri.segL [6, 7, 8] [] ⟨[(6, .c (wC 6 encUpdate p0)), (7, cD (dI (p0.length : Int))), (8, cD (dI 0))], []⟩ (allT 3) (by kernel_rfl) (allT_ok 3) ?_
  refine Tri.lenOfV (t := 6) rfl fun hlena2 => ?_
  refine Tri.keep [8, 6, 7] [] (s' := idx 8 0 ⟨[(6, .c (wC 6 encUpdate p0)), (7, cD (dI (p0.length : Int)))], []⟩) (by kernel_rfl) ?_
  refine Tri.range (n := p0.length) (st0 := ()) (fun (x : Int) s => RetAt Try.prog Try.f20 (cD (dI x)) [] s) (fun (a2 : Unit) => ⟨[(6, .c (wC 6 encUpdate p0)), (7, cD (dI (p0.length : Int)))], []⟩) (fun (a2 : Unit) => ⟨[(6, .c (wC 6 encUpdate p0)), (7, cD (dI (p0.length : Int)))], []⟩) (fun i => decide ((i : Int) < (p0.length : Int))) [9, 8, 6, 7] [] [6, 7] [] [8, 6, 7] [] h hlena2 rfl ?_ ?_ ?_ ?_ ?_ ?_ ?_ ?_
  · exact fun i a => ⟨True ∧ True, by kernel_rfl, ⟨trivial, trivial⟩⟩
  · exact fun i hi => decide_eq_true (by omega)
  · exact decide_eq_false (by omega)
  · exact fun a => by kernel_rfl
  · exact fun i a => ⟨True ∧ True ∧ True, by kernel_rfl, ⟨trivial, trivial, trivial⟩⟩
  ·intro i1 a2 c hii1 h
   refine Tri.segL [4, 6, 7, 8] [4] ⟨[(4, .c (.ptr 4 0)), (6, .c (wC 6 encUpdate p0)), (7, cD (dI (p0.length : Int))), (8, cD (dI ((i1 : Nat) : Int)))], [(4, .box (cUpdate (p0.getD i1 default)))]⟩ (((0 : Int) ≤ ((i1 : Nat) : Int) ∧ ((i1 : Nat) : Int) < (p0.length : Int)) ∧ True ∧ True ∧ True ∧ True) (by kernel_rfl) ⟨⟨by omega, by omega⟩, trivial, trivial, trivial, trivial⟩ ?_
   refine Tri.seqS ?_
   obtain ⟨r4, hr4, h⟩ := bind_elim h
   obtain ⟨r5, hr5, h⟩ := bind_elim h
   obtain ⟨r6, hr6, h⟩ := bind_elim h
   obtain ⟨r7, hr7, h⟩ := bind_elim h
   refine Tri.drawnS (s' := ⟨[(5, cD (dI r7)), (6, .c (wC 6 encUpdate p0)), (7, cD (dI (p0.length : Int))), (8, cD (dI ((i1 : Nat) : Int)))], []⟩) (cs := True ∧ True ∧ True ∧ True ∧ True ∧ True ∧ True ∧ True) [.a [4] [], .a [12] [4], .m ⟨[(13, cD (lD 3 encValue ((p0.getD i1 default).key)))], []⟩ ⟨[(14, cD (dI r4))], []⟩ [] [] [], .a [4] [], .a [15] [4], .m ⟨[(16, cD (lD 3 encValue ((p0.getD i1 default).row)))], []⟩ ⟨[(17, cD (dI r5))], []⟩ [] [] [], .a [4] [], .a [18] [4], .m ⟨[(19, .agg [.d (dU ((p0.getD i1 default).time.epoch)), .d (dU ((p0.getD i1 default).time.loop.1)), .d (dU ((p0.getD i1 default).time.loop.2))])], []⟩ ⟨[(20, .c (oC 20 3 ([(p0.getD i1 default).time] : List Time)))], [(20, vL 3 encTime ([(p0.getD i1 default).time] : List Time))]⟩ [20] [] [], .m ⟨[(20, .c (oC 20 3 ([(p0.getD i1 default).time] : List Time)))], [(20, vL 3 encTime ([(p0.getD i1 default).time] : List Time))]⟩ ⟨[(21, cD (dI r6))], []⟩ [] [] [], .m ⟨[(14, cD (dI r4)), (17, cD (dI r5)), (21, cD (dI r6))], []⟩ ⟨[(22, .c (oC 22 1 ([r4, r5, r6] : List Int)))], [(22, vL 1 (encInt .i64) ([r4, r5, r6] : List Int))]⟩ [22] [] [], .m ⟨[(22, .c (oC 22 1 ([r4, r5, r6] : List Int)))], [(22, vL 1 (encInt .i64) ([r4, r5, r6] : List Int))]⟩ ⟨[(23, cD (dI r7))], []⟩ [] [] [], .a [23] []] [[], [0], [0, 1], [], [3], [0, 1, 2, 3, 4], [], [6], [6, 7], [0, 1, 2, 3, 4, 5, 6, 7, 8], [0, 1, 2, 3, 4, 5, 6, 7, 8, 9], [0, 1, 2, 3, 4, 5, 6, 7, 8, 9, 10], [0, 1, 2, 3, 4, 5, 6, 7, 8, 9, 10, 11]] [5, 6, 7, 8] [] (by kernel_rfl) (by kernel_rfl) (by kernel_rfl) (by kernel_rfl) (by kernel_rfl) ⟨trivial, trivial, trivial, trivial, trivial, trivial, trivial, trivial⟩ (.a (.a (.m ?_ (.a (.a (.m ?_ (.a (.a (.m ?_ (.m ?_ (.m ?_ (.m ?_ (.a .z))))))))))))) (by kernel_rfl) ?_
   · exact DOk.callA (caps := []) (xs := [cD (lD 3 encValue ((p0.getD i1 default).key))]) (value_Check_ok hr4) rfl (fun r => by kernel_rfl) rfl (fun r => by kernel_rfl) (fun r => by kernel_rfl) (fun r => (.cons (.refl _) .nil)) rfl rfl (fun r => rfl)
   · exact DOk.callA (caps := []) (xs := [cD (lD 3 encValue ((p0.getD i1 default).row))]) (value_Check_ok hr5) rfl (fun r => by kernel_rfl) rfl (fun r => by kernel_rfl) (fun r => by kernel_rfl) (fun r => (.cons (.refl _) .nil)) rfl rfl (fun r => rfl)
   · exact DOk.one fun r hr => One.buildT (e := 42) (es := 3) (z := [.d (dU 0), .d (dU 0), .d (dU 0)]) (cells := [.d (dU ((p0.getD i1 default).time.epoch)), .d (dU ((p0.getD i1 default).time.loop.1)), .d (dU ((p0.getD i1 default).time.loop.2))]) (encTime) ([(p0.getD i1 default).time] : List Time) rfl (by kernel_rfl) rfl rfl (St.noRef_app (by kernel_rfl) (hr 20 (by simp))) (by kernel_rfl) rfl (by kernel_rfl) rfl rfl rfl (by kernel_rfl) rfl ⟨⟨rfl, .refl _⟩, trivial⟩
   · exact DOk.callA (caps := []) (xs := [.c (oC 20 3 ([(p0.getD i1 default).time] : List Time))]) (moment_Check_ok_v0 hr6) rfl (fun r => by kernel_rfl) rfl (fun r => by kernel_rfl) (fun r => by kernel_rfl) (fun r => (.cons (AVArg.view (encTime) ([(p0.getD i1 default).time] : List Time) rfl) .nil)) rfl rfl (fun r => rfl)
   · exact DOk.one fun r hr => One.buildT (e := 23) (es := 1) (z := [.d (dI 0)]) (cells := [.d (dI r4), .d (dI r5), .d (dI r6)]) (encInt .i64) ([r4, r5, r6] : List Int) rfl (by kernel_rfl) rfl rfl (St.noRef_app (by kernel_rfl) (hr 22 (by simp))) (by kernel_rfl) rfl (by kernel_rfl) rfl rfl rfl (by kernel_rfl) rfl ⟨⟨rfl, .refl _⟩, ⟨rfl, .refl _⟩, ⟨rfl, .refl _⟩, trivial⟩
   · exact DOk.callA (caps := []) (xs := [.c (oC 22 1 ([r4, r5, r6] : List Int))]) (cmp_Or_Errno_ok_v0 hr7) rfl (fun r => by kernel_rfl) rfl (fun r => by kernel_rfl) (fun r => by kernel_rfl) (fun r => (.cons (AVArg.view (encInt .i64) ([r4, r5, r6] : List Int) rfl) .nil)) rfl rfl (fun r => rfl)
   show Tri _ _ _ _
   refine Tri.segL [5, 6, 7, 8, 25] [] ⟨[(5, cD (dI r7)), (6, .c (wC 6 encUpdate p0)), (7, cD (dI (p0.length : Int))), (8, cD (dI ((i1 : Nat) : Int))), (25, cD (.bool (!decide (r7 = 0))))], []⟩ (allT 2) (by kernel_rfl) (allT_ok 2) ?_
   refine Tri.condP (b := (!decide (r7 = 0))) rfl h (fun h => ?_) (fun h => ?_)
   ·refine Tri.segC [2] [] (allT 2) (by kernel_rfl) (by kernel_rfl) (allT_ok 2) ?_
    refine Tri.keep [2] [] (s' := ⟨[(2, cD (dI r7))], []⟩) (by kernel_rfl) ?_
    refine Tri.ret ?_
    cases h
    refine ⟨_, _, rfl, ⟨trivial, trivial⟩, rfl, rfl, ?_⟩
    intro k c h
    cases h
   ·refine Tri.keep [8, 6, 7] [] (s' := ⟨[(8, cD (dI ((i1 : Nat) : Int))), (6, .c (wC 6 encUpdate p0)), (7, cD (dI (p0.length : Int)))], []⟩) (by kernel_rfl) ?_
    refine Tri.skip ?_
    cases h
    exact rfl
  ·intro a3 h
   show Tri _ _ _ _
   refine Tri.segC [2] [] (allT 1) (by kernel_rfl) (by kernel_rfl) (allT_ok 1) ?_
   refine Tri.keep [2] [] (s' := ⟨[(2, cD (dI 0))], []⟩) (by kernel_rfl) ?_
   refine Tri.ret ?_
   cases h
   refine ⟨_, _, rfl, ⟨trivial, trivial⟩, rfl, rfl, ?_⟩
   intro k c h
   cases h
  · exact fun x s hx hr => by cases hx; exact hr
set_option maxRecDepth 100000 in
theorem diff_At_ok_v0 {fuel : Nat} {p0 : List Update} {p1 : Time} {q : (List Count) × Int} (h : diff_At fuel p0 p1 = some q) :
    Summ Try.prog 26 [.c (wC 6 encUpdate p0), .agg (cTime p1)] [] (.tup [(false, [.d (lD 2 encCount q.1)]), (false, [.d (dI q.2)])]) [] := by
  refine Summ.intro Try.func26 rfl (by kernel_rfl) (by kernel_rfl) [] rfl ?_
  rintro ⟨P, w0, G0, V, LL, lk, N, φ0, fx⟩ rfl rfl rfl rfl
  unfold diff_At at h
  refine Tri.segL [0, 3] [3] ⟨[(0, .c (wC 6 encUpdate p0)), (3, .c (.ptr 3 0))], [(3, .box (cTime p1))]⟩ (allT 3) (by kernel_rfl) (allT_ok 3) ?_
  refine Tri.seqS ?_
  refine Tri.seqS ?_
  obtain ⟨r1, hr1, h⟩ := bind_elim h
  obtain ⟨r2, hr2, h⟩ := bind_elim h
  obtain ⟨r3, hr3, h⟩ := bind_elim h
  refine Tri.drawnS (s' := ⟨[(0, .c (wC 6 encUpdate p0)), (3, .c (.ptr 3 0)), (6, cD (dI r3))], [(3, .box (cTime p1))]⟩) (cs := True ∧ True ∧ True ∧ True) [.a [0] [], .m ⟨[(10, .c (wC 6 encUpdate p0))], []⟩ ⟨[(11, cD (dI r1))], []⟩ [] [] [], .a [3] [3], .m ⟨[(12, .agg (cTime p1))], []⟩ ⟨[(13, .c (oC 13 3 ([p1] : List Time)))], [(13, vL 3 encTime ([p1] : List Time))]⟩ [13] [] [], .m ⟨[(13, .c (oC 13 3 ([p1] : List Time)))], [(13, vL 3 encTime ([p1] : List Time))]⟩ ⟨[(14, cD (dI r2))], []⟩ [] [] [], .m ⟨[(11, cD (dI r1)), (14, cD (dI r2))], []⟩ ⟨[(15, .c (oC 15 1 ([r1, r2] : List Int)))], [(15, vL 1 (encInt .i64) ([r1, r2] : List Int))]⟩ [15] [] [], .m ⟨[(15, .c (oC 15 1 ([r1, r2] : List Int)))], [(15, vL 1 (encInt .i64) ([r1, r2] : List Int))]⟩ ⟨[(16, cD (dI r3))], []⟩ [] [] [], .a [16] []] [[], [0], [], [2], [0, 1, 2, 3], [0, 1, 2, 3, 4], [0, 1, 2, 3, 4, 5], [0, 1, 2, 3, 4, 5, 6]] [0, 3, 6] [3] (by kernel_rfl) (by kernel_rfl) (by kernel_rfl) (by kernel_rfl) (by kernel_rfl) ⟨trivial, trivial, trivial, trivial⟩ (.a (.m ?_ (.a (.m ?_ (.m ?_ (.m ?_ (.m ?_ (.a .z)))))))) (by kernel_rfl) ?_
  · exact DOk.callA (caps := []) (xs := [.c (wC 6 encUpdate p0)]) (diff_Check_ok_v0 hr1) rfl (fun r => by kernel_rfl) rfl (fun r => by kernel_rfl) (fun r => by kernel_rfl) (fun r => (.cons (.refl _) .nil)) rfl rfl (fun r => rfl)
  · exact DOk.one fun r hr => One.buildT (e := 42) (es := 3) (z := [.d (dU 0), .d (dU 0), .d (dU 0)]) (cells := [.d (dU p1.epoch), .d (dU p1.loop.1), .d (dU p1.loop.2)]) (encTime) ([p1] : List Time) rfl (by kernel_rfl) rfl rfl (St.noRef_app (by kernel_rfl) (hr 13 (by simp))) (by kernel_rfl) rfl (by kernel_rfl) rfl rfl rfl (by kernel_rfl) rfl ⟨⟨rfl, .refl _⟩, trivial⟩
  · exact DOk.callA (caps := []) (xs := [.c (oC 13 3 ([p1] : List Time))]) (moment_Check_ok_v0 hr2) rfl (fun r => by kernel_rfl) rfl (fun r => by kernel_rfl) (fun r => by kernel_rfl) (fun r => (.cons (AVArg.view (encTime) ([p1] : List Time) rfl) .nil)) rfl rfl (fun r => rfl)
  · exact DOk.one fun r hr => One.buildT (e := 23) (es := 1) (z := [.d (dI 0)]) (cells := [.d (dI r1), .d (dI r2)]) (encInt .i64) ([r1, r2] : List Int) rfl (by kernel_rfl) rfl rfl (St.noRef_app (by kernel_rfl) (hr 15 (by simp))) (by kernel_rfl) rfl (by kernel_rfl) rfl rfl rfl (by kernel_rfl) rfl ⟨⟨rfl, .refl _⟩, ⟨rfl, .refl _⟩, trivial⟩
  · exact DOk.callA (caps := []) (xs := [.c (oC 15 1 ([r1, r2] : List Int))]) (cmp_Or_Errno_ok_v0 hr3) rfl (fun r => by kernel_rfl) rfl (fun r => by kernel_rfl) (fun r => by kernel_rfl) (fun r => (.cons (AVArg.view (encInt .i64) ([r1, r2] : List Int) rfl) .nil)) rfl rfl (fun r => rfl)
  show Tri _ _ _ _
  refine Tri.segL [0, 3, 6, 18] [3] ⟨[(0, .c (wC 6 encUpdate p0)), (3, .c (.ptr 3 0)), (6, cD (dI r3)), (18, cD (.bool (!decide (r3 = 0))))], [(3, .box (cTime p1))]⟩ (allT 2) (by kernel_rfl) (allT_ok 2) ?_
  refine Tri.condP (b := (!decide (r3 = 0))) rfl h (fun h => ?_) (fun h => ?_)
  ·refine Tri.segC [4, 5] [] (allT 3) (by kernel_rfl) (by kernel_rfl) (allT_ok 3) ?_
   refine Tri.keep [4, 5] [] (s' := ⟨[(4, .c (.zero)), (5, cD (dI r3))], []⟩) (by kernel_rfl) ?_
   refine Tri.le [] (fun k hk => by cases hk) ⟨[(4, cD (lD 2 encCount ([] : List Count))), (5, cD (dI r3))], []⟩ ⟨⟨_, rfl, .c (.zero _ _)⟩, ⟨_, rfl, .refl _⟩, trivial⟩ trivial ?_
   refine Tri.ret ?_
   cases h
   refine ⟨_, _, rfl, ⟨trivial, ⟨trivial, trivial⟩⟩, rfl, rfl, ?_⟩
   intro k c h
   cases h
  ·refine Tri.skip ?_
   show Tri _ _ _ _
   refine Tri.segL [0, 3, 7] [3] ⟨[(0, .c (wC 6 encUpdate p0)), (3, .c (.ptr 3 0)), (7, .c (.zero))], [(3, .box (cTime p1))]⟩ (allT 1) (by kernel_rfl) (allT_ok 1) ?_
   refine Tri.seqS ?_
   refine Tri.segL [3, 7, 20, 21, 22] [3] ⟨[(3, .c (.ptr 3 0)), (7, .c (.zero)), (20, .c (wC 6 encUpdate p0)), (21, cD (dI (p0.length : Int))), (22, cD (dI 0))], [(3, .box (cTime p1))]⟩ (allT 3) (by kernel_rfl) (allT_ok 3) ?_
   refine Tri.lenOfV (t := 20) rfl fun hlena5 => ?_
   refine Tri.newOwn (t := 7) (k := 1007) (es := 2) (fun i => encCount (([] : List Count).getD i default)) rfl rfl rfl ?_
   refine Tri.keep [22, 3, 7, 20, 21] [3, 1007] (s' := idx 22 0 ⟨[(3, .c (.ptr 3 0)), (7, .c (oC 1007 2 ([] : List Count))), (20, .c (wC 6 encUpdate p0)), (21, cD (dI (p0.length : Int)))], [(3, .box (cTime p1)), (1007, vL 2 encCount ([] : List Count))]⟩) (by kernel_rfl) ?_
   refine Tri.range (n := p0.length) (st0 := ([] : List Count)) (fun (x : Empty) s => False) (fun (a5 : List Count) => ⟨[(3, .c (.ptr 3 0)), (7, .c (oC 1007 2 a5)), (20, .c (wC 6 encUpdate p0)), (21, cD (dI (p0.length : Int)))], [(3, .box (cTime p1)), (1007, vL 2 encCount a5)]⟩) (fun (a5 : List Count) => ⟨[(3, .c (.ptr 3 0)), (7, .c (oC 1007 2 a5)), (20, .c (wC 6 encUpdate p0)), (21, cD (dI (p0.length : Int)))], [(3, .box (cTime p1)), (1007, vL 2 encCount a5)]⟩) (fun i => decide ((i : Int) < (p0.length : Int))) [23, 22, 3, 7, 20, 21] [3, 1007] [3, 7, 20, 21] [3, 1007] [22, 3, 7, 20, 21] [3, 1007] h hlena5 rfl ?_ ?_ ?_ ?_ ?_ ?_ ?_ ?_
   · exact fun i a => ⟨True ∧ True, by kernel_rfl, ⟨trivial, trivial⟩⟩
   · exact fun i hi => decide_eq_true (by omega)
   · exact decide_eq_false (by omega)
   · exact fun a => by kernel_rfl
   · exact fun i a => ⟨True ∧ True ∧ True, by kernel_rfl, ⟨trivial, trivial, trivial⟩⟩
   ·intro i4 a5 c hii4 h
    refine Tri.segL [3, 7, 9, 20, 21, 22] [3, 9, 1007] ⟨[(3, .c (.ptr 3 0)), (7, .c (oC 1007 2 a5)), (9, .c (.ptr 9 0)), (20, .c (wC 6 encUpdate p0)), (21, cD (dI (p0.length : Int))), (22, cD (dI ((i4 : Nat) : Int)))], [(3, .box (cTime p1)), (9, .box (cUpdate (p0.getD i4 default))), (1007, vL 2 encCount a5)]⟩ (((0 : Int) ≤ ((i4 : Nat) : Int) ∧ ((i4 : Nat) : Int) < (p0.length : Int)) ∧ True ∧ True ∧ True ∧ True) (by kernel_rfl) ⟨⟨by omega, by omega⟩, trivial, trivial, trivial, trivial⟩ ?_
    refine Tri.seqS ?_
    refine Tri.reg ?_
    refine At.seg 3 [3, 7, 9, 20, 21, 22, 27, 28] [3, 9, 1007] (s' := ⟨[(3, .c (.ptr 3 0)), (7, .c (oC 1007 2 a5)), (9, .c (.ptr 9 0)), (20, .c (wC 6 encUpdate p0)), (21, cD (dI (p0.length : Int))), (22, cD (dI ((i4 : Nat) : Int))), (27, .agg [.d (dU ((p0.getD i4 default).time.epoch)), .d (dU ((p0.getD i4 default).time.loop.1)), .d (dU ((p0.getD i4 default).time.loop.2))]), (28, .agg (cTime p1))], [(3, .box (cTime p1)), (9, .box (cUpdate (p0.getD i4 default))), (1007, vL 2 encCount a5)]⟩) (c := True ∧ True ∧ True ∧ True) (by kernel_rfl) ⟨trivial, trivial, trivial, trivial⟩ ?_
    obtain ⟨r8, hr8, h⟩ := bind_elim h
    refine At.callA (caps := []) (xs := [.agg [.d (dU ((p0.getD i4 default).time.epoch)), .d (dU ((p0.getD i4 default).time.loop.1)), .d (dU ((p0.getD i4 default).time.loop.2))], .agg (cTime p1)]) (moment_Ahead_ok hr8) rfl rfl rfl rfl rfl rfl (.cons (.refl _) (.cons (.refl _) .nil)) rfl rfl ?_
    refine At.done rfl ?_
    show Tri _ _ _ _
    refine Tri.condP (b := r8) rfl h (fun h => ?_) (fun h => ?_)
    ·refine Tri.reg ?_
     refine At.seg 6 [3, 20, 21, 22, 30, 35] [3, 1007] (s' := ⟨[(3, .c (.ptr 3 0)), (20, .c (wC 6 encUpdate p0)), (21, cD (dI (p0.length : Int))), (22, cD (dI ((i4 : Nat) : Int))), (30, .c (oC 1007 2 a5)), (35, .agg [.d (lD 3 encValue ((p0.getD i4 default).row)), .d (dI ((p0.getD i4 default).diff))])], [(3, .box (cTime p1)), (1007, vL 2 encCount a5)]⟩) (c := True ∧ True ∧ True ∧ True ∧ True ∧ True ∧ True) (by kernel_rfl) ⟨trivial, trivial, trivial, trivial, trivial, trivial, trivial⟩ ?_
     refine At.one rfl (One.buildSlice (z := [.zero, .d (dI 0)]) (cells := [.d (lD 3 encValue ((p0.getD i4 default).row)), .d (dI ((p0.getD i4 default).diff))]) (xs := List.map (encCount) ([(⟨(p0.getD i4 default).row, (p0.getD i4 default).diff⟩ : Count)] : List Count)) rfl rfl rfl rfl (by kernel_rfl) rfl rfl (by kernel_rfl) rfl rfl rfl (by kernel_rfl) rfl ⟨⟨rfl, .refl _⟩, trivial⟩) ?_
     refine At.le [36] (fun k hk h => by first | (cases h; done) | (simp at hk h; omega)) ⟨[(36, cD (lD 2 encCount ([(⟨(p0.getD i4 default).row, (p0.getD i4 default).diff⟩ : Count)] : List Count))), (3, .c (.ptr 3 0)), (20, .c (wC 6 encUpdate p0)), (21, cD (dI (p0.length : Int))), (22, cD (dI ((i4 : Nat) : Int))), (30, .c (oC 1007 2 a5)), (35, .agg [.d (lD 3 encValue ((p0.getD i4 default).row)), .d (dI ((p0.getD i4 default).diff))])], [(3, .box (cTime p1)), (1007, vL 2 encCount a5)]⟩ ⟨⟨_, rfl, .c (.own rfl (List.mem_singleton.2 rfl) (Nat.le_of_ble_eq_true rfl) rfl (encs_getD (encCount) ([(⟨(p0.getD i4 default).row, (p0.getD i4 default).diff⟩ : Count)] : List Count)))⟩, ⟨_, rfl, .refl _⟩, ⟨_, rfl, .refl _⟩, ⟨_, rfl, .refl _⟩, ⟨_, rfl, .refl _⟩, ⟨_, rfl, .refl _⟩, ⟨_, rfl, .refl _⟩, trivial⟩ ⟨⟨_, rfl, .refl _, (by simp)⟩, ⟨_, rfl, .refl _, (by simp)⟩, trivial⟩ ?_
     obtain ⟨hc9, h⟩ := need_elim h
     refine At.one rfl (One.appendT (e := 73) (es := 2) (encCount) a5 ([(⟨(p0.getD i4 default).row, (p0.getD i4 default).diff⟩ : Count)] : List Count) rfl rfl rfl rfl rfl (.of 73 32 [.zero, .d (dI 0)] (by kernel_rfl) (by kernel_rfl) (by kernel_rfl) (by kernel_rfl) rfl (by kernel_rfl) rfl) rfl rfl rfl (.list rfl (fun _ _ => rfl)) hc9) ?_
     refine At.seg 1 [22, 3, 7, 20, 21] [3, 1007] (s' := ⟨[(22, cD (dI ((i4 : Nat) : Int))), (3, .c (.ptr 3 0)), (7, .c (oC 1007 2 (a5 ++ ([(⟨(p0.getD i4 default).row, (p0.getD i4 default).diff⟩ : Count)] : List Count)))), (20, .c (wC 6 encUpdate p0)), (21, cD (dI (p0.length : Int)))], [(3, .box (cTime p1)), (1007, vL 2 encCount (a5 ++ ([(⟨(p0.getD i4 default).row, (p0.getD i4 default).diff⟩ : Count)] : List Count)))]⟩) (c := True ∧ True) (by kernel_rfl) ⟨trivial, trivial⟩ ?_
     refine At.done rfl ?_
     cases h
     exact rfl
    ·refine Tri.keep [22, 3, 7, 20, 21] [3, 1007] (s' := ⟨[(22, cD (dI ((i4 : Nat) : Int))), (3, .c (.ptr 3 0)), (7, .c (oC 1007 2 a5)), (20, .c (wC 6 encUpdate p0)), (21, cD (dI (p0.length : Int)))], [(3, .box (cTime p1)), (1007, vL 2 encCount a5)]⟩) (by kernel_rfl) ?_
     refine Tri.skip ?_
     cases h
     exact rfl
   ·intro a6 h
    show Tri _ _ _ _
    refine Tri.seqS ?_
    refine Tri.reg ?_
    refine At.seg 1 [39] [1007] (s' := ⟨[(39, .c (oC 1007 2 a6))], [(1007, vL 2 encCount a6)]⟩) (c := True ∧ True) (by kernel_rfl) ⟨trivial, trivial⟩ ?_
    obtain ⟨r7, hr7, h⟩ := bind_elim h
    refine At.callL (nf := 0) (caps := []) (xs := [.c (oC 1007 2 a6)]) [(5000, 1007)] [] [] (s0 := ⟨[], []⟩) (diff_added_w_ok hr7) rfl rfl (by kernel_rfl) rfl (by kernel_rfl) (by kernel_rfl) (.ren rfl rfl .nil) ⟨⟨by kernel_rfl, by kernel_rfl⟩, trivial⟩ (by kernel_rfl) (by kernel_rfl) (by kernel_rfl) (by kernel_rfl) (by kernel_rfl) (by kernel_rfl) (by kernel_rfl) (by kernel_rfl) (by kernel_rfl) ⟨[(40, .tup [(false, [.d (lD 2 encCount r7.1)]), (false, [.d (dI r7.2.1)])])], [(1007, vL 2 encCount r7.2.2)]⟩ (by kernel_rfl) ?_
    refine At.seg 4 [4, 5] [] (s' := ⟨[(4, cD (lD 2 encCount r7.1)), (5, cD (dI r7.2.1))], []⟩) (c := True ∧ True ∧ True ∧ True ∧ True) (by kernel_rfl) ⟨trivial, trivial, trivial, trivial, trivial⟩ ?_
    refine At.done rfl ?_
    show Tri _ _ _ _
    refine Tri.keep [4, 5] [] (s' := ⟨[(4, cD (lD 2 encCount r7.1)), (5, cD (dI r7.2.1))], []⟩) (by kernel_rfl) ?_
    refine Tri.ret ?_
    cases h
    refine ⟨_, _, rfl, ⟨trivial, ⟨trivial, trivial⟩⟩, rfl, rfl, ?_⟩
    intro k c h
    cases h
   · exact fun x => x.elim
end Go.Av
namespace Go.Av
open Go
set_option linter.unusedVariables false
set_option linter.unusedSimpArgs false
theorem tot_inK {l R : List Count} {e : Int} (h : TotK l R e) : ∀ r ∈ R, in64 r.n := fun r hr => by
  rcases h with ⟨_, g, gf⟩ | ⟨_, rfl, _⟩
  · rw [(g.sum r hr).1]; exact gf r
  · cases hr
theorem tot_smK {l R : List Count} (h : TotK l R 0) (y : Count) : sm cK (pK R) y = sm cK (pK l) y := by
  rcases h with ⟨_, g, _⟩ | ⟨g, _⟩
  · exact res_sm cK_is g y
  · omega
theorem at_fine {l : List Update} {t : Time} {R : List Count} {e : Int} (h : AtOk l t R e) (he : e = 0) : errA l t = 0 ∧ TotK (atL l t) R 0 := by
  rcases h with ⟨h1, _, h2⟩ | ⟨h1, h2⟩
  · omega
  · exact ⟨h1, he ▸ h2⟩
theorem later_sm {a b : Time} (hab : leT a b = true) (l : List Update) (y : Count) : sm cK (pK (atL l a)) y + sm cK (pK (atL (l.filter fun u => !leT u.time a) b)) y = sm cK (pK (atL l b)) y := by
  induction l with
  | nil => rfl
  | cons u l ih =>
    have e : ∀ t, atL (u :: l) t = atL [u] t ++ atL l t := fun t => atL_app [u] l t
    have e2 : ∀ x z : List Count, pK (x ++ z) = pK x ++ pK z := fun x z => PR_append ..
    rw [e, e, e2, e2, sm_append, sm_append, ← ih]
    by_cases h : leT u.time a = true
    · rw [List.filter_cons_of_neg (by simp [h]), atL_one, atL_one, if_pos h, if_pos (leT_trans h hab)]
      omega
    · have e3 : atL (u :: l.filter fun u => !leT u.time a) b = atL [u] b ++ atL (l.filter fun u => !leT u.time a) b := atL_app [u] _ b
      rw [List.filter_cons_of_pos (by simpa using h), e3, e2, sm_append, atL_one u a, if_neg h]
      simp only [pK, PR, List.map_nil, sm]
      omega
theorem DiffLater_true {fuel : Nat} {l : List Update} {a b : Time} (hL : freshetlaw05_lists fuel = some true) (hf : 20000000 ≤ fuel) (hn : l.length ≤ 2000000) (hd : ∀ u ∈ l, in64 u.diff)
    (ht : ∀ u ∈ l, nnTime u.time) (hta : nnTime a) (htb : nnTime b) : freshetlaw05_DiffLater fuel l a b = some true := by
  unfold freshetlaw05_DiffLater
  rw [hL]
  simp only [Option.bind_some, Bool.not_true, bf_false]
  rw [rangeN_to (l.filter fun u => !leT u.time a) (fun i s => s = (l.take i).filter fun u => !leT u.time a) (fun s hs => by rw [hs, List.take_length])]
  · simp only [outK_done]
    have hl7 : (l.filter fun u => !leT u.time a).length ≤ l.length := List.length_filter_le _ _
    have hm7 : ∀ u ∈ l.filter (fun u => !leT u.time a), u ∈ l := fun u hu => (List.mem_filter.1 hu).1
    obtain ⟨R5, e5, a1, a2, a3⟩ := at_ok (fuel := fuel) (l := l) (t := a) hf (by omega) hd ht hta
    obtain ⟨R6, e6, b1, b2, b3⟩ := at_ok (fuel := fuel) (l := l) (t := b) hf (by omega) hd ht htb
    obtain ⟨R7, e7, c1, c2, c3⟩ := at_ok (fuel := fuel) (l := l.filter fun u => !leT u.time a) (t := b) hf (by omega) (fun u hu => hd u (hm7 u hu)) (fun u hu => ht u (hm7 u hu)) htb
    rw [a1, b1, c1]
    simp only [Option.bind_some, jn_eq, bf_decide, bf_not, bf_true]
    by_cases g5 : e5 = 0
    · by_cases g6 : e6 = 0
      · by_cases g7 : e7 = 0
        · rw [if_pos g5, if_pos g6, if_pos g7]
          split
          · rfl
          · split
            · rfl
            · split
              · rfl
              · rename_i n1 n2 n3
                have hab : leT a b = true := leT_iff.2 ⟨by omega, by omega, by omega⟩
                obtain ⟨p1, p2⟩ := at_fine a2 g5
                obtain ⟨q1, q2⟩ := at_fine b2 g6
                obtain ⟨r1, r2⟩ := at_fine c2 g7
                have ho := (errA_zero.1 p1).1
                obtain ⟨Q, w, m1, m2⟩ := merge_ok (fuel := fuel) (ls := [R5, R7]) hf (by simp; omega) (fun u hu => by
                  simp only [List.flatten_cons, List.flatten_nil, List.append_nil] at hu
                  rcases List.mem_append.1 hu with hu | hu
                  · exact tot_inK p2 u hu
                  · exact tot_inK r2 u hu)
                simp only [List.flatten_cons, List.flatten_nil, List.append_nil] at m2
                have hoM : ∀ c ∈ R5 ++ R7, okRow c.row = true := fun c hc => by
                  rcases List.mem_append.1 hc with hc | hc
                  · exact tot_memK p2 (atL_ok (t := a) ho) c hc
                  · exact tot_memK r2 (atL_ok (t := b) fun u hu => ho u (hm7 u hu)) c hc
                rcases m2 with ⟨n1, _⟩ | ⟨_, n2⟩
                · exact absurd hoM n1
                · obtain ⟨u1, u2⟩ := tot_uniqueK n2 q2 hoM (atL_ok (t := b) ho) (fun y => by
                    rw [show pK (R5 ++ R7) = pK R5 ++ pK R7 from PR_append .., sm_append, tot_smK p2, tot_smK r2, later_sm hab])
                  rw [m1]
                  simp only [Option.bind_some]
                  rw [if_pos u2, u1, sameC]
                  rfl
        · rw [if_pos g5, if_pos g6, if_neg g7]
      · rw [if_pos g5, if_neg g6]
    · rw [if_neg g5]
  · intro i s hi hs
    have hlen : s.length ≤ i := by
      rw [hs]
      have := List.length_filter_le (fun u : Update => !leT u.time a) (l.take i)
      rw [List.length_take] at this
      omega
    rw [take_succ_getD hi, List.filter_append, ← hs]
    have e : (bf (decide ((l.getD i default).time.epoch ≤ a.epoch)) (bf (decide ((l.getD i default).time.loop.1 ≤ a.loop.1)) (bf (!decide ((l.getD i default).time.loop.2 ≤ a.loop.2)) (need (s.length + ([(l.getD i default)] : List Update).length ≤ 274877906944) <| some (.next (s ++ ([(l.getD i default)] : List Update)))) (some (.next s))) (bf (!false) (need (s.length + ([(l.getD i default)] : List Update).length ≤ 274877906944) <| some (.next (s ++ ([(l.getD i default)] : List Update)))) (some (.next s)))) (bf (!false) (need (s.length + ([(l.getD i default)] : List Update).length ≤ 274877906944) <| some (.next (s ++ ([(l.getD i default)] : List Update)))) (some (.next s))) : Option (Ctl (List Update) Empty)) = some (.next (s ++ [l.getD i default].filter fun u => !leT u.time a)) := by
      rw [need_true (by simp; omega)]
      generalize l.getD i default = u
      unfold leT
      by_cases h1 : u.time.epoch ≤ a.epoch <;> by_cases h2 : u.time.loop.1 ≤ a.loop.1 <;> by_cases h3 : u.time.loop.2 ≤ a.loop.2 <;> simp [h1, h2, h3]
    exact ⟨_, e, rfl⟩
  · rfl
end Go.Av
namespace Go.Av
open Go Go.Proofs
set_option linter.unusedVariables false
set_option linter.unusedSimpArgs false
set_option maxRecDepth 100000 in
theorem freshetlaw05_DiffLater_ok {fuel : Nat} {p0 : List Update} {p1 : Time} {p2 : Time} {q : Bool} (h : freshetlaw05_DiffLater fuel p0 p1 p2 = some q) :
    Summ Try.prog 10 [cD (lD 6 encUpdate p0), .agg (cTime p1), .agg (cTime p2)] [] (cD (.bool q)) [] := by
  refine Summ.intro Try.func10 rfl (by kernel_rfl) (by kernel_rfl) [] rfl ?_
  rintro ⟨P, w0, G0, V, LL, lk, N, φ0, fx⟩ rfl rfl rfl rfl
  unfold freshetlaw05_DiffLater at h
  refine Tri.segL [0, 4, 5] [4, 5] ⟨[(0, cD (lD 6 encUpdate p0)), (4, .c (.ptr 4 0)), (5, .c (.ptr 5 0))], [(4, .box (cTime p1)), (5, .box (cTime p2))]⟩ (allT 3) (by kernel_rfl) (allT_ok 3) ?_
  refine Tri.seqS ?_
  refine Tri.seqS ?_
  refine Tri.reg ?_
  obtain ⟨r1, hr1, h⟩ := bind_elim h
  refine At.callA (caps := []) (xs := []) (freshetlaw05_lists_ok hr1) rfl rfl rfl rfl rfl rfl .nil rfl rfl ?_
  refine At.seg 1 [0, 4, 5, 20] [4, 5] (s' := ⟨[(0, cD (lD 6 encUpdate p0)), (4, .c (.ptr 4 0)), (5, .c (.ptr 5 0)), (20, cD (.bool (!r1)))], [(4, .box (cTime p1)), (5, .box (cTime p2))]⟩) (c := True ∧ True) (by kernel_rfl) ⟨trivial, trivial⟩ ?_
  refine At.done rfl ?_
  show Tri _ _ _ _
  refine Tri.condP (b := (!r1)) rfl h (fun h => ?_) (fun h => ?_)
  ·refine Tri.segC [6] [] (allT 1) (by kernel_rfl) (by kernel_rfl) (allT_ok 1) ?_
   refine Tri.keep [6] [] (s' := ⟨[(6, cD (.bool false))], []⟩) (by kernel_rfl) ?_
   refine Tri.ret ?_
   cases h
   refine ⟨_, _, rfl, ⟨trivial, trivial⟩, rfl, rfl, ?_⟩
   intro k c h
   cases h
  ·refine Tri.skip ?_
   show Tri _ _ _ _
   refine Tri.segL [0, 4, 5, 7] [4, 5] ⟨[(0, cD (lD 6 encUpdate p0)), (4, .c (.ptr 4 0)), (5, .c (.ptr 5 0)), (7, .c (.zero))], [(4, .box (cTime p1)), (5, .box (cTime p2))]⟩ (allT 1) (by kernel_rfl) (allT_ok 1) ?_
   refine Tri.seqS ?_
   refine Tri.segL [0, 4, 5, 7, 21, 22, 23] [4, 5] ⟨[(0, cD (lD 6 encUpdate p0)), (4, .c (.ptr 4 0)), (5, .c (.ptr 5 0)), (7, .c (.zero)), (21, cD (lD 6 encUpdate p0)), (22, cD (dI (p0.length : Int))), (23, cD (dI 0))], [(4, .box (cTime p1)), (5, .box (cTime p2))]⟩ (allT 3) (by kernel_rfl) (allT_ok 3) ?_
   refine Tri.lenOf (t := 21) rfl fun hlena3 => ?_
   refine Tri.newOwn (t := 7) (k := 1007) (es := 6) (fun i => encUpdate (([] : List Update).getD i default)) rfl rfl rfl ?_
   refine Tri.keep [23, 0, 4, 5, 7, 21, 22] [4, 5, 1007] (s' := idx 23 0 ⟨[(0, cD (lD 6 encUpdate p0)), (4, .c (.ptr 4 0)), (5, .c (.ptr 5 0)), (7, .c (oC 1007 6 ([] : List Update))), (21, cD (lD 6 encUpdate p0)), (22, cD (dI (p0.length : Int)))], [(4, .box (cTime p1)), (5, .box (cTime p2)), (1007, vL 6 encUpdate ([] : List Update))]⟩) (by kernel_rfl) ?_
   refine Tri.range (n := p0.length) (st0 := ([] : List Update)) (fun (x : Empty) s => False) (fun (a3 : List Update) => ⟨[(0, cD (lD 6 encUpdate p0)), (4, .c (.ptr 4 0)), (5, .c (.ptr 5 0)), (7, .c (oC 1007 6 a3)), (21, cD (lD 6 encUpdate p0)), (22, cD (dI (p0.length : Int)))], [(4, .box (cTime p1)), (5, .box (cTime p2)), (1007, vL 6 encUpdate a3)]⟩) (fun (a3 : List Update) => ⟨[(0, cD (lD 6 encUpdate p0)), (4, .c (.ptr 4 0)), (5, .c (.ptr 5 0)), (7, .c (oC 1007 6 a3)), (21, cD (lD 6 encUpdate p0)), (22, cD (dI (p0.length : Int)))], [(4, .box (cTime p1)), (5, .box (cTime p2)), (1007, vL 6 encUpdate a3)]⟩) (fun i => decide ((i : Int) < (p0.length : Int))) [24, 23, 0, 4, 5, 7, 21, 22] [4, 5, 1007] [0, 4, 5, 7, 21, 22] [4, 5, 1007] [23, 0, 4, 5, 7, 21, 22] [4, 5, 1007] h hlena3 rfl ?_ ?_ ?_ ?_ ?_ ?_ ?_ ?_
   · exact fun i a => ⟨True ∧ True, by kernel_rfl, ⟨trivial, trivial⟩⟩
   · exact fun i hi => decide_eq_true (by omega)
   · exact decide_eq_false (by omega)
   · exact fun a => by kernel_rfl
   · exact fun i a => ⟨True ∧ True ∧ True, by kernel_rfl, ⟨trivial, trivial, trivial⟩⟩
   ·intro i2 a3 c hii2 h
    refine Tri.segL [0, 4, 5, 7, 9, 21, 22, 23] [4, 5, 9, 1007] ⟨[(0, cD (lD 6 encUpdate p0)), (4, .c (.ptr 4 0)), (5, .c (.ptr 5 0)), (7, .c (oC 1007 6 a3)), (9, .c (.ptr 9 0)), (21, cD (lD 6 encUpdate p0)), (22, cD (dI (p0.length : Int))), (23, cD (dI ((i2 : Nat) : Int)))], [(4, .box (cTime p1)), (5, .box (cTime p2)), (9, .box (cUpdate (p0.getD i2 default))), (1007, vL 6 encUpdate a3)]⟩ (((0 : Int) ≤ ((i2 : Nat) : Int) ∧ ((i2 : Nat) : Int) < (p0.length : Int)) ∧ True ∧ True ∧ True ∧ True) (by kernel_rfl) ⟨⟨by omega, by omega⟩, trivial, trivial, trivial, trivial⟩ ?_
    refine Tri.seqJ (fun (a14 : Bool) => ⟨[(0, cD (lD 6 encUpdate p0)), (4, .c (.ptr 4 0)), (5, .c (.ptr 5 0)), (7, .c (oC 1007 6 a3)), (9, .c (.ptr 9 0)), (10, cD (.bool a14)), (21, cD (lD 6 encUpdate p0)), (22, cD (dI (p0.length : Int))), (23, cD (dI ((i2 : Nat) : Int)))], [(4, .box (cTime p1)), (5, .box (cTime p2)), (9, .box (cUpdate (p0.getD i2 default))), (1007, vL 6 encUpdate a3)]⟩) h (fun a14 h => ?_) (fun j15 h => ?_)
    ·show Tri _ _ ⟨[(0, cD (lD 6 encUpdate p0)), (4, .c (.ptr 4 0)), (5, .c (.ptr 5 0)), (7, .c (oC 1007 6 a3)), (9, .c (.ptr 9 0)), (10, cD (.bool a14)), (21, cD (lD 6 encUpdate p0)), (22, cD (dI (p0.length : Int))), (23, cD (dI ((i2 : Nat) : Int)))], [(4, .box (cTime p1)), (5, .box (cTime p2)), (9, .box (cUpdate (p0.getD i2 default))), (1007, vL 6 encUpdate a3)]⟩ _
     refine Tri.segL [0, 4, 5, 7, 9, 21, 22, 23, 54] [4, 5, 9, 1007] ⟨[(0, cD (lD 6 encUpdate p0)), (4, .c (.ptr 4 0)), (5, .c (.ptr 5 0)), (7, .c (oC 1007 6 a3)), (9, .c (.ptr 9 0)), (21, cD (lD 6 encUpdate p0)), (22, cD (dI (p0.length : Int))), (23, cD (dI ((i2 : Nat) : Int))), (54, cD (.bool (!a14)))], [(4, .box (cTime p1)), (5, .box (cTime p2)), (9, .box (cUpdate (p0.getD i2 default))), (1007, vL 6 encUpdate a3)]⟩ (allT 2) (by kernel_rfl) (allT_ok 2) ?_
     refine Tri.condP (b := (!a14)) rfl h (fun h => ?_) (fun h => ?_)
     ·refine Tri.reg ?_
      refine At.seg 2 [0, 4, 5, 21, 22, 23, 55, 56] [4, 5, 1007] (s' := ⟨[(0, cD (lD 6 encUpdate p0)), (4, .c (.ptr 4 0)), (5, .c (.ptr 5 0)), (21, cD (lD 6 encUpdate p0)), (22, cD (dI (p0.length : Int))), (23, cD (dI ((i2 : Nat) : Int))), (55, .c (oC 1007 6 a3)), (56, .agg (cUpdate (p0.getD i2 default)))], [(4, .box (cTime p1)), (5, .box (cTime p2)), (1007, vL 6 encUpdate a3)]⟩) (c := True ∧ True ∧ True) (by kernel_rfl) ⟨trivial, trivial, trivial⟩ ?_
      refine At.one rfl (One.buildSlice (z := [.zero, .zero, .d (dU 0), .d (dU 0), .d (dU 0), .d (dI 0)]) (cells := [.d (lD 3 encValue ((p0.getD i2 default).key)), .d (lD 3 encValue ((p0.getD i2 default).row)), .d (dU ((p0.getD i2 default).time.epoch)), .d (dU ((p0.getD i2 default).time.loop.1)), .d (dU ((p0.getD i2 default).time.loop.2)), .d (dI ((p0.getD i2 default).diff))]) (xs := List.map (encUpdate) ([(p0.getD i2 default)] : List Update)) rfl rfl rfl rfl (by kernel_rfl) rfl rfl (by kernel_rfl) rfl rfl rfl (by kernel_rfl) rfl ⟨⟨rfl, .refl _⟩, trivial⟩) ?_
      refine At.le [57] (fun k hk h => by first | (cases h; done) | (simp at hk h; omega)) ⟨[(57, cD (lD 6 encUpdate ([(p0.getD i2 default)] : List Update))), (0, cD (lD 6 encUpdate p0)), (4, .c (.ptr 4 0)), (5, .c (.ptr 5 0)), (21, cD (lD 6 encUpdate p0)), (22, cD (dI (p0.length : Int))), (23, cD (dI ((i2 : Nat) : Int))), (55, .c (oC 1007 6 a3)), (56, .agg (cUpdate (p0.getD i2 default)))], [(4, .box (cTime p1)), (5, .box (cTime p2)), (1007, vL 6 encUpdate a3)]⟩ ⟨⟨_, rfl, .c (.own rfl (List.mem_singleton.2 rfl) (Nat.le_of_ble_eq_true rfl) rfl (encs_getD (encUpdate) ([(p0.getD i2 default)] : List Update)))⟩, ⟨_, rfl, .refl _⟩, ⟨_, rfl, .refl _⟩, ⟨_, rfl, .refl _⟩, ⟨_, rfl, .refl _⟩, ⟨_, rfl, .refl _⟩, ⟨_, rfl, .refl _⟩, ⟨_, rfl, .refl _⟩, ⟨_, rfl, .refl _⟩, trivial⟩ ⟨⟨_, rfl, .refl _, (by simp)⟩, ⟨_, rfl, .refl _, (by simp)⟩, ⟨_, rfl, .refl _, (by simp)⟩, trivial⟩ ?_
      obtain ⟨hc16, h⟩ := need_elim h
      refine At.one rfl (One.appendT (e := 44) (es := 6) (encUpdate) a3 ([(p0.getD i2 default)] : List Update) rfl rfl rfl rfl rfl (.of 44 80 [.zero, .zero, .d (dU 0), .d (dU 0), .d (dU 0), .d (dI 0)] (by kernel_rfl) (by kernel_rfl) (by kernel_rfl) (by kernel_rfl) rfl (by kernel_rfl) rfl) rfl rfl rfl (.list rfl (fun _ _ => rfl)) hc16) ?_
      refine At.seg 1 [23, 0, 4, 5, 7, 21, 22] [4, 5, 1007] (s' := ⟨[(23, cD (dI ((i2 : Nat) : Int))), (0, cD (lD 6 encUpdate p0)), (4, .c (.ptr 4 0)), (5, .c (.ptr 5 0)), (7, .c (oC 1007 6 (a3 ++ ([(p0.getD i2 default)] : List Update)))), (21, cD (lD 6 encUpdate p0)), (22, cD (dI (p0.length : Int)))], [(4, .box (cTime p1)), (5, .box (cTime p2)), (1007, vL 6 encUpdate (a3 ++ ([(p0.getD i2 default)] : List Update)))]⟩) (c := True ∧ True) (by kernel_rfl) ⟨trivial, trivial⟩ ?_
      refine At.done rfl ?_
      cases h
      exact rfl
     ·refine Tri.keep [23, 0, 4, 5, 7, 21, 22] [4, 5, 1007] (s' := ⟨[(23, cD (dI ((i2 : Nat) : Int))), (0, cD (lD 6 encUpdate p0)), (4, .c (.ptr 4 0)), (5, .c (.ptr 5 0)), (7, .c (oC 1007 6 a3)), (21, cD (lD 6 encUpdate p0)), (22, cD (dI (p0.length : Int)))], [(4, .box (cTime p1)), (5, .box (cTime p2)), (1007, vL 6 encUpdate a3)]⟩) (by kernel_rfl) ?_
      refine Tri.skip ?_
      cases h
      exact rfl
    ·refine Tri.reg ?_
     refine At.seg 7 [0, 4, 5, 7, 9, 21, 22, 23, 33] [4, 5, 9, 1007] (s' := ⟨[(0, cD (lD 6 encUpdate p0)), (4, .c (.ptr 4 0)), (5, .c (.ptr 5 0)), (7, .c (oC 1007 6 a3)), (9, .c (.ptr 9 0)), (21, cD (lD 6 encUpdate p0)), (22, cD (dI (p0.length : Int))), (23, cD (dI ((i2 : Nat) : Int))), (33, cD (.bool (decide ((p0.getD i2 default).time.epoch ≤ p1.epoch))))], [(4, .box (cTime p1)), (5, .box (cTime p2)), (9, .box (cUpdate (p0.getD i2 default))), (1007, vL 6 encUpdate a3)]⟩) (c := True ∧ True ∧ True ∧ True ∧ True ∧ True ∧ True ∧ True) (by kernel_rfl) ⟨trivial, trivial, trivial, trivial, trivial, trivial, trivial, trivial⟩ ?_
     refine At.case (fun b => ⟨[(0, cD (lD 6 encUpdate p0)), (4, .c (.ptr 4 0)), (5, .c (.ptr 5 0)), (7, .c (oC 1007 6 a3)), (9, .c (.ptr 9 0)), (21, cD (lD 6 encUpdate p0)), (22, cD (dI (p0.length : Int))), (23, cD (dI ((i2 : Nat) : Int))), (33, cD (.bool b))], [(4, .box (cTime p1)), (5, .box (cTime p2)), (9, .box (cUpdate (p0.getD i2 default))), (1007, vL 6 encUpdate a3)]⟩) (b := (decide ((p0.getD i2 default).time.epoch ≤ p1.epoch))) h (fun h => ?_) (fun h => ?_)
     ·refine At.seg 10 [0, 4, 5, 7, 9, 21, 22, 23, 43] [4, 5, 9, 1007] (s' := ⟨[(0, cD (lD 6 encUpdate p0)), (4, .c (.ptr 4 0)), (5, .c (.ptr 5 0)), (7, .c (oC 1007 6 a3)), (9, .c (.ptr 9 0)), (21, cD (lD 6 encUpdate p0)), (22, cD (dI (p0.length : Int))), (23, cD (dI ((i2 : Nat) : Int))), (43, cD (.bool (decide ((p0.getD i2 default).time.loop.1 ≤ p1.loop.1))))], [(4, .box (cTime p1)), (5, .box (cTime p2)), (9, .box (cUpdate (p0.getD i2 default))), (1007, vL 6 encUpdate a3)]⟩) (c := True ∧ True ∧ True ∧ True ∧ True ∧ True ∧ True ∧ True ∧ True ∧ True ∧ True) (by kernel_rfl) ⟨trivial, trivial, trivial, trivial, trivial, trivial, trivial, trivial, trivial, trivial, trivial⟩ ?_
      refine At.case (fun b => ⟨[(0, cD (lD 6 encUpdate p0)), (4, .c (.ptr 4 0)), (5, .c (.ptr 5 0)), (7, .c (oC 1007 6 a3)), (9, .c (.ptr 9 0)), (21, cD (lD 6 encUpdate p0)), (22, cD (dI (p0.length : Int))), (23, cD (dI ((i2 : Nat) : Int))), (43, cD (.bool b))], [(4, .box (cTime p1)), (5, .box (cTime p2)), (9, .box (cUpdate (p0.getD i2 default))), (1007, vL 6 encUpdate a3)]⟩) (b := (decide ((p0.getD i2 default).time.loop.1 ≤ p1.loop.1))) h (fun h => ?_) (fun h => ?_)
      ·refine At.seg 10 [0, 4, 5, 7, 9, 10, 21, 22, 23] [4, 5, 9, 1007] (s' := ⟨[(0, cD (lD 6 encUpdate p0)), (4, .c (.ptr 4 0)), (5, .c (.ptr 5 0)), (7, .c (oC 1007 6 a3)), (9, .c (.ptr 9 0)), (10, cD (.bool (decide ((p0.getD i2 default).time.loop.2 ≤ p1.loop.2)))), (21, cD (lD 6 encUpdate p0)), (22, cD (dI (p0.length : Int))), (23, cD (dI ((i2 : Nat) : Int)))], [(4, .box (cTime p1)), (5, .box (cTime p2)), (9, .box (cUpdate (p0.getD i2 default))), (1007, vL 6 encUpdate a3)]⟩) (c := True ∧ True ∧ True ∧ True ∧ True ∧ True ∧ True ∧ True ∧ True ∧ True ∧ True) (by kernel_rfl) ⟨trivial, trivial, trivial, trivial, trivial, trivial, trivial, trivial, trivial, trivial, trivial⟩ ?_
       refine At.done rfl ?_
       exact ⟨_, h, rfl⟩
      ·refine At.seg 10 [0, 4, 5, 7, 9, 10, 21, 22, 23] [4, 5, 9, 1007] (s' := ⟨[(0, cD (lD 6 encUpdate p0)), (4, .c (.ptr 4 0)), (5, .c (.ptr 5 0)), (7, .c (oC 1007 6 a3)), (9, .c (.ptr 9 0)), (10, cD (.bool false)), (21, cD (lD 6 encUpdate p0)), (22, cD (dI (p0.length : Int))), (23, cD (dI ((i2 : Nat) : Int)))], [(4, .box (cTime p1)), (5, .box (cTime p2)), (9, .box (cUpdate (p0.getD i2 default))), (1007, vL 6 encUpdate a3)]⟩) (c := True ∧ True ∧ True) (by kernel_rfl) ⟨trivial, trivial, trivial⟩ ?_
       refine At.done rfl ?_
       exact ⟨_, h, rfl⟩
     ·refine At.seg 20 [0, 4, 5, 7, 9, 10, 21, 22, 23] [4, 5, 9, 1007] (s' := ⟨[(0, cD (lD 6 encUpdate p0)), (4, .c (.ptr 4 0)), (5, .c (.ptr 5 0)), (7, .c (oC 1007 6 a3)), (9, .c (.ptr 9 0)), (10, cD (.bool false)), (21, cD (lD 6 encUpdate p0)), (22, cD (dI (p0.length : Int))), (23, cD (dI ((i2 : Nat) : Int)))], [(4, .box (cTime p1)), (5, .box (cTime p2)), (9, .box (cUpdate (p0.getD i2 default))), (1007, vL 6 encUpdate a3)]⟩) (c := True ∧ True ∧ True ∧ True ∧ True) (by kernel_rfl) ⟨trivial, trivial, trivial, trivial, trivial⟩ ?_
      refine At.done rfl ?_
      exact ⟨_, h, rfl⟩
   ·intro a4 h
    show Tri _ _ _ _
    refine Tri.seqS ?_
    refine Tri.reg ?_
    refine At.seg 2 [0, 4, 5, 7, 61, 62] [4, 5, 1007] (s' := ⟨[(0, cD (lD 6 encUpdate p0)), (4, .c (.ptr 4 0)), (5, .c (.ptr 5 0)), (7, .c (oC 1007 6 a4)), (61, cD (lD 6 encUpdate p0)), (62, .agg (cTime p1))], [(4, .box (cTime p1)), (5, .box (cTime p2)), (1007, vL 6 encUpdate a4)]⟩) (c := True ∧ True ∧ True) (by kernel_rfl) ⟨trivial, trivial, trivial⟩ ?_
    obtain ⟨r5, hr5, h⟩ := bind_elim h
    refine At.callA (caps := []) (xs := [cD (lD 6 encUpdate p0), .agg (cTime p1)]) (diff_At_ok hr5) rfl rfl rfl rfl rfl rfl (.cons (.refl _) (.cons (.refl _) .nil)) rfl rfl ?_
    refine At.seg 5 [0, 4, 5, 7, 11, 12] [4, 5, 1007] (s' := ⟨[(0, cD (lD 6 encUpdate p0)), (4, .c (.ptr 4 0)), (5, .c (.ptr 5 0)), (7, .c (oC 1007 6 a4)), (11, cD (lD 2 encCount r5.1)), (12, cD (dI r5.2))], [(4, .box (cTime p1)), (5, .box (cTime p2)), (1007, vL 6 encUpdate a4)]⟩) (c := True ∧ True ∧ True ∧ True ∧ True ∧ True) (by kernel_rfl) ⟨trivial, trivial, trivial, trivial, trivial, trivial⟩ ?_
    refine At.done rfl ?_
    show Tri _ _ _ _
    refine Tri.seqS ?_
    refine Tri.reg ?_
    refine At.seg 2 [4, 5, 7, 11, 12, 67, 68] [4, 5, 1007] (s' := ⟨[(4, .c (.ptr 4 0)), (5, .c (.ptr 5 0)), (7, .c (oC 1007 6 a4)), (11, cD (lD 2 encCount r5.1)), (12, cD (dI r5.2)), (67, cD (lD 6 encUpdate p0)), (68, .agg (cTime p2))], [(4, .box (cTime p1)), (5, .box (cTime p2)), (1007, vL 6 encUpdate a4)]⟩) (c := True ∧ True ∧ True) (by kernel_rfl) ⟨trivial, trivial, trivial⟩ ?_
    obtain ⟨r6, hr6, h⟩ := bind_elim h
    refine At.callA (caps := []) (xs := [cD (lD 6 encUpdate p0), .agg (cTime p2)]) (diff_At_ok hr6) rfl rfl rfl rfl rfl rfl (.cons (.refl _) (.cons (.refl _) .nil)) rfl rfl ?_
    refine At.seg 5 [4, 5, 7, 11, 12, 13, 14] [4, 5, 1007] (s' := ⟨[(4, .c (.ptr 4 0)), (5, .c (.ptr 5 0)), (7, .c (oC 1007 6 a4)), (11, cD (lD 2 encCount r5.1)), (12, cD (dI r5.2)), (13, cD (lD 2 encCount r6.1)), (14, cD (dI r6.2))], [(4, .box (cTime p1)), (5, .box (cTime p2)), (1007, vL 6 encUpdate a4)]⟩) (c := True ∧ True ∧ True ∧ True ∧ True ∧ True) (by kernel_rfl) ⟨trivial, trivial, trivial, trivial, trivial, trivial⟩ ?_
    refine At.done rfl ?_
    show Tri _ _ _ _
    refine Tri.seqS ?_
    refine Tri.reg ?_
    refine At.seg 2 [4, 5, 11, 12, 13, 14, 73, 74] [4, 5, 1007] (s' := ⟨[(4, .c (.ptr 4 0)), (5, .c (.ptr 5 0)), (11, cD (lD 2 encCount r5.1)), (12, cD (dI r5.2)), (13, cD (lD 2 encCount r6.1)), (14, cD (dI r6.2)), (73, .c (oC 1007 6 a4)), (74, .agg (cTime p2))], [(4, .box (cTime p1)), (5, .box (cTime p2)), (1007, vL 6 encUpdate a4)]⟩) (c := True ∧ True ∧ True) (by kernel_rfl) ⟨trivial, trivial, trivial⟩ ?_
    obtain ⟨r7, hr7, h⟩ := bind_elim h
    refine At.callA (caps := []) (xs := [.c (oC 1007 6 a4), .agg (cTime p2)]) (diff_At_ok_v0 hr7) rfl rfl rfl rfl rfl rfl (.cons (AVArg.view (encUpdate) a4 rfl) (.cons (.refl _) .nil)) rfl rfl ?_
    refine At.seg 5 [4, 5, 11, 12, 13, 14, 15, 16] [4, 5] (s' := ⟨[(4, .c (.ptr 4 0)), (5, .c (.ptr 5 0)), (11, cD (lD 2 encCount r5.1)), (12, cD (dI r5.2)), (13, cD (lD 2 encCount r6.1)), (14, cD (dI r6.2)), (15, cD (lD 2 encCount r7.1)), (16, cD (dI r7.2))], [(4, .box (cTime p1)), (5, .box (cTime p2))]⟩) (c := True ∧ True ∧ True ∧ True ∧ True ∧ True) (by kernel_rfl) ⟨trivial, trivial, trivial, trivial, trivial, trivial⟩ ?_
    refine At.done rfl ?_
    show Tri _ _ _ _
    refine Tri.seqS ?_
    refine Tri.seqJ (fun (a8 : Bool) => ⟨[(11, cD (lD 2 encCount r5.1)), (13, cD (lD 2 encCount r6.1)), (15, cD (lD 2 encCount r7.1)), (112, cD (.bool a8))], []⟩) h (fun a8 h => ?_) (fun j9 h => ?_)
    ·show Tri _ _ ⟨[(11, cD (lD 2 encCount r5.1)), (13, cD (lD 2 encCount r6.1)), (15, cD (lD 2 encCount r7.1)), (112, cD (.bool a8))], []⟩ _
     refine Tri.condP (b := a8) rfl h (fun h => ?_) (fun h => ?_)
     ·refine Tri.segC [6] [] (allT 1) (by kernel_rfl) (by kernel_rfl) (allT_ok 1) ?_
      refine Tri.keep [6] [] (s' := ⟨[(6, cD (.bool true))], []⟩) (by kernel_rfl) ?_
      refine Tri.ret ?_
      cases h
      refine ⟨_, _, rfl, ⟨trivial, trivial⟩, rfl, rfl, ?_⟩
      intro k c h
      cases h
     ·refine Tri.skip ?_
      show Tri _ _ _ _
      refine Tri.seqS ?_
      refine Tri.reg ?_
      refine At.seg 2 [13, 114, 115] [] (s' := ⟨[(13, cD (lD 2 encCount r6.1)), (114, cD (lD 2 encCount r5.1)), (115, cD (lD 2 encCount r7.1))], []⟩) (c := True ∧ True ∧ True) (by kernel_rfl) ⟨trivial, trivial, trivial⟩ ?_
      refine At.one rfl (One.buildSlice (z := [.zero]) (cells := [.d (lD 2 encCount r5.1), .d (lD 2 encCount r7.1)]) (xs := List.map ((fun xs => [encL 2 encCount xs])) ([r5.1, r7.1] : List (List Count))) rfl rfl rfl rfl (by kernel_rfl) rfl rfl (by kernel_rfl) rfl rfl rfl (by kernel_rfl) rfl ⟨⟨rfl, .refl _⟩, ⟨rfl, .refl _⟩, trivial⟩) ?_
      refine At.le [116] (fun k hk h => by first | (cases h; done) | (simp at hk h; omega)) ⟨[(116, cD (lD 1 (fun xs => [encL 2 encCount xs]) ([r5.1, r7.1] : List (List Count)))), (13, cD (lD 2 encCount r6.1)), (114, cD (lD 2 encCount r5.1)), (115, cD (lD 2 encCount r7.1))], []⟩ ⟨⟨_, rfl, .c (.own rfl (List.mem_singleton.2 rfl) (Nat.le_of_ble_eq_true rfl) rfl (encs_getD ((fun xs => [encL 2 encCount xs])) ([r5.1, r7.1] : List (List Count))))⟩, ⟨_, rfl, .refl _⟩, ⟨_, rfl, .refl _⟩, ⟨_, rfl, .refl _⟩, trivial⟩ trivial ?_
      obtain ⟨r10, hr10, h⟩ := bind_elim h
      refine At.callA (caps := []) (xs := [cD (lD 1 (fun xs => [encL 2 encCount xs]) ([r5.1, r7.1] : List (List Count)))]) (diff_Merge_ok hr10) rfl rfl rfl rfl rfl rfl (.cons (.refl _) .nil) rfl rfl ?_
      refine At.seg 5 [13, 17, 18] [] (s' := ⟨[(13, cD (lD 2 encCount r6.1)), (17, cD (lD 2 encCount r10.1)), (18, cD (dI r10.2))], []⟩) (c := True ∧ True ∧ True ∧ True ∧ True ∧ True) (by kernel_rfl) ⟨trivial, trivial, trivial, trivial, trivial, trivial⟩ ?_
      refine At.done rfl ?_
      show Tri _ _ _ _
      refine Tri.seqJ (fun (a11 : Bool) => ⟨[(6, cD (.bool a11))], []⟩) h (fun a11 h => ?_) (fun j12 h => ?_)
      ·show Tri _ _ ⟨[(6, cD (.bool a11))], []⟩ _
       refine Tri.keep [6] [] (s' := ⟨[(6, cD (.bool a11))], []⟩) (by kernel_rfl) ?_
       refine Tri.ret ?_
       cases h
       refine ⟨_, _, rfl, ⟨trivial, trivial⟩, rfl, rfl, ?_⟩
       intro k c h
       cases h
      ·refine Tri.reg ?_
       refine At.seg 3 [13, 17, 122] [] (s' := ⟨[(13, cD (lD 2 encCount r6.1)), (17, cD (lD 2 encCount r10.1)), (122, cD (.bool (decide (r10.2 = 0))))], []⟩) (c := True ∧ True ∧ True ∧ True) (by kernel_rfl) ⟨trivial, trivial, trivial, trivial⟩ ?_
       refine At.case (fun b => ⟨[(13, cD (lD 2 encCount r6.1)), (17, cD (lD 2 encCount r10.1)), (122, cD (.bool b))], []⟩) (b := (decide (r10.2 = 0))) h (fun h => ?_) (fun h => ?_)
       ·refine At.seg 2 [122, 123, 124] [] (s' := ⟨[(122, cD (.bool true)), (123, cD (lD 2 encCount r10.1)), (124, cD (lD 2 encCount r6.1))], []⟩) (c := True ∧ True ∧ True) (by kernel_rfl) ⟨trivial, trivial, trivial⟩ ?_
        obtain ⟨r13, hr13, h⟩ := bind_elim h
        refine At.callA (caps := []) (xs := [cD (lD 2 encCount r10.1), cD (lD 2 encCount r6.1)]) (freshetref05_SameCounts_ok hr13) rfl rfl rfl rfl rfl rfl (.cons (.refl _) (.cons (.refl _) .nil)) rfl rfl ?_
        refine At.seg 2 [6] [] (s' := ⟨[(6, cD (.bool r13))], []⟩) (c := True ∧ True ∧ True) (by kernel_rfl) ⟨trivial, trivial, trivial⟩ ?_
        refine At.done rfl ?_
        exact ⟨_, h, rfl⟩
       ·refine At.seg 5 [6] [] (s' := ⟨[(6, cD (.bool false))], []⟩) (c := True ∧ True ∧ True) (by kernel_rfl) ⟨trivial, trivial, trivial⟩ ?_
        refine At.done rfl ?_
        exact ⟨_, h, rfl⟩
    ·refine Tri.reg ?_
     refine At.seg 3 [4, 5, 11, 13, 14, 15, 16, 80] [4, 5] (s' := ⟨[(4, .c (.ptr 4 0)), (5, .c (.ptr 5 0)), (11, cD (lD 2 encCount r5.1)), (13, cD (lD 2 encCount r6.1)), (14, cD (dI r6.2)), (15, cD (lD 2 encCount r7.1)), (16, cD (dI r7.2)), (80, cD (.bool (!decide (r5.2 = 0))))], [(4, .box (cTime p1)), (5, .box (cTime p2))]⟩) (c := True ∧ True ∧ True ∧ True) (by kernel_rfl) ⟨trivial, trivial, trivial, trivial⟩ ?_
     refine At.case (fun b => ⟨[(4, .c (.ptr 4 0)), (5, .c (.ptr 5 0)), (11, cD (lD 2 encCount r5.1)), (13, cD (lD 2 encCount r6.1)), (14, cD (dI r6.2)), (15, cD (lD 2 encCount r7.1)), (16, cD (dI r7.2)), (80, cD (.bool b))], [(4, .box (cTime p1)), (5, .box (cTime p2))]⟩) (b := (!decide (r5.2 = 0))) h (fun h => ?_) (fun h => ?_)
     ·refine At.seg 32 [11, 13, 15, 112] [] (s' := ⟨[(11, cD (lD 2 encCount r5.1)), (13, cD (lD 2 encCount r6.1)), (15, cD (lD 2 encCount r7.1)), (112, cD (.bool true))], []⟩) (c := True ∧ True ∧ True ∧ True ∧ True ∧ True ∧ True ∧ True ∧ True ∧ True) (by kernel_rfl) ⟨trivial, trivial, trivial, trivial, trivial, trivial, trivial, trivial, trivial, trivial⟩ ?_
      refine At.done rfl ?_
      exact ⟨_, h, rfl⟩
     ·refine At.seg 4 [4, 5, 11, 13, 15, 16, 84] [4, 5] (s' := ⟨[(4, .c (.ptr 4 0)), (5, .c (.ptr 5 0)), (11, cD (lD 2 encCount r5.1)), (13, cD (lD 2 encCount r6.1)), (15, cD (lD 2 encCount r7.1)), (16, cD (dI r7.2)), (84, cD (.bool (!decide (r6.2 = 0))))], [(4, .box (cTime p1)), (5, .box (cTime p2))]⟩) (c := True ∧ True ∧ True ∧ True ∧ True) (by kernel_rfl) ⟨trivial, trivial, trivial, trivial, trivial⟩ ?_
      refine At.case (fun b => ⟨[(4, .c (.ptr 4 0)), (5, .c (.ptr 5 0)), (11, cD (lD 2 encCount r5.1)), (13, cD (lD 2 encCount r6.1)), (15, cD (lD 2 encCount r7.1)), (16, cD (dI r7.2)), (84, cD (.bool b))], [(4, .box (cTime p1)), (5, .box (cTime p2))]⟩) (b := (!decide (r6.2 = 0))) h (fun h => ?_) (fun h => ?_)
      ·refine At.seg 28 [11, 13, 15, 112] [] (s' := ⟨[(11, cD (lD 2 encCount r5.1)), (13, cD (lD 2 encCount r6.1)), (15, cD (lD 2 encCount r7.1)), (112, cD (.bool true))], []⟩) (c := True ∧ True ∧ True ∧ True ∧ True ∧ True ∧ True ∧ True) (by kernel_rfl) ⟨trivial, trivial, trivial, trivial, trivial, trivial, trivial, trivial⟩ ?_
       refine At.done rfl ?_
       exact ⟨_, h, rfl⟩
      ·refine At.seg 4 [4, 5, 11, 13, 15, 88] [4, 5] (s' := ⟨[(4, .c (.ptr 4 0)), (5, .c (.ptr 5 0)), (11, cD (lD 2 encCount r5.1)), (13, cD (lD 2 encCount r6.1)), (15, cD (lD 2 encCount r7.1)), (88, cD (.bool (!decide (r7.2 = 0))))], [(4, .box (cTime p1)), (5, .box (cTime p2))]⟩) (c := True ∧ True ∧ True ∧ True ∧ True) (by kernel_rfl) ⟨trivial, trivial, trivial, trivial, trivial⟩ ?_
       refine At.case (fun b => ⟨[(4, .c (.ptr 4 0)), (5, .c (.ptr 5 0)), (11, cD (lD 2 encCount r5.1)), (13, cD (lD 2 encCount r6.1)), (15, cD (lD 2 encCount r7.1)), (88, cD (.bool b))], [(4, .box (cTime p1)), (5, .box (cTime p2))]⟩) (b := (!decide (r7.2 = 0))) h (fun h => ?_) (fun h => ?_)
       ·refine At.seg 24 [11, 13, 15, 112] [] (s' := ⟨[(11, cD (lD 2 encCount r5.1)), (13, cD (lD 2 encCount r6.1)), (15, cD (lD 2 encCount r7.1)), (112, cD (.bool true))], []⟩) (c := True ∧ True ∧ True ∧ True ∧ True ∧ True) (by kernel_rfl) ⟨trivial, trivial, trivial, trivial, trivial, trivial⟩ ?_
        refine At.done rfl ?_
        exact ⟨_, h, rfl⟩
       ·refine At.seg 7 [4, 5, 11, 13, 15, 95] [4, 5] (s' := ⟨[(4, .c (.ptr 4 0)), (5, .c (.ptr 5 0)), (11, cD (lD 2 encCount r5.1)), (13, cD (lD 2 encCount r6.1)), (15, cD (lD 2 encCount r7.1)), (95, cD (.bool (decide (p2.epoch < p1.epoch))))], [(4, .box (cTime p1)), (5, .box (cTime p2))]⟩) (c := True ∧ True ∧ True ∧ True ∧ True ∧ True ∧ True ∧ True) (by kernel_rfl) ⟨trivial, trivial, trivial, trivial, trivial, trivial, trivial, trivial⟩ ?_
        refine At.case (fun b => ⟨[(4, .c (.ptr 4 0)), (5, .c (.ptr 5 0)), (11, cD (lD 2 encCount r5.1)), (13, cD (lD 2 encCount r6.1)), (15, cD (lD 2 encCount r7.1)), (95, cD (.bool b))], [(4, .box (cTime p1)), (5, .box (cTime p2))]⟩) (b := (decide (p2.epoch < p1.epoch))) h (fun h => ?_) (fun h => ?_)
        ·refine At.seg 17 [11, 13, 15, 112] [] (s' := ⟨[(11, cD (lD 2 encCount r5.1)), (13, cD (lD 2 encCount r6.1)), (15, cD (lD 2 encCount r7.1)), (112, cD (.bool true))], []⟩) (c := True ∧ True ∧ True ∧ True) (by kernel_rfl) ⟨trivial, trivial, trivial, trivial⟩ ?_
         refine At.done rfl ?_
         exact ⟨_, h, rfl⟩
        ·refine At.seg 9 [4, 5, 11, 13, 15, 104] [4, 5] (s' := ⟨[(4, .c (.ptr 4 0)), (5, .c (.ptr 5 0)), (11, cD (lD 2 encCount r5.1)), (13, cD (lD 2 encCount r6.1)), (15, cD (lD 2 encCount r7.1)), (104, cD (.bool (decide (p2.loop.1 < p1.loop.1))))], [(4, .box (cTime p1)), (5, .box (cTime p2))]⟩) (c := True ∧ True ∧ True ∧ True ∧ True ∧ True ∧ True ∧ True ∧ True ∧ True) (by kernel_rfl) ⟨trivial, trivial, trivial, trivial, trivial, trivial, trivial, trivial, trivial, trivial⟩ ?_
         refine At.case (fun b => ⟨[(4, .c (.ptr 4 0)), (5, .c (.ptr 5 0)), (11, cD (lD 2 encCount r5.1)), (13, cD (lD 2 encCount r6.1)), (15, cD (lD 2 encCount r7.1)), (104, cD (.bool b))], [(4, .box (cTime p1)), (5, .box (cTime p2))]⟩) (b := (decide (p2.loop.1 < p1.loop.1))) h (fun h => ?_) (fun h => ?_)
         ·refine At.seg 8 [11, 13, 15, 112] [] (s' := ⟨[(11, cD (lD 2 encCount r5.1)), (13, cD (lD 2 encCount r6.1)), (15, cD (lD 2 encCount r7.1)), (112, cD (.bool true))], []⟩) (c := True ∧ True) (by kernel_rfl) ⟨trivial, trivial⟩ ?_
          refine At.done rfl ?_
          exact ⟨_, h, rfl⟩
         ·refine At.seg 8 [11, 13, 15, 112] [] (s' := ⟨[(11, cD (lD 2 encCount r5.1)), (13, cD (lD 2 encCount r6.1)), (15, cD (lD 2 encCount r7.1)), (112, cD (.bool (decide (p2.loop.2 < p1.loop.2))))], []⟩) (c := True ∧ True ∧ True ∧ True ∧ True ∧ True ∧ True ∧ True ∧ True) (by kernel_rfl) ⟨trivial, trivial, trivial, trivial, trivial, trivial, trivial, trivial, trivial⟩ ?_
          refine At.done rfl ?_
          exact ⟨_, h, rfl⟩
   · exact fun x => x.elim
end Go.Av
namespace Go.Av
open Go Go.Proofs
set_option linter.unusedVariables false
set_option linter.unusedSimpArgs false
def okValue (x : Value) : Prop := (fun _ => True) x.isText ∧ (okInt .i64) x.n ∧ (fun s => s.size ≤ maxN) x.s ∧ True
def bulkValue (x : Value) : Nat := ((fun _ => 1) x.isText + ((fun _ => 1) x.n + ((fun s => s.size + 1) x.s + 0))) + 1
def okTime (x : Time) : Prop := (okInt .u64) x.epoch ∧ (fun p => (okInt .u64) p.1 ∧ (okInt .u64) p.2) x.loop ∧ True
def bulkTime (x : Time) : Nat := ((fun _ => 1) x.epoch + ((fun p => (fun _ => 1) p.1 + (fun _ => 1) p.2 + 1) x.loop + 0)) + 1
def okUpdate (x : Update) : Prop := (fun xs => xs.length ≤ maxN ∧ ∀ x ∈ xs, (okValue) x) x.key ∧ (fun xs => xs.length ≤ maxN ∧ ∀ x ∈ xs, (okValue) x) x.row ∧ (okTime) x.time ∧ (okInt .i64) x.diff ∧ True
def bulkUpdate (x : Update) : Nat := ((fun xs => (xs.map (bulkValue)).sum + 1) x.key + ((fun xs => (xs.map (bulkValue)).sum + 1) x.row + ((bulkTime) x.time + ((fun _ => 1) x.diff + 0)))) + 1
def okWide (x : Wide) : Prop := (okInt .i64) x.high ∧ (okInt .u64) x.low ∧ True
theorem readsValue {H : Type} {enc : TypeId × Go.Value → H} {W : World} {Z : TypeId → DataW H → Prop} {B : DataW H → Nat} (hZ : Fine Try.prog Z) (hB : BulkOk B) : Reads enc Try.prog W Z B 95 encValue okValue bulkValue := fun n => by
  have h := ReadsAt.struct (n := n) (enc := enc) (W := W) (tot := 3) hZ hB Try.underlying95 (by kernel_rfl) (fun m _ => (ReadsF.cons (k := 1) (ReadsAt.bool hB Try.underlying4) rfl (by kernel_rfl) (ReadsF.cons (k := 1) (ReadsAt.int hB Try.underlying2) rfl (by kernel_rfl) (ReadsF.cons (k := 1) (ReadsAt.string hZ hB Try.underlying9) rfl (by kernel_rfl) (ReadsF.nil (off := 3))))))
  exact h.map (fun (p : Bool × Int × ByteArray × Unit) => (⟨p.1, p.2.1, p.2.2.1⟩ : Value)) (fun _ _ => rfl) (fun _ h => h) (fun _ _ => Nat.le_refl _)
theorem readsTime {H : Type} {enc : TypeId × Go.Value → H} {W : World} {Z : TypeId → DataW H → Prop} {B : DataW H → Nat} (hZ : Fine Try.prog Z) (hB : BulkOk B) : Reads enc Try.prog W Z B 42 encTime okTime bulkTime := fun n => by
  have h := ReadsAt.struct (n := n) (enc := enc) (W := W) (tot := 3) hZ hB Try.underlying42 (by kernel_rfl) (fun m _ => (ReadsF.cons (k := 1) (ReadsAt.int hB Try.underlying39) rfl (by kernel_rfl) (ReadsF.cons (k := 2) (ReadsAt.pair hZ hB Try.underlying40 (k := 1) (by kernel_rfl) (by kernel_rfl) (fun m _ => (ReadsAt.int hB Try.underlying39))) rfl (by kernel_rfl) (ReadsF.nil (off := 3)))))
  exact h.map (fun (p : Int × (Int × Int) × Unit) => (⟨p.1, p.2.1⟩ : Time)) (fun _ _ => rfl) (fun _ h => h) (fun _ _ => Nat.le_refl _)
theorem readsUpdate {H : Type} {enc : TypeId × Go.Value → H} {W : World} {Z : TypeId → DataW H → Prop} {B : DataW H → Nat} (hZ : Fine Try.prog Z) (hB : BulkOk B) : Reads enc Try.prog W Z B 44 encUpdate okUpdate bulkUpdate := fun n => by
  have h := ReadsAt.struct (n := n) (enc := enc) (W := W) (tot := 6) hZ hB Try.underlying44 (by kernel_rfl) (fun m _ => (ReadsF.cons (k := 1) (ReadsAt.slice (es := 3) (e := encValue) (ok := okValue) (bulk := bulkValue) hZ hB Try.underlying38 (by kernel_rfl) (by kernel_rfl) rfl (fun _ _ => rfl) (fun m _ => (readsValue hZ hB m))) rfl (by kernel_rfl) (ReadsF.cons (k := 1) (ReadsAt.slice (es := 3) (e := encValue) (ok := okValue) (bulk := bulkValue) hZ hB Try.underlying38 (by kernel_rfl) (by kernel_rfl) rfl (fun _ _ => rfl) (fun m _ => (readsValue hZ hB m))) rfl (by kernel_rfl) (ReadsF.cons (k := 3) (readsTime hZ hB m) rfl (by kernel_rfl) (ReadsF.cons (k := 1) (ReadsAt.int hB Try.underlying2) rfl (by kernel_rfl) (ReadsF.nil (off := 6)))))))
  exact h.map (fun (p : (List Value) × (List Value) × Time × Int × Unit) => (⟨p.1, p.2.1, p.2.2.1, p.2.2.2.1⟩ : Update)) (fun _ _ => rfl) (fun _ h => h) (fun _ _ => Nat.le_refl _)
end Go.Av
namespace Go.Av
open Go
set_option linter.unusedVariables false
theorem in64_of {n : Int} (h : okInt .i64 n) : in64 n := by
  have := Go.bounds_i64 h
  unfold in64
  omega
theorem nonneg_u64 {n : Int} (h : okInt .u64 n) : 0 ≤ n := (Go.bounds_u64 h).1
theorem nnTime_of {t : Time} (h : okTime t) : nnTime t := ⟨nonneg_u64 h.1, nonneg_u64 h.2.1.1, nonneg_u64 h.2.1.2⟩
abbrev okUs (l : List Update) : Prop := l.length ≤ maxN ∧ ∀ x ∈ l, okUpdate x
theorem us_in {l : List Update} (h : okUs l) : ∀ u ∈ l, in64 u.diff := fun u hu => in64_of (h.2 u hu).2.2.2.1
theorem us_nn {l : List Update} (h : okUs l) : ∀ u ∈ l, nnTime u.time := fun u hu => nnTime_of (h.2 u hu).2.2.1
theorem us_len (l : List Update) : l.length ≤ (l.map bulkUpdate).sum := length_le_sum (f := bulkUpdate) (fun x => by unfold bulkUpdate; omega) l
end Go.Av
namespace Go.Av
theorem DiffLater_row {l : List Update} {a b : Time} (hl : okUs l) (ha : okTime a) (hb : okTime b) (h : ((l.map bulkUpdate).sum + 1) + (bulkTime a + (bulkTime b + 0)) ≤ 1048576) : freshetlaw05_DiffLater 100000000 l a b = some true := by
  have := us_len l
  exact DiffLater_true lists_eq (by omega) (by omega) (us_in hl) (us_nn hl) (nnTime_of ha) (nnTime_of hb)
end Go.Av
