/- BatchMerges: for every input whose bulk is at most 1048576 the law returns true, and its arguments read as they did. -/
import Derived.Test.YtgpkbkdmpdmmiaaGreatL4x7
import Derived.Test.YtgpkbkdmpdmmiaaGreatRows
namespace Go.Proofs.YtgpkbkdmpdmmiaaGreat.batchMerges
open Go Go.Av Go.RowKit Go.ChangeShapes Go.WideShapes Go.ChangeAt
set_option linter.unusedVariables false
set_option linter.unusedSimpArgs false
set_option maxRecDepth 100000
theorem own : ownKnob Tryz.prog.godebug = none := by kernel_rfl
theorem bulkAll {H : Type} : ∀ l : List (DataW H), Rows.uptoBulkAll l = (l.map Rows.uptoBulk).sum
  | [] => by simp [Rows.uptoBulkAll]
  | d :: l => by simp [Rows.uptoBulkAll, bulkAll l]
theorem bulkOk {H : Type} : BulkOk (Rows.uptoBulk (H := H)) where
  one := fun d => by
    cases d with
    | lit l => cases l <;> simp [Rows.uptoBulk]
    | _ => simp [Rows.uptoBulk]
  str := fun s => by simp [Rows.uptoBulk]
  slice := fun es rest => by simp only [Rows.uptoBulk, bulkAll]; omega
  agg := fun ps => by simp only [Rows.uptoBulk, bulkAll]; omega
theorem lifted (os : Os) (started : os.Started) (H : Type) (enc : TypeId × Go.Value → H) (F : Stop.Interp) :
    ReturnsInHanded {} Tryz.checked os 4 .any ((Rows.OpenSpec.upto Rows.batchMergesSpec).pre6 enc Tryz.prog Tryz.f4 Rows.batchMergesUptoRow.domain false) (((Rows.OpenSpec.upto Rows.batchMergesSpec).at F).post enc Tryz.prog Tryz.f4 false true false false) := by
  refine returnsInHanded_of_cond (C := Tryz.checked) (s := Rows.OpenSpec.upto Rows.batchMergesSpec) (k := Rows.uptoSmall) rfl own started (by kernel_rfl) Tryz.func4
    (OpenSpec.witness (enc := enc) (C := Tryz.checked) (s := Rows.OpenSpec.upto Rows.batchMergesSpec) (k := Rows.uptoSmall) rfl false ⟨#[], #[.agg #[.slice none 0 0, .slice none 0 0, .int .i64 0, .int .i64 0, .slice none 0 0, .slice none 0 0], .int .i64 0, .slice none 0 0, .agg #[.slice none 0 0, .slice none 0 0], .agg #[.slice none 0 0, .slice none 0 0]], []⟩ 12 (by kernel_rfl) (by kernel_rfl) (by kernel_rfl)
      (x := ([.agg [.nil, .nil, .lit (.int .i64 0), .lit (.int .i64 0), .nil, .nil], .lit (.int .i64 0), .nil, .agg [.nil, .nil], .agg [.nil, .nil]], [], [])) (by kernel_rfl) rfl (by kernel_rfl)) ?_
  intro W base args ds gs before hval hW _ hk _
  have hk1 : Rows.uptoBulkAll (ds ++ gs) ≤ 1048576 := of_decide_eq_true hk
  rw [bulkAll, List.map_append, List.sum_append] at hk1
  have hk2 : (ds.map Rows.uptoBulk).sum ≤ 1048576 := by omega
  exact          zlw (B := Rows.uptoBulk) (Z := (fun _ d => Rows.uptoBulk d ≤ maxN)) (N := 1048576) (ts := [36, 3, 22, 26, 26]) Tryz.func4 rfl (by kernel_rfl) rfl rfl Tryz.underlying4 rfl (fun ds h => by match ds, h with | [d0, d1, d2, d3, d4], _ => rfl) (by kernel_rfl) (by kernel_rfl)
    (fun W => by have hZ : Fine (H := H) Tryz.prog (fun _ d => Rows.uptoBulk d ≤ maxN) := Fine.bulk bulkOk
                 have hB := bulkOk (H := H)
                 exact (ArgsR.cons (ArgR.agg (fun n => (        zn1 hZ hB n)) (by kernel_rfl)) (ArgsR.cons (        zhf (g := fun i => .int .i64 i) (fun n => (    z1a.int hB Tryz.underlying3)) (by kernel_rfl)) (ArgsR.cons (        zhf (g := fun xs => encL 3 (    z02) xs) (fun n => (    z1a.slice (es := 3) (e :=     z02) (ok :=    zam) (bulk :=      z6h) hZ hB Tryz.underlying22 (by kernel_rfl) (by kernel_rfl) rfl (fun _ _ => rfl) (fun m _ => (      zdk hZ hB m)))) (by kernel_rfl)) (ArgsR.cons (ArgR.agg (fun n => (       zj6 hZ hB n)) (by kernel_rfl)) (ArgsR.cons (ArgR.agg (fun n => (       zj6 hZ hB n)) (by kernel_rfl)) ArgsR.nil))))))
    (by intro z h hb; exact                         zbn (            zic h.1 h.2.2.1 h.2.2.2.1 h.2.2.2.2.1 hb))
    base args ds gs before hval hW hk2 (         zlp (by unfold maxN; omega) hk2)
theorem over : Rows.batchMergesUptoRow.holds Tryz.pinned (Rows.OpenSpec.upto Rows.batchMergesSpec) :=
  OpenClaim.holds_of_cond 4 Tryz.f4 rfl rfl rfl rfl rfl rfl rfl ⟨rfl, rfl, rfl, rfl, rfl⟩ rfl rfl rfl rfl rfl (by kernel_rfl) Tryz.func4 (by kernel_rfl)
    (of_decide_eq_true (by kernel_rfl)) (by unfold Func.isWrapper; first | (rw [if_pos (by decide +kernel)]; kernel_rfl) | (rw [if_neg (by decide +kernel)]; exact ⟨rfl, rfl⟩))
    (fun os started H enc _ F => lifted os started H enc F)
theorem proved : Rows.BatchMergesUptoSaid := over
#print axioms proved
end Go.Proofs.YtgpkbkdmpdmmiaaGreat.batchMerges
namespace Go.Proofs.YtgpkbkdmpdmmiaaGreat
/-- The row, under a short name. -/
theorem batchMerges_holds : Rows.BatchMergesUptoSaid := batchMerges.proved
end Go.Proofs.YtgpkbkdmpdmmiaaGreat
