/- DiskWrites: for every input whose bulk is at most 1048576 the law returns true, and its arguments read as they did. -/
import Derived.Test.YtfgbkaigjhhlfaaD3x4
import Derived.Test.YtfgbkaigjhhlfaaRows
namespace Go.Proofs.Ytfgbkaigjhhlfaa.diskWrites
open Go Go.Av Go.RowKit Go.ChangeShapes Go.WideShapes Go.ChangeAt
set_option linter.unusedVariables false
set_option linter.unusedSimpArgs false
set_option maxRecDepth 100000
theorem own : ownKnob Try.prog.godebug = none := by kernel_rfl
theorem bulkAll {H : Type} : ∀ l : List (DataW H), Rows.uptoBulkAll l = (l.map Rows.uptoBulk).sum
  | [] => by simp [Rows.uptoBulkAll]
  | d :: l => by simp [Rows.uptoBulkAll, bulkAll l]
theorem bulkOk {H : Type} : BulkOk (Rows.uptoBulk (H := H)) where
  one := fun d => by
    cases d with
    | lit l => cases l <;> simp [Rows.uptoBulk]
    | _ => simp [Rows.uptoBulk]
  str := fun s => by simp [Rows.uptoBulk]
  slice := fun es rest => by simp only [Rows.uptoBulk, bulkAll]; omega
  agg := fun ps => by simp only [Rows.uptoBulk, bulkAll]; omega
theorem lifted (os : Os) (started : os.Started) (H : Type) (enc : TypeId × Go.Value → H) (F : Stop.Interp) :
    ReturnsInHanded {} Try.checked os 3 .any ((Rows.OpenSpec.upto Rows.diskWritesSpec).pre6 enc Try.prog Try.f3 Rows.diskWritesUptoRow.domain false) (((Rows.OpenSpec.upto Rows.diskWritesSpec).at F).post enc Try.prog Try.f3 false true false false) := by
  refine returnsInHanded_of_cond (C := Try.checked) (s := Rows.OpenSpec.upto Rows.diskWritesSpec) (k := Rows.uptoSmall) rfl own started (by kernel_rfl) Try.func3
    (OpenSpec.witness (enc := enc) (C := Try.checked) (s := Rows.OpenSpec.upto Rows.diskWritesSpec) (k := Rows.uptoSmall) rfl false ⟨#[], #[.agg #[.slice none 0 0, .slice none 0 0, .int .i64 0, .bool false, .int .i64 0], .slice none 0 0], []⟩ 12 (by kernel_rfl) (by kernel_rfl) (by kernel_rfl)
      (x := ([.agg [.nil, .nil, .lit (.int .i64 0), .lit (.bool false), .lit (.int .i64 0)], .nil], [], [])) (by kernel_rfl) rfl (by kernel_rfl)) ?_
  intro W base args ds gs before hval hW _ hk _
  have hk1 : Rows.uptoBulkAll (ds ++ gs) ≤ 1048576 := of_decide_eq_true hk
  rw [bulkAll, List.map_append, List.sum_append] at hk1
  have hk2 : (ds.map Rows.uptoBulk).sum ≤ 1048576 := by omega
  exact          zcv (B := Rows.uptoBulk) (Z := (fun _ d => Rows.uptoBulk d ≤ maxN)) (N := 1048576) (ts := [25, 23]) Try.func3 rfl (by kernel_rfl) rfl rfl Try.underlying4 rfl (fun ds h => by match ds, h with | [d0, d1], _ => rfl) (by kernel_rfl) (by kernel_rfl)
    (fun W => by have hZ : Fine (H := H) Try.prog (fun _ d => Rows.uptoBulk d ≤ maxN) := Fine.bulk bulkOk
                 have hB := bulkOk (H := H)
                 exact (ArgsR.cons (ArgR.agg (fun n => (      zfa hZ hB n)) (by kernel_rfl)) (ArgsR.cons (        zdg (g := fun xs => encL 4 (     z02) xs) (fun n => (    z0s.slice (es := 4) (e :=      z02) (ok :=     z9h) (bulk :=       z3n) hZ hB Try.underlying23 (by kernel_rfl) (by kernel_rfl) rfl (fun _ _ => rfl) (fun m _ => (       zaz hZ hB m)))) (by kernel_rfl)) ArgsR.nil)))
    (by intro z h hb; exact                        z68 (           zba h.1 hb))
    base args ds gs before hval hW hk2 (         zcs (by unfold maxN; omega) hk2)
theorem over : Rows.diskWritesUptoRow.holds Try.pinned (Rows.OpenSpec.upto Rows.diskWritesSpec) :=
  OpenClaim.holds_of_cond 3 Try.f3 rfl rfl rfl rfl rfl rfl rfl ⟨rfl, rfl, rfl, rfl, rfl⟩ rfl rfl rfl rfl rfl (by kernel_rfl) Try.func3 (by kernel_rfl)
    (of_decide_eq_true (by kernel_rfl)) (by unfold Func.isWrapper; first | (rw [if_pos (by decide +kernel)]; kernel_rfl) | (rw [if_neg (by decide +kernel)]; exact ⟨rfl, rfl⟩))
    (fun os started H enc _ F => lifted os started H enc F)
theorem proved : Rows.DiskWritesUptoSaid := over
#print axioms proved
end Go.Proofs.Ytfgbkaigjhhlfaa.diskWrites
namespace Go.Proofs.Ytfgbkaigjhhlfaa
/-- The row, under a short name. -/
theorem diskWrites_holds : Rows.DiskWritesUptoSaid := diskWrites.proved
end Go.Proofs.Ytfgbkaigjhhlfaa
