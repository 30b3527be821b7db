/- PackTakes: for every input the law returns true, and its arguments read as they did. -/
import Derived.Test.YtfgohaghjaeafaaN1b
import Derived.Test.YtfgohaghjaeafaaN1r
import Derived.Test.YtfgohaghjaeafaaL1g
import Derived.Test.YtfgohaghjaeafaaRows
namespace Go.Proofs.Ytfgohaghjaeafaa.packTakes
open Go Go.Av Go.RowKit Go.ChangeShapes Go.WideShapes Go.ChangeAt
set_option linter.unusedVariables false
set_option linter.unusedSimpArgs false
set_option maxRecDepth 100000
theorem own : ownKnob Try.prog.godebug = none := by kernel_rfl
theorem bulkAll {H : Type} : ∀ l : List (DataW H), Rows.uptoBulkAll l = (l.map Rows.uptoBulk).sum
  | [] => by simp [Rows.uptoBulkAll]
  | d :: l => by simp [Rows.uptoBulkAll, bulkAll l]
theorem bulkOk {H : Type} : BulkOk (Rows.uptoBulk (H := H)) where
  one := fun d => by
    cases d with
    | lit l => cases l <;> simp [Rows.uptoBulk]
    | _ => simp [Rows.uptoBulk]
  str := fun s => by simp [Rows.uptoBulk]
  slice := fun es rest => by simp only [Rows.uptoBulk, bulkAll]; omega
  agg := fun ps => by simp only [Rows.uptoBulk, bulkAll]; omega
theorem lifted (os : Os) (started : os.Started) (H : Type) (enc : TypeId × Go.Value → H) :
    ReturnsInHanded {} Try.checked os 6 .any (Rows.packTakesSpec.pre6 enc Try.prog Try.f6 Rows.packTakesRow.domain false) (Rows.packTakesSpec.post enc Try.prog Try.f6 false true false false) := by
  refine returnsInHanded_of_change_sized (C := Try.checked) own started (by kernel_rfl) Try.func6
    (ChangeSpec.witness6 (enc := enc) (C := Try.checked) false ⟨#[], #[.string ByteArray.empty], []⟩ 12 (by kernel_rfl) (by kernel_rfl) (by kernel_rfl) (by kernel_rfl)) ?_
  intro W base args ds gs before hval hW hcnd hsz _
  exact law_contract (B := Rows.uptoBulk) (Z := (fun t d => ∀ n ∈ d.weights Try.prog t, n ≤ reachBytes)) (N := (ds.map Rows.uptoBulk).sum) (ts := [9]) Try.func6 rfl (by kernel_rfl) rfl rfl Try.underlying4 rfl (fun ds h => by match ds, h with | [d0], _ => rfl) (by kernel_rfl) (by kernel_rfl)
    (fun W => by have hZ : Fine (H := H) Try.prog (fun t d => ∀ n ∈ d.weights Try.prog t, n ≤ reachBytes) := Fine.weights _
                 have hB := bulkOk (H := H)
                 exact (ArgsR.cons (ArgR.scalar (g := fun s => .str s) (fun n => (ReadsAt.string hZ hB Try.underlying9)) (by kernel_rfl)) ArgsR.nil))
    (by intro z h hb; exact freshetlaw01_PackTakes_ok ((PackTakes_law h.1)))
    base args ds gs before hval hW (Nat.le_refl _) (fine_of_sized hsz)
theorem over : Rows.packTakesRow.holds Try.pinned (OpenSpec.ofChange Rows.packTakesSpec) :=
  OpenClaim.holds_of_wide 6 Try.f6 rfl rfl rfl rfl rfl rfl rfl ⟨rfl, rfl, rfl, rfl, rfl⟩ rfl rfl rfl rfl rfl (by kernel_rfl) Try.func6 (by kernel_rfl)
    (of_decide_eq_true (by kernel_rfl)) (by unfold Func.isWrapper; first | (rw [if_pos (by decide +kernel)]; kernel_rfl) | (rw [if_neg (by decide +kernel)]; exact ⟨rfl, rfl⟩))
    (fun os started H enc _ => lifted os started H enc)
theorem proved : Rows.PackTakesSaid := over
#print axioms proved
end Go.Proofs.Ytfgohaghjaeafaa.packTakes
namespace Go.Proofs.Ytfgohaghjaeafaa
/-- The row, under a short name. -/
theorem packTakes_holds : Rows.PackTakesSaid := packTakes.proved
end Go.Proofs.Ytfgohaghjaeafaa
