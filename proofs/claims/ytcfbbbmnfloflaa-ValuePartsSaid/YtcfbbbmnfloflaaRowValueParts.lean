/- ValueParts: for every input the law returns true, and its arguments read as they did. -/
import Derived.Test.YtcfbbbmnfloflaaN3b
import Derived.Test.YtcfbbbmnfloflaaN3r
import Derived.Test.YtcfbbbmnfloflaaL3c
import Derived.Test.YtcfbbbmnfloflaaRows
namespace Go.Proofs.Ytcfbbbmnfloflaa.valueParts
open Go Go.Av Go.RowKit Go.ChangeShapes Go.WideShapes Go.ChangeAt
set_option linter.unusedVariables false
set_option linter.unusedSimpArgs false
set_option maxRecDepth 100000
theorem own : ownKnob Try.prog.godebug = none := by kernel_rfl
theorem bulkAll {H : Type} : ∀ l : List (DataW H), Rows.uptoBulkAll l = (l.map Rows.uptoBulk).sum
  | [] => by simp [Rows.uptoBulkAll]
  | d :: l => by simp [Rows.uptoBulkAll, bulkAll l]
theorem bulkOk {H : Type} : BulkOk (Rows.uptoBulk (H := H)) where
  one := fun d => by
    cases d with
    | lit l => cases l <;> simp [Rows.uptoBulk]
    | _ => simp [Rows.uptoBulk]
  str := fun s => by simp [Rows.uptoBulk]
  slice := fun es rest => by simp only [Rows.uptoBulk, bulkAll]; omega
  agg := fun ps => by simp only [Rows.uptoBulk, bulkAll]; omega
theorem lifted (os : Os) (started : os.Started) (H : Type) (enc : TypeId × Go.Value → H) :
    ReturnsInHanded {} Try.checked os 7 .any (Rows.valuePartsSpec.pre6 enc Try.prog Try.f7 Rows.valuePartsRow.domain false) (Rows.valuePartsSpec.post enc Try.prog Try.f7 false true false false) := by
  refine returnsInHanded_of_change_sized (C := Try.checked) own started (by kernel_rfl) Try.func7
    (ChangeSpec.witness6 (enc := enc) (C := Try.checked) false ⟨#[], #[.slice none 0 0, .slice none 0 0], []⟩ 12 (by kernel_rfl) (by kernel_rfl) (by kernel_rfl) (by kernel_rfl)) ?_
  intro W base args ds gs before hval hW hcnd hsz _
  exact law_contract (B := Rows.uptoBulk) (Z := (fun t d => ∀ n ∈ d.weights Try.prog t, n ≤ reachBytes)) (N := (ds.map Rows.uptoBulk).sum) (ts := [22, 22]) Try.func7 rfl (by kernel_rfl) rfl rfl Try.underlying4 rfl (fun ds h => by match ds, h with | [d0, d1], _ => rfl) (by kernel_rfl) (by kernel_rfl)
    (fun W => by have hZ : Fine (H := H) Try.prog (fun t d => ∀ n ∈ d.weights Try.prog t, n ≤ reachBytes) := Fine.weights _
                 have hB := bulkOk (H := H)
                 exact (ArgsR.cons (ArgR.scalar (g := fun xs => encL 3 (encValue) xs) (fun n => (ReadsAt.slice (es := 3) (e := encValue) (ok := okValue) (bulk := bulkValue) hZ hB Try.underlying22 (by kernel_rfl) (by kernel_rfl) rfl (fun _ _ => rfl) (fun m _ => (readsValue hZ hB m)))) (by kernel_rfl)) (ArgsR.cons (ArgR.scalar (g := fun xs => encL 3 (encValue) xs) (fun n => (ReadsAt.slice (es := 3) (e := encValue) (ok := okValue) (bulk := bulkValue) hZ hB Try.underlying22 (by kernel_rfl) (by kernel_rfl) rfl (fun _ _ => rfl) (fun m _ => (readsValue hZ hB m)))) (by kernel_rfl)) ArgsR.nil)))
    (by intro z h hb; exact freshetlaw03_ValueParts_ok (ValueParts_true _ _))
    base args ds gs before hval hW (Nat.le_refl _) (fine_of_sized hsz)
theorem over : Rows.valuePartsRow.holds Try.pinned (OpenSpec.ofChange Rows.valuePartsSpec) :=
  OpenClaim.holds_of_wide 7 Try.f7 rfl rfl rfl rfl rfl rfl rfl ⟨rfl, rfl, rfl, rfl, rfl⟩ rfl rfl rfl rfl rfl (by kernel_rfl) Try.func7 (by kernel_rfl)
    (of_decide_eq_true (by kernel_rfl)) (by unfold Func.isWrapper; first | (rw [if_pos (by decide +kernel)]; kernel_rfl) | (rw [if_neg (by decide +kernel)]; exact ⟨rfl, rfl⟩))
    (fun os started H enc _ => lifted os started H enc)
theorem proved : Rows.ValuePartsSaid := over
#print axioms proved
end Go.Proofs.Ytcfbbbmnfloflaa.valueParts
namespace Go.Proofs.Ytcfbbbmnfloflaa
/-- The row, under a short name. -/
theorem valueParts_holds : Rows.ValuePartsSaid := valueParts.proved
end Go.Proofs.Ytcfbbbmnfloflaa
