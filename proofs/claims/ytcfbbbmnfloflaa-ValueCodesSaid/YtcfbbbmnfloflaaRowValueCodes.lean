/- ValueCodes: for every input the law returns true, and its arguments read as they did. -/
import Derived.Test.YtcfbbbmnfloflaaV9x3
import Derived.Test.YtcfbbbmnfloflaaRows
namespace Go.Proofs.Ytcfbbbmnfloflaa.valueCodes
open Go Go.Av Go.RowKit Go.ChangeShapes Go.WideShapes Go.ChangeAt
set_option linter.unusedVariables false
set_option linter.unusedSimpArgs false
set_option maxRecDepth 100000
theorem own : ownKnob Try.prog.godebug = none := by kernel_rfl
theorem bulkAll {H : Type} : ∀ l : List (DataW H), Rows.uptoBulkAll l = (l.map Rows.uptoBulk).sum
  | [] => by simp [Rows.uptoBulkAll]
  | d :: l => by simp [Rows.uptoBulkAll, bulkAll l]
theorem bulkOk {H : Type} : BulkOk (Rows.uptoBulk (H := H)) where
  one := fun d => by
    cases d with
    | lit l => cases l <;> simp [Rows.uptoBulk]
    | _ => simp [Rows.uptoBulk]
  str := fun s => by simp [Rows.uptoBulk]
  slice := fun es rest => by simp only [Rows.uptoBulk, bulkAll]; omega
  agg := fun ps => by simp only [Rows.uptoBulk, bulkAll]; omega
theorem lifted (os : Os) (started : os.Started) (H : Type) (enc : TypeId × Go.Value → H) :
    ReturnsInHanded {} Try.checked os 9 .any (Rows.valueCodesSpec.pre6 enc Try.prog Try.f9 Rows.valueCodesRow.domain false) (Rows.valueCodesSpec.post enc Try.prog Try.f9 false true false false) := by
  refine returnsInHanded_of_change_sized (C := Try.checked) own started (by kernel_rfl) Try.func9
    (ChangeSpec.witness6 (enc := enc) (C := Try.checked) false ⟨#[], #[.slice none 0 0, .string ByteArray.empty], []⟩ 12 (by kernel_rfl) (by kernel_rfl) (by kernel_rfl) (by kernel_rfl)) ?_
  intro W base args ds gs before hval hW hcnd hsz _
  exact          zat (B := Rows.uptoBulk) (Z := (fun t d => ∀ n ∈ d.weights Try.prog t, n ≤ reachBytes)) (N := (ds.map Rows.uptoBulk).sum) (ts := [22, 9]) Try.func9 rfl (by kernel_rfl) rfl rfl Try.underlying4 rfl (fun ds h => by match ds, h with | [d0, d1], _ => rfl) (by kernel_rfl) (by kernel_rfl)
    (fun W => by have hZ : Fine (H := H) Try.prog (fun t d => ∀ n ∈ d.weights Try.prog t, n ≤ reachBytes) := Fine.weights _
                 have hB := bulkOk (H := H)
                 exact (ArgsR.cons (        z7v (g := fun xs => encL 3 (encValue) xs) (fun n => (    z0n.slice (es := 3) (e := encValue) (ok :=     z7r) (bulk :=       z9p) hZ hB Try.underlying22 (by kernel_rfl) (by kernel_rfl) rfl (fun _ _ => rfl) (fun m _ => (       zcd hZ hB m)))) (by kernel_rfl)) (ArgsR.cons (        z7v (g := fun s => .str s) (fun n => (    z0n.string hZ hB Try.underlying9)) (by kernel_rfl)) ArgsR.nil)))
    (by intro z h hb; exact                        z4s (           z9d h.1 h.2.1))
    base args ds gs before hval hW (Nat.le_refl _) (          za8 hsz)
theorem over : Rows.valueCodesRow.holds Try.pinned (OpenSpec.ofChange Rows.valueCodesSpec) :=
  OpenClaim.holds_of_wide 9 Try.f9 rfl rfl rfl rfl rfl rfl rfl ⟨rfl, rfl, rfl, rfl, rfl⟩ rfl rfl rfl rfl rfl (by kernel_rfl) Try.func9 (by kernel_rfl)
    (of_decide_eq_true (by kernel_rfl)) (by unfold Func.isWrapper; first | (rw [if_pos (by decide +kernel)]; kernel_rfl) | (rw [if_neg (by decide +kernel)]; exact ⟨rfl, rfl⟩))
    (fun os started H enc _ => lifted os started H enc)
theorem proved : Rows.ValueCodesSaid := over
#print axioms proved
end Go.Proofs.Ytcfbbbmnfloflaa.valueCodes
namespace Go.Proofs.Ytcfbbbmnfloflaa
/-- The row, under a short name. -/
theorem valueCodes_holds : Rows.ValueCodesSaid := valueCodes.proved
end Go.Proofs.Ytcfbbbmnfloflaa
