/- ValueOrders: for every input the law returns true, and its arguments read as they did. -/
import Derived.Test.YtcfbbbmnfloflaaN3b
import Derived.Test.YtcfbbbmnfloflaaN3r
import Derived.Test.YtcfbbbmnfloflaaL3c
import Derived.Test.YtcfbbbmnfloflaaRows
namespace Go.Proofs.Ytcfbbbmnfloflaa.valueOrders
open Go Go.Av Go.RowKit Go.ChangeShapes Go.WideShapes Go.ChangeAt
set_option linter.unusedVariables false
set_option linter.unusedSimpArgs false
set_option maxRecDepth 100000
theorem own : ownKnob Try.prog.godebug = none := by kernel_rfl
theorem bulkAll {H : Type} : ∀ l : List (DataW H), Rows.uptoBulkAll l = (l.map Rows.uptoBulk).sum
  | [] => by simp [Rows.uptoBulkAll]
  | d :: l => by simp [Rows.uptoBulkAll, bulkAll l]
theorem bulkOk {H : Type} : BulkOk (Rows.uptoBulk (H := H)) where
  one := fun d => by
    cases d with
    | lit l => cases l <;> simp [Rows.uptoBulk]
    | _ => simp [Rows.uptoBulk]
  str := fun s => by simp [Rows.uptoBulk]
  slice := fun es rest => by simp only [Rows.uptoBulk, bulkAll]; omega
  agg := fun ps => by simp only [Rows.uptoBulk, bulkAll]; omega
theorem lifted (os : Os) (started : os.Started) (H : Type) (enc : TypeId × Go.Value → H) :
    ReturnsInHanded {} Try.checked os 4 .any (Rows.valueOrdersSpec.pre6 enc Try.prog Try.f4 Rows.valueOrdersRow.domain false) (Rows.valueOrdersSpec.post enc Try.prog Try.f4 false true false false) := by
  refine returnsInHanded_of_change_sized (C := Try.checked) own started (by kernel_rfl) Try.func4
    (ChangeSpec.witness6 (enc := enc) (C := Try.checked) false ⟨#[], #[.agg #[.bool false, .int .i64 0, .string ByteArray.empty], .agg #[.bool false, .int .i64 0, .string ByteArray.empty], .slice none 0 0, .slice none 0 0], []⟩ 12 (by kernel_rfl) (by kernel_rfl) (by kernel_rfl) (by kernel_rfl)) ?_
  intro W base args ds gs before hval hW hcnd hsz _
  exact law_contract (B := Rows.uptoBulk) (Z := (fun t d => ∀ n ∈ d.weights Try.prog t, n ≤ reachBytes)) (N := (ds.map Rows.uptoBulk).sum) (ts := [27, 27, 22, 22]) Try.func4 rfl (by kernel_rfl) rfl rfl Try.underlying4 rfl (fun ds h => by match ds, h with | [d0, d1, d2, d3], _ => rfl) (by kernel_rfl) (by kernel_rfl)
    (fun W => by have hZ : Fine (H := H) Try.prog (fun t d => ∀ n ∈ d.weights Try.prog t, n ≤ reachBytes) := Fine.weights _
                 have hB := bulkOk (H := H)
                 exact (ArgsR.cons (ArgR.agg (fun n => (readsValue hZ hB n)) (by kernel_rfl)) (ArgsR.cons (ArgR.agg (fun n => (readsValue hZ hB n)) (by kernel_rfl)) (ArgsR.cons (ArgR.scalar (g := fun xs => encL 3 (encValue) xs) (fun n => (ReadsAt.slice (es := 3) (e := encValue) (ok := okValue) (bulk := bulkValue) hZ hB Try.underlying22 (by kernel_rfl) (by kernel_rfl) rfl (fun _ _ => rfl) (fun m _ => (readsValue hZ hB m)))) (by kernel_rfl)) (ArgsR.cons (ArgR.scalar (g := fun xs => encL 3 (encValue) xs) (fun n => (ReadsAt.slice (es := 3) (e := encValue) (ok := okValue) (bulk := bulkValue) hZ hB Try.underlying22 (by kernel_rfl) (by kernel_rfl) rfl (fun _ _ => rfl) (fun m _ => (readsValue hZ hB m)))) (by kernel_rfl)) ArgsR.nil)))))
    (by intro z h hb; exact freshetlaw03_ValueOrders_ok (ValueOrders_true h.2.2.1.1))
    base args ds gs before hval hW (Nat.le_refl _) (fine_of_sized hsz)
theorem over : Rows.valueOrdersRow.holds Try.pinned (OpenSpec.ofChange Rows.valueOrdersSpec) :=
  OpenClaim.holds_of_wide 4 Try.f4 rfl rfl rfl rfl rfl rfl rfl ⟨rfl, rfl, rfl, rfl, rfl⟩ rfl rfl rfl rfl rfl (by kernel_rfl) Try.func4 (by kernel_rfl)
    (of_decide_eq_true (by kernel_rfl)) (by unfold Func.isWrapper; first | (rw [if_pos (by decide +kernel)]; kernel_rfl) | (rw [if_neg (by decide +kernel)]; exact ⟨rfl, rfl⟩))
    (fun os started H enc _ => lifted os started H enc)
theorem proved : Rows.ValueOrdersSaid := over
#print axioms proved
end Go.Proofs.Ytcfbbbmnfloflaa.valueOrders
namespace Go.Proofs.Ytcfbbbmnfloflaa
/-- The row, under a short name. -/
theorem valueOrders_holds : Rows.ValueOrdersSaid := valueOrders.proved
end Go.Proofs.Ytcfbbbmnfloflaa
