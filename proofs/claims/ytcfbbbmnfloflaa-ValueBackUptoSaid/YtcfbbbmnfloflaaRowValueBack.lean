/- ValueBack: for every input whose bulk is at most 1048576 the law returns true, and its arguments read as they did. -/
import Derived.Test.YtcfbbbmnfloflaaV10x2
import Derived.Test.YtcfbbbmnfloflaaRows
namespace Go.Proofs.Ytcfbbbmnfloflaa.valueBack
open Go Go.Av Go.RowKit Go.ChangeShapes Go.WideShapes Go.ChangeAt
set_option linter.unusedVariables false
set_option linter.unusedSimpArgs false
set_option maxRecDepth 100000
theorem own : ownKnob Try.prog.godebug = none := by kernel_rfl
theorem bulkAll {H : Type} : ∀ l : List (DataW H), Rows.uptoBulkAll l = (l.map Rows.uptoBulk).sum
  | [] => by simp [Rows.uptoBulkAll]
  | d :: l => by simp [Rows.uptoBulkAll, bulkAll l]
theorem bulkOk {H : Type} : BulkOk (Rows.uptoBulk (H := H)) where
  one := fun d => by
    cases d with
    | lit l => cases l <;> simp [Rows.uptoBulk]
    | _ => simp [Rows.uptoBulk]
  str := fun s => by simp [Rows.uptoBulk]
  slice := fun es rest => by simp only [Rows.uptoBulk, bulkAll]; omega
  agg := fun ps => by simp only [Rows.uptoBulk, bulkAll]; omega
theorem lifted (os : Os) (started : os.Started) (H : Type) (enc : TypeId × Go.Value → H) (F : Stop.Interp) :
    ReturnsInHanded {} Try.checked os 10 .any ((Rows.OpenSpec.upto Rows.valueBackSpec).pre6 enc Try.prog Try.f10 Rows.valueBackUptoRow.domain false) (((Rows.OpenSpec.upto Rows.valueBackSpec).at F).post enc Try.prog Try.f10 false true false false) := by
  refine returnsInHanded_of_cond (C := Try.checked) (s := Rows.OpenSpec.upto Rows.valueBackSpec) (k := Rows.uptoSmall) rfl own started (by kernel_rfl) Try.func10
    (OpenSpec.witness (enc := enc) (C := Try.checked) (s := Rows.OpenSpec.upto Rows.valueBackSpec) (k := Rows.uptoSmall) rfl false ⟨#[], #[.slice none 0 0, .string ByteArray.empty, .int .i64 0], []⟩ 12 (by kernel_rfl) (by kernel_rfl) (by kernel_rfl)
      (x := ([.nil, .lit (.string []), .lit (.int .i64 0)], [], [])) (by kernel_rfl) rfl (by kernel_rfl)) ?_
  intro W base args ds gs before hval hW _ hk _
  have hk1 : Rows.uptoBulkAll (ds ++ gs) ≤ 1048576 := of_decide_eq_true hk
  rw [bulkAll, List.map_append, List.sum_append] at hk1
  have hk2 : (ds.map Rows.uptoBulk).sum ≤ 1048576 := by omega
  exact          z9t (B := Rows.uptoBulk) (Z := (fun _ d => Rows.uptoBulk d ≤ maxN)) (N := 1048576) (ts := [22, 9, 3]) Try.func10 rfl (by kernel_rfl) rfl rfl Try.underlying4 rfl (fun ds h => by match ds, h with | [d0, d1, d2], _ => rfl) (by kernel_rfl) (by kernel_rfl)
    (fun W => by have hZ : Fine (H := H) Try.prog (fun _ d => Rows.uptoBulk d ≤ maxN) := Fine.bulk bulkOk
                 have hB := bulkOk (H := H)
                 exact (ArgsR.cons (        z50 (g := fun xs => encL 3 (encValue) xs) (fun n => (    z0k.slice (es := 3) (e := encValue) (ok :=     z70) (bulk :=       z6f) hZ hB Try.underlying22 (by kernel_rfl) (by kernel_rfl) rfl (fun _ _ => rfl) (fun m _ => (       zba hZ hB m)))) (by kernel_rfl)) (ArgsR.cons (        z50 (g := fun s => .str s) (fun n => (    z0k.string hZ hB Try.underlying9)) (by kernel_rfl)) (ArgsR.cons (        z50 (g := fun i => .int .i64 i) (fun n => (    z0k.int hB Try.underlying3)) (by kernel_rfl)) ArgsR.nil))))
    (by intro z h hb; exact                       z46 (          z9b h.1 hb))
    base args ds gs before hval hW hk2 (         z9q (by unfold maxN; omega) hk2)
theorem over : Rows.valueBackUptoRow.holds Try.pinned (Rows.OpenSpec.upto Rows.valueBackSpec) :=
  OpenClaim.holds_of_cond 10 Try.f10 rfl rfl rfl rfl rfl rfl rfl ⟨rfl, rfl, rfl, rfl, rfl⟩ rfl rfl rfl rfl rfl (by kernel_rfl) Try.func10 (by kernel_rfl)
    (of_decide_eq_true (by kernel_rfl)) (by unfold Func.isWrapper; first | (rw [if_pos (by decide +kernel)]; kernel_rfl) | (rw [if_neg (by decide +kernel)]; exact ⟨rfl, rfl⟩))
    (fun os started H enc _ F => lifted os started H enc F)
theorem proved : Rows.ValueBackUptoSaid := over
#print axioms proved
end Go.Proofs.Ytcfbbbmnfloflaa.valueBack
namespace Go.Proofs.Ytcfbbbmnfloflaa
/-- The row, under a short name. -/
theorem valueBack_holds : Rows.ValueBackUptoSaid := valueBack.proved
end Go.Proofs.Ytcfbbbmnfloflaa
