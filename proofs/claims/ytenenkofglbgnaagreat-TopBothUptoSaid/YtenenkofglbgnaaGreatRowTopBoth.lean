/- TopBoth: for every input whose bulk is at most 1048576 the law returns true, and its arguments read as they did. -/
import Derived.Test.YtenenkofglbgnaaGreatB3x5
import Derived.Test.YtenenkofglbgnaaGreatRows
namespace Go.Proofs.YtenenkofglbgnaaGreat.topBoth
open Go Go.Av Go.RowKit Go.ChangeShapes Go.WideShapes Go.ChangeAt
set_option linter.unusedVariables false
set_option linter.unusedSimpArgs false
set_option maxRecDepth 100000
theorem own : ownKnob Tryz.prog.godebug = none := by kernel_rfl
theorem bulkAll {H : Type} : ∀ l : List (DataW H), Rows.uptoBulkAll l = (l.map Rows.uptoBulk).sum
  | [] => by simp [Rows.uptoBulkAll]
  | d :: l => by simp [Rows.uptoBulkAll, bulkAll l]
theorem bulkOk {H : Type} : BulkOk (Rows.uptoBulk (H := H)) where
  one := fun d => by
    cases d with
    | lit l => cases l <;> simp [Rows.uptoBulk]
    | _ => simp [Rows.uptoBulk]
  str := fun s => by simp [Rows.uptoBulk]
  slice := fun es rest => by simp only [Rows.uptoBulk, bulkAll]; omega
  agg := fun ps => by simp only [Rows.uptoBulk, bulkAll]; omega
theorem lifted (os : Os) (started : os.Started) (H : Type) (enc : TypeId × Go.Value → H) (F : Stop.Interp) :
    ReturnsInHanded {} Tryz.checked os 3 .any ((Rows.OpenSpec.upto Rows.topBothSpec).pre6 enc Tryz.prog Tryz.f3 Rows.topBothUptoRow.domain false) (((Rows.OpenSpec.upto Rows.topBothSpec).at F).post enc Tryz.prog Tryz.f3 false true false false) := by
  refine returnsInHanded_of_cond (C := Tryz.checked) (s := Rows.OpenSpec.upto Rows.topBothSpec) (k := Rows.uptoSmall) rfl own started (by kernel_rfl) Tryz.func3
    (OpenSpec.witness (enc := enc) (C := Tryz.checked) (s := Rows.OpenSpec.upto Rows.topBothSpec) (k := Rows.uptoSmall) rfl false ⟨#[], #[.slice none 0 0, .slice none 0 0], []⟩ 12 (by kernel_rfl) (by kernel_rfl) (by kernel_rfl)
      (x := ([.nil, .nil], [], [])) (by kernel_rfl) rfl (by kernel_rfl)) ?_
  intro W base args ds gs before hval hW _ hk _
  have hk1 : Rows.uptoBulkAll (ds ++ gs) ≤ 1048576 := of_decide_eq_true hk
  rw [bulkAll, List.map_append, List.sum_append] at hk1
  have hk2 : (ds.map Rows.uptoBulk).sum ≤ 1048576 := by omega
  exact          zhj (B := Rows.uptoBulk) (Z := (fun _ d => Rows.uptoBulk d ≤ maxN)) (N := 1048576) (ts := [22, 22]) Tryz.func3 rfl (by kernel_rfl) rfl rfl Tryz.underlying4 rfl (fun ds h => by match ds, h with | [d0, d1], _ => rfl) (by kernel_rfl) (by kernel_rfl)
    (fun W => by have hZ : Fine (H := H) Tryz.prog (fun _ d => Rows.uptoBulk d ≤ maxN) := Fine.bulk bulkOk
                 have hB := bulkOk (H := H)
                 exact (ArgsR.cons (        ze0 (g := fun xs => encL 6 (      z01) xs) (fun n => (    z1f.slice (es := 6) (e :=       z01) (ok :=      zc4) (bulk :=        z65) hZ hB Tryz.underlying22 (by kernel_rfl) (by kernel_rfl) rfl (fun _ _ => rfl) (fun m _ => (        zec hZ hB m)))) (by kernel_rfl)) (ArgsR.cons (        ze0 (g := fun xs => encL 6 (      z01) xs) (fun n => (    z1f.slice (es := 6) (e :=       z01) (ok :=      zc4) (bulk :=        z65) hZ hB Tryz.underlying22 (by kernel_rfl) (by kernel_rfl) rfl (fun _ _ => rfl) (fun m _ => (        zec hZ hB m)))) (by kernel_rfl)) ArgsR.nil)))
    (by intro z h hb; exact                   zb8 ((        zie h.1 h.2.1 hb)))
    base args ds gs before hval hW hk2 (         zhg (by unfold maxN; omega) hk2)
theorem over : Rows.topBothUptoRow.holds Tryz.pinned (Rows.OpenSpec.upto Rows.topBothSpec) :=
  OpenClaim.holds_of_cond 3 Tryz.f3 rfl rfl rfl rfl rfl rfl rfl ⟨rfl, rfl, rfl, rfl, rfl⟩ rfl rfl rfl rfl rfl (by kernel_rfl) Tryz.func3 (by kernel_rfl)
    (of_decide_eq_true (by kernel_rfl)) (by unfold Func.isWrapper; first | (rw [if_pos (by decide +kernel)]; kernel_rfl) | (rw [if_neg (by decide +kernel)]; exact ⟨rfl, rfl⟩))
    (fun os started H enc _ F => lifted os started H enc F)
theorem proved : Rows.TopBothUptoSaid := over
#print axioms proved
end Go.Proofs.YtenenkofglbgnaaGreat.topBoth
namespace Go.Proofs.YtenenkofglbgnaaGreat
/-- The row, under a short name. -/
theorem topBoth_holds : Rows.TopBothUptoSaid := topBoth.proved
end Go.Proofs.YtenenkofglbgnaaGreat
