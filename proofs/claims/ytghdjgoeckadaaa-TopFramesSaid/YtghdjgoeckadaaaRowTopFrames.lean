/- TopFrames: for every input the law returns true, and its arguments read as they did. -/
import Derived.Test.YtghdjgoeckadaaaF3x4
import Derived.Test.YtghdjgoeckadaaaRows
namespace Go.Proofs.Ytghdjgoeckadaaa.topFrames
open Go Go.Av Go.RowKit Go.ChangeShapes Go.WideShapes Go.ChangeAt
set_option linter.unusedVariables false
set_option linter.unusedSimpArgs false
set_option maxRecDepth 100000
theorem own : ownKnob Try.prog.godebug = none := by kernel_rfl
theorem bulkAll {H : Type} : ∀ l : List (DataW H), Rows.uptoBulkAll l = (l.map Rows.uptoBulk).sum
  | [] => by simp [Rows.uptoBulkAll]
  | d :: l => by simp [Rows.uptoBulkAll, bulkAll l]
theorem bulkOk {H : Type} : BulkOk (Rows.uptoBulk (H := H)) where
  one := fun d => by
    cases d with
    | lit l => cases l <;> simp [Rows.uptoBulk]
    | _ => simp [Rows.uptoBulk]
  str := fun s => by simp [Rows.uptoBulk]
  slice := fun es rest => by simp only [Rows.uptoBulk, bulkAll]; omega
  agg := fun ps => by simp only [Rows.uptoBulk, bulkAll]; omega
theorem lifted (os : Os) (started : os.Started) (H : Type) (enc : TypeId × Go.Value → H) :
    ReturnsInHanded {} Try.checked os 3 .any (Rows.topFramesSpec.pre6 enc Try.prog Try.f3 Rows.topFramesRow.domain false) (Rows.topFramesSpec.post enc Try.prog Try.f3 false true false false) := by
  refine returnsInHanded_of_change_sized (C := Try.checked) own started (by kernel_rfl) Try.func3
    (ChangeSpec.witness6 (enc := enc) (C := Try.checked) false ⟨#[], #[.slice none 0 0, .slice none 0 0, .int .i64 0, .int .i64 0], []⟩ 12 (by kernel_rfl) (by kernel_rfl) (by kernel_rfl) (by kernel_rfl)) ?_
  intro W base args ds gs before hval hW hcnd hsz _
  exact          zd8 (B := Rows.uptoBulk) (Z := (fun t d => ∀ n ∈ d.weights Try.prog t, n ≤ reachBytes)) (N := (ds.map Rows.uptoBulk).sum) (ts := [22, 23, 3, 3]) Try.func3 rfl (by kernel_rfl) rfl rfl Try.underlying4 rfl (fun ds h => by match ds, h with | [d0, d1, d2, d3], _ => rfl) (by kernel_rfl) (by kernel_rfl)
    (fun W => by have hZ : Fine (H := H) Try.prog (fun t d => ∀ n ∈ d.weights Try.prog t, n ≤ reachBytes) := Fine.weights _
                 have hB := bulkOk (H := H)
                 exact (ArgsR.cons (        z5f (g := fun xs => encL 1 (   z0b) xs) (fun n => (    z14.slice (es := 1) (e :=    z0b) (ok := fun s => s.size ≤ maxN) (bulk := fun s => s.size + 1) hZ hB Try.underlying22 (by kernel_rfl) (by kernel_rfl) rfl (fun _ _ => rfl) (fun m _ => (    z14.string hZ hB Try.underlying9)))) (by kernel_rfl)) (ArgsR.cons (        z5f (g := fun xs => encL 1 (    z2z) xs) (fun n => (    z14.slice (es := 1) (e :=     z2z) (ok := fun _ => True) (bulk := fun _ => 1) hZ hB Try.underlying23 (by kernel_rfl) (by kernel_rfl) rfl (fun _ _ => rfl) (fun m _ => (    z14.bool hB Try.underlying4)))) (by kernel_rfl)) (ArgsR.cons (        z5f (g := fun i => .int .i64 i) (fun n => (    z14.int hB Try.underlying3)) (by kernel_rfl)) (ArgsR.cons (        z5f (g := fun i => .int .i64 i) (fun n => (    z14.int hB Try.underlying3)) (by kernel_rfl)) ArgsR.nil)))))
    (by intro z h hb; exact                     z6f (           zb0))
    base args ds gs before hval hW (Nat.le_refl _) (          zcd hsz)
theorem over : Rows.topFramesRow.holds Try.pinned (OpenSpec.ofChange Rows.topFramesSpec) :=
  OpenClaim.holds_of_wide 3 Try.f3 rfl rfl rfl rfl rfl rfl rfl ⟨rfl, rfl, rfl, rfl, rfl⟩ rfl rfl rfl rfl rfl (by kernel_rfl) Try.func3 (by kernel_rfl)
    (of_decide_eq_true (by kernel_rfl)) (by unfold Func.isWrapper; first | (rw [if_pos (by decide +kernel)]; kernel_rfl) | (rw [if_neg (by decide +kernel)]; exact ⟨rfl, rfl⟩))
    (fun os started H enc _ => lifted os started H enc)
theorem proved : Rows.TopFramesSaid := over
#print axioms proved
end Go.Proofs.Ytghdjgoeckadaaa.topFrames
namespace Go.Proofs.Ytghdjgoeckadaaa
/-- The row, under a short name. -/
theorem topFrames_holds : Rows.TopFramesSaid := topFrames.proved
end Go.Proofs.Ytghdjgoeckadaaa
