/- TopStamped: for every input the law returns true, and its arguments read as they did. -/
import Derived.Test.YtcfgdebcokfjiaaGreatS3x5
import Derived.Test.YtcfgdebcokfjiaaGreatRows
namespace Go.Proofs.YtcfgdebcokfjiaaGreat.topStamped
open Go Go.Av Go.RowKit Go.ChangeShapes Go.WideShapes Go.ChangeAt
set_option linter.unusedVariables false
set_option linter.unusedSimpArgs false
set_option maxRecDepth 100000
theorem own : ownKnob Tryz.prog.godebug = none := by kernel_rfl
theorem bulkAll {H : Type} : ∀ l : List (DataW H), Rows.uptoBulkAll l = (l.map Rows.uptoBulk).sum
  | [] => by simp [Rows.uptoBulkAll]
  | d :: l => by simp [Rows.uptoBulkAll, bulkAll l]
theorem bulkOk {H : Type} : BulkOk (Rows.uptoBulk (H := H)) where
  one := fun d => by
    cases d with
    | lit l => cases l <;> simp [Rows.uptoBulk]
    | _ => simp [Rows.uptoBulk]
  str := fun s => by simp [Rows.uptoBulk]
  slice := fun es rest => by simp only [Rows.uptoBulk, bulkAll]; omega
  agg := fun ps => by simp only [Rows.uptoBulk, bulkAll]; omega
theorem lifted (os : Os) (started : os.Started) (H : Type) (enc : TypeId × Go.Value → H) :
    ReturnsInHanded {} Tryz.checked os 3 .any (Rows.topStampedSpec.pre6 enc Tryz.prog Tryz.f3 Rows.topStampedRow.domain false) (Rows.topStampedSpec.post enc Tryz.prog Tryz.f3 false true false false) := by
  refine returnsInHanded_of_change_sized (C := Tryz.checked) own started (by kernel_rfl) Tryz.func3
    (ChangeSpec.witness6 (enc := enc) (C := Tryz.checked) false ⟨#[], #[.slice none 0 0, .slice none 0 0], []⟩ 12 (by kernel_rfl) (by kernel_rfl) (by kernel_rfl) (by kernel_rfl)) ?_
  intro W base args ds gs before hval hW hcnd hsz _
  exact          zgv (B := Rows.uptoBulk) (Z := (fun t d => ∀ n ∈ d.weights Tryz.prog t, n ≤ reachBytes)) (N := (ds.map Rows.uptoBulk).sum) (ts := [22, 23]) Tryz.func3 rfl (by kernel_rfl) rfl rfl Tryz.underlying4 rfl (fun ds h => by match ds, h with | [d0, d1], _ => rfl) (by kernel_rfl) (by kernel_rfl)
    (fun W => by have hZ : Fine (H := H) Tryz.prog (fun t d => ∀ n ∈ d.weights Tryz.prog t, n ≤ reachBytes) := Fine.weights _
                 have hB := bulkOk (H := H)
                 exact (ArgsR.cons (        zcu (g := fun xs => encL 1 ((fun xs => [encL 3 encValue xs])) xs) (fun n => (    z1j.slice (es := 1) (e := (fun xs => [encL 3 encValue xs])) (ok := fun xs => xs.length ≤ maxN ∧ ∀ x ∈ xs, (    zah) x) (bulk := fun xs => (xs.map (      zbx)).sum + 1) hZ hB Tryz.underlying22 (by kernel_rfl) (by kernel_rfl) rfl (fun _ _ => rfl) (fun m _ => (    z1j.slice (es := 3) (e := encValue) (ok :=     zah) (bulk :=       zbx) hZ hB Tryz.underlying25 (by kernel_rfl) (by kernel_rfl) rfl (fun _ _ => rfl) (fun m _ => (       ziy hZ hB m)))))) (by kernel_rfl)) (ArgsR.cons (        zcu (g := fun xs => encL 3 (    z01) xs) (fun n => (    z1j.slice (es := 3) (e :=     z01) (ok :=    zgz) (bulk :=      zgg) hZ hB Tryz.underlying23 (by kernel_rfl) (by kernel_rfl) rfl (fun _ _ => rfl) (fun m _ => (      zjw hZ hB m)))) (by kernel_rfl)) ArgsR.nil)))
    (by intro z h hb; exact                      z9b (           zes h.1 h.2.1))
    base args ds gs before hval hW (Nat.le_refl _) (          zg1 hsz)
theorem over : Rows.topStampedRow.holds Tryz.pinned (OpenSpec.ofChange Rows.topStampedSpec) :=
  OpenClaim.holds_of_wide 3 Tryz.f3 rfl rfl rfl rfl rfl rfl rfl ⟨rfl, rfl, rfl, rfl, rfl⟩ rfl rfl rfl rfl rfl (by kernel_rfl) Tryz.func3 (by kernel_rfl)
    (of_decide_eq_true (by kernel_rfl)) (by unfold Func.isWrapper; first | (rw [if_pos (by decide +kernel)]; kernel_rfl) | (rw [if_neg (by decide +kernel)]; exact ⟨rfl, rfl⟩))
    (fun os started H enc _ => lifted os started H enc)
theorem proved : Rows.TopStampedSaid := over
#print axioms proved
end Go.Proofs.YtcfgdebcokfjiaaGreat.topStamped
namespace Go.Proofs.YtcfgdebcokfjiaaGreat
/-- The row, under a short name. -/
theorem topStamped_holds : Rows.TopStampedSaid := topStamped.proved
end Go.Proofs.YtcfgdebcokfjiaaGreat
