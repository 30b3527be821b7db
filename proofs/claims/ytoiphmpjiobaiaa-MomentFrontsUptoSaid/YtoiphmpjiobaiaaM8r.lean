import Derived.Test.YtoiphmpjiobaiaaM8p
import Derived.Test.YtoiphmpjiobaiaaProg
namespace Go.Av
open Go Go.Proofs
set_option linter.unusedVariables false
set_option linter.unusedSimpArgs false

def okTime (x : Time) : Prop := (okInt .u64) x.epoch ∧ (fun p => (okInt .u64) p.1 ∧ (okInt .u64) p.2) x.loop ∧ True

def bulkTime (x : Time) : Nat := ((fun _ => 1) x.epoch + ((fun p => (fun _ => 1) p.1 + (fun _ => 1) p.2 + 1) x.loop + 0)) + 1

theorem readsTime {H : Type} {enc : TypeId × Go.Value → H} {W : World} {Z : TypeId → DataW H → Prop} {B : DataW H → Nat} (hZ : Fine Try.prog Z) (hB : BulkOk B) : Reads enc Try.prog W Z B 27 encTime okTime bulkTime := fun n => by
  have h := ReadsAt.struct (n := n) (enc := enc) (W := W) (tot := 3) hZ hB Try.underlying27 (by kernel_rfl) (fun m _ => (ReadsF.cons (k := 1) (ReadsAt.int hB Try.underlying24) rfl (by kernel_rfl) (ReadsF.cons (k := 2) (ReadsAt.pair hZ hB Try.underlying25 (k := 1) (by kernel_rfl) (by kernel_rfl) (fun m _ => (ReadsAt.int hB Try.underlying24))) rfl (by kernel_rfl) (ReadsF.nil (off := 3)))))
  exact h.map (fun (p : Int × (Int × Int) × Unit) => (⟨p.1, p.2.1⟩ : Time)) (fun _ _ => rfl) (fun _ h => h) (fun _ _ => Nat.le_refl _)

end Go.Av