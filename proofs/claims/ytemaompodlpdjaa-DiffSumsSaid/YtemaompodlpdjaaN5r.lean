import Derived.Test.YtemaompodlpdjaaN5p
import Derived.Test.YtemaompodlpdjaaProg
namespace Go.Av
open Go Go.Proofs
set_option linter.unusedVariables false
set_option linter.unusedSimpArgs false

def okTally (x : Tally) : Prop := (okInt .u64) x.high ∧ (okInt .u64) x.low ∧ True

def bulkTally (x : Tally) : Nat := ((fun _ => 1) x.high + ((fun _ => 1) x.low + 0)) + 1

def okWide (x : Wide) : Prop := (okInt .i64) x.high ∧ (okInt .u64) x.low ∧ True

def bulkWide (x : Wide) : Nat := ((fun _ => 1) x.high + ((fun _ => 1) x.low + 0)) + 1

theorem readsTally {H : Type} {enc : TypeId × Value → H} {W : World} {Z : TypeId → DataW H → Prop} {B : DataW H → Nat} (hZ : Fine Try.prog Z) (hB : BulkOk B) : Reads enc Try.prog W Z B 56 encTally okTally bulkTally := fun n => by
  have h := ReadsAt.struct (n := n) (enc := enc) (W := W) (tot := 2) hZ hB Try.underlying56 (by kernel_rfl) (fun m _ => (ReadsF.cons (k := 1) (ReadsAt.int hB Try.underlying39) rfl (by kernel_rfl) (ReadsF.cons (k := 1) (ReadsAt.int hB Try.underlying39) rfl (by kernel_rfl) (ReadsF.nil (off := 2)))))
  exact h.map (fun (p : Int × Int × Unit) => (⟨p.1, p.2.1⟩ : Tally)) (fun _ _ => rfl) (fun _ h => h) (fun _ _ => Nat.le_refl _)

theorem readsWide {H : Type} {enc : TypeId × Value → H} {W : World} {Z : TypeId → DataW H → Prop} {B : DataW H → Nat} (hZ : Fine Try.prog Z) (hB : BulkOk B) : Reads enc Try.prog W Z B 60 encWide okWide bulkWide := fun n => by
  have h := ReadsAt.struct (n := n) (enc := enc) (W := W) (tot := 2) hZ hB Try.underlying60 (by kernel_rfl) (fun m _ => (ReadsF.cons (k := 1) (ReadsAt.int hB Try.underlying2) rfl (by kernel_rfl) (ReadsF.cons (k := 1) (ReadsAt.int hB Try.underlying39) rfl (by kernel_rfl) (ReadsF.nil (off := 2)))))
  exact h.map (fun (p : Int × Int × Unit) => (⟨p.1, p.2.1⟩ : Wide)) (fun _ _ => rfl) (fun _ h => h) (fun _ _ => Nat.le_refl _)

end Go.Av