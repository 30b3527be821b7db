import Derived.Test.YtcfbbbmnfloflaaN3p
import Derived.Test.YtcfbbbmnfloflaaProg
namespace Go.Av
open Go Go.Proofs
set_option linter.unusedVariables false
set_option linter.unusedSimpArgs false

def okValue (x : Value) : Prop := (fun _ => True) x.isText ∧ (okInt .i64) x.n ∧ (fun s => s.size ≤ maxN) x.s ∧ True

def bulkValue (x : Value) : Nat := ((fun _ => 1) x.isText + ((fun _ => 1) x.n + ((fun s => s.size + 1) x.s + 0))) + 1

theorem readsValue {H : Type} {enc : TypeId × Go.Value → H} {W : World} {Z : TypeId → DataW H → Prop} {B : DataW H → Nat} (hZ : Fine Try.prog Z) (hB : BulkOk B) : Reads enc Try.prog W Z B 27 encValue okValue bulkValue := fun n => by
  have h := ReadsAt.struct (n := n) (enc := enc) (W := W) (tot := 3) hZ hB Try.underlying27 (by kernel_rfl) (fun m _ => (ReadsF.cons (k := 1) (ReadsAt.bool hB Try.underlying4) rfl (by kernel_rfl) (ReadsF.cons (k := 1) (ReadsAt.int hB Try.underlying2) rfl (by kernel_rfl) (ReadsF.cons (k := 1) (ReadsAt.string hZ hB Try.underlying9) rfl (by kernel_rfl) (ReadsF.nil (off := 3))))))
  exact h.map (fun (p : Bool × Int × ByteArray × Unit) => (⟨p.1, p.2.1, p.2.2.1⟩ : Value)) (fun _ _ => rfl) (fun _ h => h) (fun _ _ => Nat.le_refl _)

end Go.Av