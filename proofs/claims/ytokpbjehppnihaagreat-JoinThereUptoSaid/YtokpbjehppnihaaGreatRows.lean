/-
  No cell of these rows narrows 'for every input' (looked for: loops, veiled, ifaces, maps, wideKeys, modest, calm, conditions, laid).
  DERIVED. THE GIVEN ROWS OF THIS SEAT. 6 by the template 'for every input the law returns true; each argument reads behind the call as it read before'; 0 by the template 'total and deterministic' (their statements: YtokpbjehppnihaaGreatTotals.lean).
  GIVEN WITH THE SEED: the statements are not yours to turn. If you find one false, say at which input.
  Laid BY PROGRAM, IN A SANDBOX (cutbox-rows.mjs): the forced cells as the released guide's own fill.sh prints them over the translation f7ff958c9df4a06b… (all of the seat's roots in one cut). By AI agents, Wed Nov 11 2026. No macro, syntax, notation, axiom, sorry.
-/
import Derived.Test.YtokpbjehppnihaaGreatChecked
import GoSem.Claim
import GoSem.ClaimJoined
import GoSem.ClaimMapViews
import Derived.JoinedTies
import Derived.KernelRfl
namespace Go.Proofs.YtokpbjehppnihaaGreat
/- THE CELL 'sum', in the pinned program and in every row, IS THE sha256 OF THE DUMP (.gsa) THAT YtokpbjehppnihaaGreatProg.lean LOADS. Nothing in Lean hashes anything: it is a label: what it is worth is what the hold of that sum in a sandbox is worth. -/
noncomputable def Tryz.pinned : Pinned := { name := "ytokpbjehppnihaagreat", sum := "f7ff958c9df4a06b2a3fddc369ded46ab7ef9885436f06ac371f314faee1583c", checked := Tryz.checked }
namespace Rows
def none {H : Type} : Left H := { results := [], args := [] }

/-- 'freshetlaw12.JoinPairs': WHATEVER THE INPUT: true; the input reads as it did. -/
def joinPairsSpec : ChangeSpec := { name := "joinPairs", fn := fun _ => fun
  | [d1, d2] => { results := [.lit (.bool true)], args := [d1, d2] }
  | _ => none }
def joinPairsRow : OpenClaim := { program := "ytokpbjehppnihaagreat", sum := "f7ff958c9df4a06b2a3fddc369ded46ab7ef9885436f06ac371f314faee1583c", func := "freshet/freshetlaw12.JoinPairs", spec := "joinPairs", inPlace := ["math/bits.Add64", "slices.overlaps[freshet/api.Level]"], unfollowed := true, recurses := true, apart := false }
def JoinPairsSaid : Prop := joinPairsRow.holds Tryz.pinned (OpenSpec.ofChange joinPairsSpec)

/-- ITS FALSE NEIGHBOUR: 'it returns false'. Refute it at one input. -/
def joinPairsWrong : ChangeSpec := { name := "joinPairs", fn := fun _ => fun
  | [d1, d2] => { results := [.lit (.bool false)], args := [d1, d2] }
  | _ => none }
def JoinPairsWrongFalsely : Prop := joinPairsRow.holds Tryz.pinned (OpenSpec.ofChange joinPairsWrong)

/-- 'freshetlaw12.JoinSteps': WHATEVER THE INPUT: true; the input reads as it did. -/
def joinStepsSpec : ChangeSpec := { name := "joinSteps", fn := fun _ => fun
  | [d1, d2, d3, d4] => { results := [.lit (.bool true)], args := [d1, d2, d3, d4] }
  | _ => none }
def joinStepsRow : OpenClaim := { program := "ytokpbjehppnihaagreat", sum := "f7ff958c9df4a06b2a3fddc369ded46ab7ef9885436f06ac371f314faee1583c", func := "freshet/freshetlaw12.JoinSteps", spec := "joinSteps", inPlace := ["math/bits.Add64", "slices.overlaps[freshet/api.Level]"], unfollowed := true, recurses := true, apart := false }
def JoinStepsSaid : Prop := joinStepsRow.holds Tryz.pinned (OpenSpec.ofChange joinStepsSpec)

/-- ITS FALSE NEIGHBOUR: 'it returns false'. Refute it at one input. -/
def joinStepsWrong : ChangeSpec := { name := "joinSteps", fn := fun _ => fun
  | [d1, d2, d3, d4] => { results := [.lit (.bool false)], args := [d1, d2, d3, d4] }
  | _ => none }
def JoinStepsWrongFalsely : Prop := joinStepsRow.holds Tryz.pinned (OpenSpec.ofChange joinStepsWrong)

/-- 'freshetlaw12.JoinOrder': WHATEVER THE INPUT: true; the input reads as it did. -/
def joinOrderSpec : ChangeSpec := { name := "joinOrder", fn := fun _ => fun
  | [d] => { results := [.lit (.bool true)], args := [d] }
  | _ => none }
def joinOrderRow : OpenClaim := { program := "ytokpbjehppnihaagreat", sum := "f7ff958c9df4a06b2a3fddc369ded46ab7ef9885436f06ac371f314faee1583c", func := "freshet/freshetlaw12.JoinOrder", spec := "joinOrder", inPlace := ["math/bits.Add64", "slices.overlaps[freshet/api.Level]"], unfollowed := true, recurses := true, apart := false }
def JoinOrderSaid : Prop := joinOrderRow.holds Tryz.pinned (OpenSpec.ofChange joinOrderSpec)

/-- ITS FALSE NEIGHBOUR: 'it returns false'. Refute it at one input. -/
def joinOrderWrong : ChangeSpec := { name := "joinOrder", fn := fun _ => fun
  | [d] => { results := [.lit (.bool false)], args := [d] }
  | _ => none }
def JoinOrderWrongFalsely : Prop := joinOrderRow.holds Tryz.pinned (OpenSpec.ofChange joinOrderWrong)

/-- 'freshetlaw12.JoinParts': WHATEVER THE INPUT: true; the input reads as it did. -/
def joinPartsSpec : ChangeSpec := { name := "joinParts", fn := fun _ => fun
  | [d1, d2, d3] => { results := [.lit (.bool true)], args := [d1, d2, d3] }
  | _ => none }
def joinPartsRow : OpenClaim := { program := "ytokpbjehppnihaagreat", sum := "f7ff958c9df4a06b2a3fddc369ded46ab7ef9885436f06ac371f314faee1583c", func := "freshet/freshetlaw12.JoinParts", spec := "joinParts", inPlace := ["math/bits.Add64", "slices.overlaps[freshet/api.Level]"], unfollowed := true, recurses := true, apart := false }
def JoinPartsSaid : Prop := joinPartsRow.holds Tryz.pinned (OpenSpec.ofChange joinPartsSpec)

/-- ITS FALSE NEIGHBOUR: 'it returns false'. Refute it at one input. -/
def joinPartsWrong : ChangeSpec := { name := "joinParts", fn := fun _ => fun
  | [d1, d2, d3] => { results := [.lit (.bool false)], args := [d1, d2, d3] }
  | _ => none }
def JoinPartsWrongFalsely : Prop := joinPartsRow.holds Tryz.pinned (OpenSpec.ofChange joinPartsWrong)

/-- 'freshetlaw12.JoinCompacted': WHATEVER THE INPUT: true; the input reads as it did. -/
def joinCompactedSpec : ChangeSpec := { name := "joinCompacted", fn := fun _ => fun
  | [d1, d2, d3, d4, d5] => { results := [.lit (.bool true)], args := [d1, d2, d3, d4, d5] }
  | _ => none }
def joinCompactedRow : OpenClaim := { program := "ytokpbjehppnihaagreat", sum := "f7ff958c9df4a06b2a3fddc369ded46ab7ef9885436f06ac371f314faee1583c", func := "freshet/freshetlaw12.JoinCompacted", spec := "joinCompacted", inPlace := ["math/bits.Add64", "slices.overlaps[freshet/api.Level]"], unfollowed := true, recurses := true, apart := false }
def JoinCompactedSaid : Prop := joinCompactedRow.holds Tryz.pinned (OpenSpec.ofChange joinCompactedSpec)

/-- ITS FALSE NEIGHBOUR: 'it returns false'. Refute it at one input. -/
def joinCompactedWrong : ChangeSpec := { name := "joinCompacted", fn := fun _ => fun
  | [d1, d2, d3, d4, d5] => { results := [.lit (.bool false)], args := [d1, d2, d3, d4, d5] }
  | _ => none }
def JoinCompactedWrongFalsely : Prop := joinCompactedRow.holds Tryz.pinned (OpenSpec.ofChange joinCompactedWrong)

/-- 'freshetlaw12.JoinThere': WHATEVER THE INPUT: true; the input reads as it did. -/
def joinThereSpec : ChangeSpec := { name := "joinThere", fn := fun _ => fun
  | [d1, d2, d3] => { results := [.lit (.bool true)], args := [d1, d2, d3] }
  | _ => none }
def joinThereRow : OpenClaim := { program := "ytokpbjehppnihaagreat", sum := "f7ff958c9df4a06b2a3fddc369ded46ab7ef9885436f06ac371f314faee1583c", func := "freshet/freshetlaw12.JoinThere", spec := "joinThere", inPlace := ["math/bits.Add64", "slices.overlaps[freshet/api.Level]"], unfollowed := true, recurses := true, apart := false }
def JoinThereSaid : Prop := joinThereRow.holds Tryz.pinned (OpenSpec.ofChange joinThereSpec)

/-- ITS FALSE NEIGHBOUR: 'it returns false'. Refute it at one input. -/
def joinThereWrong : ChangeSpec := { name := "joinThere", fn := fun _ => fun
  | [d1, d2, d3] => { results := [.lit (.bool false)], args := [d1, d2, d3] }
  | _ => none }
def JoinThereWrongFalsely : Prop := joinThereRow.holds Tryz.pinned (OpenSpec.ofChange joinThereWrong)

/- THE SECOND FORM. 'bulk': how many values and letters a reading holds, each counted each time it is reached (what is shared counts as often as it is met; a slice's spare places count too). A statement '..UptoSaid' is the law's where the arguments, and the package variables that the reading takes, are together of bulk at most 1048576: NARROWER than '..Said'. Prove '..Said' where nothing that the law and all that it calls make is longer than what came in: it says more and counts as full. Else prove '..UptoSaid'. A law counts once. -/
mutual
def uptoBulk {H : Type} : DataW H → Nat
  | .lit (.string bytes) => bytes.length + 1
  | .lit _ => 1
  | .nil => 1
  | .ptr d => uptoBulk d + 1
  | .slice elems spare => uptoBulkAll elems + uptoBulkAll spare + 1
  | .agg parts => uptoBulkAll parts + 1
  | .iface _ d => uptoBulk d + 1
  | .map entries => uptoBulkEntries entries + 1
  | .held _ => 1
def uptoBulkAll {H : Type} : List (DataW H) → Nat
  | [] => 0
  | d :: r => uptoBulk d + uptoBulkAll r
def uptoBulkEntries {H : Type} : List (Lit × DataW H) → Nat
  | [] => 0
  | x :: r => uptoBulkEntry x + uptoBulkEntries r
def uptoBulkEntry {H : Type} : Lit × DataW H → Nat
  | (.string bytes, d) => bytes.length + uptoBulk d + 1
  | (_, d) => uptoBulk d + 1
 end
def uptoSmall : (H : Type) → List (DataW H) → Bool := fun _ ds => decide (uptoBulkAll ds ≤ 1048576)
def OpenSpec.upto (s : _root_.Go.ChangeSpec) : _root_.Go.OpenSpec := { _root_.Go.OpenSpec.ofChange s with cond := some uptoSmall }

/-- 'freshetlaw12.JoinPairs', WHERE WHAT IT READS IS OF BULK AT MOST 1048576: true; the input reads as it did. -/
def joinPairsUptoRow : OpenClaim := { program := "ytokpbjehppnihaagreat", sum := "f7ff958c9df4a06b2a3fddc369ded46ab7ef9885436f06ac371f314faee1583c", func := "freshet/freshetlaw12.JoinPairs", spec := "joinPairs", inPlace := ["math/bits.Add64", "slices.overlaps[freshet/api.Level]"], unfollowed := true, recurses := true, apart := false, narrowed := true }
def JoinPairsUptoSaid : Prop := joinPairsUptoRow.holds Tryz.pinned (OpenSpec.upto joinPairsSpec)

/-- 'freshetlaw12.JoinSteps', WHERE WHAT IT READS IS OF BULK AT MOST 1048576: true; the input reads as it did. -/
def joinStepsUptoRow : OpenClaim := { program := "ytokpbjehppnihaagreat", sum := "f7ff958c9df4a06b2a3fddc369ded46ab7ef9885436f06ac371f314faee1583c", func := "freshet/freshetlaw12.JoinSteps", spec := "joinSteps", inPlace := ["math/bits.Add64", "slices.overlaps[freshet/api.Level]"], unfollowed := true, recurses := true, apart := false, narrowed := true }
def JoinStepsUptoSaid : Prop := joinStepsUptoRow.holds Tryz.pinned (OpenSpec.upto joinStepsSpec)

/-- 'freshetlaw12.JoinOrder', WHERE WHAT IT READS IS OF BULK AT MOST 1048576: true; the input reads as it did. -/
def joinOrderUptoRow : OpenClaim := { program := "ytokpbjehppnihaagreat", sum := "f7ff958c9df4a06b2a3fddc369ded46ab7ef9885436f06ac371f314faee1583c", func := "freshet/freshetlaw12.JoinOrder", spec := "joinOrder", inPlace := ["math/bits.Add64", "slices.overlaps[freshet/api.Level]"], unfollowed := true, recurses := true, apart := false, narrowed := true }
def JoinOrderUptoSaid : Prop := joinOrderUptoRow.holds Tryz.pinned (OpenSpec.upto joinOrderSpec)

/-- 'freshetlaw12.JoinParts', WHERE WHAT IT READS IS OF BULK AT MOST 1048576: true; the input reads as it did. -/
def joinPartsUptoRow : OpenClaim := { program := "ytokpbjehppnihaagreat", sum := "f7ff958c9df4a06b2a3fddc369ded46ab7ef9885436f06ac371f314faee1583c", func := "freshet/freshetlaw12.JoinParts", spec := "joinParts", inPlace := ["math/bits.Add64", "slices.overlaps[freshet/api.Level]"], unfollowed := true, recurses := true, apart := false, narrowed := true }
def JoinPartsUptoSaid : Prop := joinPartsUptoRow.holds Tryz.pinned (OpenSpec.upto joinPartsSpec)

/-- 'freshetlaw12.JoinCompacted', WHERE WHAT IT READS IS OF BULK AT MOST 1048576: true; the input reads as it did. -/
def joinCompactedUptoRow : OpenClaim := { program := "ytokpbjehppnihaagreat", sum := "f7ff958c9df4a06b2a3fddc369ded46ab7ef9885436f06ac371f314faee1583c", func := "freshet/freshetlaw12.JoinCompacted", spec := "joinCompacted", inPlace := ["math/bits.Add64", "slices.overlaps[freshet/api.Level]"], unfollowed := true, recurses := true, apart := false, narrowed := true }
def JoinCompactedUptoSaid : Prop := joinCompactedUptoRow.holds Tryz.pinned (OpenSpec.upto joinCompactedSpec)

/-- 'freshetlaw12.JoinThere', WHERE WHAT IT READS IS OF BULK AT MOST 1048576: true; the input reads as it did. -/
def joinThereUptoRow : OpenClaim := { program := "ytokpbjehppnihaagreat", sum := "f7ff958c9df4a06b2a3fddc369ded46ab7ef9885436f06ac371f314faee1583c", func := "freshet/freshetlaw12.JoinThere", spec := "joinThere", inPlace := ["math/bits.Add64", "slices.overlaps[freshet/api.Level]"], unfollowed := true, recurses := true, apart := false, narrowed := true }
def JoinThereUptoSaid : Prop := joinThereUptoRow.holds Tryz.pinned (OpenSpec.upto joinThereSpec)

end Rows
end Go.Proofs.YtokpbjehppnihaaGreat
