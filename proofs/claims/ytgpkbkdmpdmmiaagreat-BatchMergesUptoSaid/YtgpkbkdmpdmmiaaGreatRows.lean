/-
  No cell of these rows narrows 'for every input' (looked for: loops, veiled, ifaces, maps, wideKeys, modest, calm, conditions, laid).
  DERIVED. THE GIVEN ROWS OF THIS SEAT. 8 by the template 'for every input the law returns true; each argument reads behind the call as it read before'; 0 by the template 'total and deterministic' (their statements: YtgpkbkdmpdmmiaaGreatTotals.lean).
  GIVEN WITH THE SEED: the statements are not yours to turn. If you find one false, say at which input.
  Laid BY PROGRAM, IN A SANDBOX (cutbox-rows.mjs): the forced cells as the released guide's own fill.sh prints them over the translation cb0494bb2920f579… (all of the seat's roots in one cut). By AI agents, Wed Nov 11 2026. No macro, syntax, notation, axiom, sorry.
-/
import Derived.Test.YtgpkbkdmpdmmiaaGreatChecked
import GoSem.Claim
import GoSem.ClaimJoined
import GoSem.ClaimMapViews
import Derived.JoinedTies
import Derived.KernelRfl
namespace Go.Proofs.YtgpkbkdmpdmmiaaGreat
/- THE CELL 'sum', in the pinned program and in every row, IS THE sha256 OF THE DUMP (.gsa) THAT YtgpkbkdmpdmmiaaGreatProg.lean LOADS. Nothing in Lean hashes anything: it is a label: what it is worth is what the hold of that sum in a sandbox is worth. -/
noncomputable def Tryz.pinned : Pinned := { name := "ytgpkbkdmpdmmiaagreat", sum := "cb0494bb2920f5794b8eb327b7532d2249d86cd75779778cde8c4603422d92d2", checked := Tryz.checked }
namespace Rows
def none {H : Type} : Left H := { results := [], args := [] }

/-- 'freshetlaw06.BatchBuilds': WHATEVER THE INPUT: true; the input reads as it did. -/
def batchBuildsSpec : ChangeSpec := { name := "batchBuilds", fn := fun _ => fun
  | [d1, d2, d3, d4] => { results := [.lit (.bool true)], args := [d1, d2, d3, d4] }
  | _ => none }
def batchBuildsRow : OpenClaim := { program := "ytgpkbkdmpdmmiaagreat", sum := "cb0494bb2920f5794b8eb327b7532d2249d86cd75779778cde8c4603422d92d2", func := "freshet/freshetlaw06.BatchBuilds", spec := "batchBuilds", inPlace := ["math/bits.Add64"], unfollowed := true, recurses := true, apart := false }
def BatchBuildsSaid : Prop := batchBuildsRow.holds Tryz.pinned (OpenSpec.ofChange batchBuildsSpec)

/-- ITS FALSE NEIGHBOUR: 'it returns false'. Refute it at one input. -/
def batchBuildsWrong : ChangeSpec := { name := "batchBuilds", fn := fun _ => fun
  | [d1, d2, d3, d4] => { results := [.lit (.bool false)], args := [d1, d2, d3, d4] }
  | _ => none }
def BatchBuildsWrongFalsely : Prop := batchBuildsRow.holds Tryz.pinned (OpenSpec.ofChange batchBuildsWrong)

/-- 'freshetlaw06.BatchMerges': WHATEVER THE INPUT: true; the input reads as it did. -/
def batchMergesSpec : ChangeSpec := { name := "batchMerges", fn := fun _ => fun
  | [d1, d2, d3, d4, d5] => { results := [.lit (.bool true)], args := [d1, d2, d3, d4, d5] }
  | _ => none }
def batchMergesRow : OpenClaim := { program := "ytgpkbkdmpdmmiaagreat", sum := "cb0494bb2920f5794b8eb327b7532d2249d86cd75779778cde8c4603422d92d2", func := "freshet/freshetlaw06.BatchMerges", spec := "batchMerges", inPlace := ["math/bits.Add64"], unfollowed := true, recurses := true, apart := false }
def BatchMergesSaid : Prop := batchMergesRow.holds Tryz.pinned (OpenSpec.ofChange batchMergesSpec)

/-- ITS FALSE NEIGHBOUR: 'it returns false'. Refute it at one input. -/
def batchMergesWrong : ChangeSpec := { name := "batchMerges", fn := fun _ => fun
  | [d1, d2, d3, d4, d5] => { results := [.lit (.bool false)], args := [d1, d2, d3, d4, d5] }
  | _ => none }
def BatchMergesWrongFalsely : Prop := batchMergesRow.holds Tryz.pinned (OpenSpec.ofChange batchMergesWrong)

/-- 'freshetlaw06.BatchSteps': WHATEVER THE INPUT: true; the input reads as it did. -/
def batchStepsSpec : ChangeSpec := { name := "batchSteps", fn := fun _ => fun
  | [d1, d2, d3, d4] => { results := [.lit (.bool true)], args := [d1, d2, d3, d4] }
  | _ => none }
def batchStepsRow : OpenClaim := { program := "ytgpkbkdmpdmmiaagreat", sum := "cb0494bb2920f5794b8eb327b7532d2249d86cd75779778cde8c4603422d92d2", func := "freshet/freshetlaw06.BatchSteps", spec := "batchSteps", inPlace := ["math/bits.Add64"], unfollowed := true, recurses := true, apart := false }
def BatchStepsSaid : Prop := batchStepsRow.holds Tryz.pinned (OpenSpec.ofChange batchStepsSpec)

/-- ITS FALSE NEIGHBOUR: 'it returns false'. Refute it at one input. -/
def batchStepsWrong : ChangeSpec := { name := "batchSteps", fn := fun _ => fun
  | [d1, d2, d3, d4] => { results := [.lit (.bool false)], args := [d1, d2, d3, d4] }
  | _ => none }
def BatchStepsWrongFalsely : Prop := batchStepsRow.holds Tryz.pinned (OpenSpec.ofChange batchStepsWrong)

/-- 'freshetlaw06.BatchTwice': WHATEVER THE INPUT: true; the input reads as it did. -/
def batchTwiceSpec : ChangeSpec := { name := "batchTwice", fn := fun _ => fun
  | [d1, d2] => { results := [.lit (.bool true)], args := [d1, d2] }
  | _ => none }
def batchTwiceRow : OpenClaim := { program := "ytgpkbkdmpdmmiaagreat", sum := "cb0494bb2920f5794b8eb327b7532d2249d86cd75779778cde8c4603422d92d2", func := "freshet/freshetlaw06.BatchTwice", spec := "batchTwice", inPlace := ["math/bits.Add64"], unfollowed := true, recurses := true, apart := false }
def BatchTwiceSaid : Prop := batchTwiceRow.holds Tryz.pinned (OpenSpec.ofChange batchTwiceSpec)

/-- ITS FALSE NEIGHBOUR: 'it returns false'. Refute it at one input. -/
def batchTwiceWrong : ChangeSpec := { name := "batchTwice", fn := fun _ => fun
  | [d1, d2] => { results := [.lit (.bool false)], args := [d1, d2] }
  | _ => none }
def BatchTwiceWrongFalsely : Prop := batchTwiceRow.holds Tryz.pinned (OpenSpec.ofChange batchTwiceWrong)

/-- 'freshetlaw06.BatchOwn': WHATEVER THE INPUT: true; the input reads as it did. -/
def batchOwnSpec : ChangeSpec := { name := "batchOwn", fn := fun _ => fun
  | [d1, d2] => { results := [.lit (.bool true)], args := [d1, d2] }
  | _ => none }
def batchOwnRow : OpenClaim := { program := "ytgpkbkdmpdmmiaagreat", sum := "cb0494bb2920f5794b8eb327b7532d2249d86cd75779778cde8c4603422d92d2", func := "freshet/freshetlaw06.BatchOwn", spec := "batchOwn", inPlace := ["math/bits.Add64"], unfollowed := true, recurses := true, apart := false }
def BatchOwnSaid : Prop := batchOwnRow.holds Tryz.pinned (OpenSpec.ofChange batchOwnSpec)

/-- ITS FALSE NEIGHBOUR: 'it returns false'. Refute it at one input. -/
def batchOwnWrong : ChangeSpec := { name := "batchOwn", fn := fun _ => fun
  | [d1, d2] => { results := [.lit (.bool false)], args := [d1, d2] }
  | _ => none }
def BatchOwnWrongFalsely : Prop := batchOwnRow.holds Tryz.pinned (OpenSpec.ofChange batchOwnWrong)

/-- 'freshetlaw06.BatchThere': WHATEVER THE INPUT: true; the input reads as it did. -/
def batchThereSpec : ChangeSpec := { name := "batchThere", fn := fun _ => fun
  | [d1, d2, d3] => { results := [.lit (.bool true)], args := [d1, d2, d3] }
  | _ => none }
def batchThereRow : OpenClaim := { program := "ytgpkbkdmpdmmiaagreat", sum := "cb0494bb2920f5794b8eb327b7532d2249d86cd75779778cde8c4603422d92d2", func := "freshet/freshetlaw06.BatchThere", spec := "batchThere", inPlace := ["math/bits.Add64"], unfollowed := true, recurses := true, apart := false }
def BatchThereSaid : Prop := batchThereRow.holds Tryz.pinned (OpenSpec.ofChange batchThereSpec)

/-- ITS FALSE NEIGHBOUR: 'it returns false'. Refute it at one input. -/
def batchThereWrong : ChangeSpec := { name := "batchThere", fn := fun _ => fun
  | [d1, d2, d3] => { results := [.lit (.bool false)], args := [d1, d2, d3] }
  | _ => none }
def BatchThereWrongFalsely : Prop := batchThereRow.holds Tryz.pinned (OpenSpec.ofChange batchThereWrong)

/-- 'freshetlaw06.BatchAsks': WHATEVER THE INPUT: true; the input reads as it did. -/
def batchAsksSpec : ChangeSpec := { name := "batchAsks", fn := fun _ => fun
  | [d1, d2] => { results := [.lit (.bool true)], args := [d1, d2] }
  | _ => none }
def batchAsksRow : OpenClaim := { program := "ytgpkbkdmpdmmiaagreat", sum := "cb0494bb2920f5794b8eb327b7532d2249d86cd75779778cde8c4603422d92d2", func := "freshet/freshetlaw06.BatchAsks", spec := "batchAsks", inPlace := ["math/bits.Add64"], unfollowed := true, recurses := true, apart := false }
def BatchAsksSaid : Prop := batchAsksRow.holds Tryz.pinned (OpenSpec.ofChange batchAsksSpec)

/-- ITS FALSE NEIGHBOUR: 'it returns false'. Refute it at one input. -/
def batchAsksWrong : ChangeSpec := { name := "batchAsks", fn := fun _ => fun
  | [d1, d2] => { results := [.lit (.bool false)], args := [d1, d2] }
  | _ => none }
def BatchAsksWrongFalsely : Prop := batchAsksRow.holds Tryz.pinned (OpenSpec.ofChange batchAsksWrong)

/-- 'freshetlaw06.BatchGroups': WHATEVER THE INPUT: true; the input reads as it did. -/
def batchGroupsSpec : ChangeSpec := { name := "batchGroups", fn := fun _ => fun
  | [d1, d2] => { results := [.lit (.bool true)], args := [d1, d2] }
  | _ => none }
def batchGroupsRow : OpenClaim := { program := "ytgpkbkdmpdmmiaagreat", sum := "cb0494bb2920f5794b8eb327b7532d2249d86cd75779778cde8c4603422d92d2", func := "freshet/freshetlaw06.BatchGroups", spec := "batchGroups", inPlace := ["math/bits.Add64"], unfollowed := true, recurses := true, apart := false }
def BatchGroupsSaid : Prop := batchGroupsRow.holds Tryz.pinned (OpenSpec.ofChange batchGroupsSpec)

/-- ITS FALSE NEIGHBOUR: 'it returns false'. Refute it at one input. -/
def batchGroupsWrong : ChangeSpec := { name := "batchGroups", fn := fun _ => fun
  | [d1, d2] => { results := [.lit (.bool false)], args := [d1, d2] }
  | _ => none }
def BatchGroupsWrongFalsely : Prop := batchGroupsRow.holds Tryz.pinned (OpenSpec.ofChange batchGroupsWrong)

/- THE SECOND FORM. 'bulk': how many values and letters a reading holds, each counted each time it is reached (what is shared counts as often as it is met; a slice's spare places count too). A statement '..UptoSaid' is the law's where the arguments, and the package variables that the reading takes, are together of bulk at most 1048576: NARROWER than '..Said'. Prove '..Said' where nothing that the law and all that it calls make is longer than what came in: it says more and counts as full. Else prove '..UptoSaid'. A law counts once. -/
mutual
def uptoBulk {H : Type} : DataW H → Nat
  | .lit (.string bytes) => bytes.length + 1
  | .lit _ => 1
  | .nil => 1
  | .ptr d => uptoBulk d + 1
  | .slice elems spare => uptoBulkAll elems + uptoBulkAll spare + 1
  | .agg parts => uptoBulkAll parts + 1
  | .iface _ d => uptoBulk d + 1
  | .map entries => uptoBulkEntries entries + 1
  | .held _ => 1
def uptoBulkAll {H : Type} : List (DataW H) → Nat
  | [] => 0
  | d :: r => uptoBulk d + uptoBulkAll r
def uptoBulkEntries {H : Type} : List (Lit × DataW H) → Nat
  | [] => 0
  | x :: r => uptoBulkEntry x + uptoBulkEntries r
def uptoBulkEntry {H : Type} : Lit × DataW H → Nat
  | (.string bytes, d) => bytes.length + uptoBulk d + 1
  | (_, d) => uptoBulk d + 1
 end
def uptoSmall : (H : Type) → List (DataW H) → Bool := fun _ ds => decide (uptoBulkAll ds ≤ 1048576)
def OpenSpec.upto (s : _root_.Go.ChangeSpec) : _root_.Go.OpenSpec := { _root_.Go.OpenSpec.ofChange s with cond := some uptoSmall }

/-- 'freshetlaw06.BatchBuilds', WHERE WHAT IT READS IS OF BULK AT MOST 1048576: true; the input reads as it did. -/
def batchBuildsUptoRow : OpenClaim := { program := "ytgpkbkdmpdmmiaagreat", sum := "cb0494bb2920f5794b8eb327b7532d2249d86cd75779778cde8c4603422d92d2", func := "freshet/freshetlaw06.BatchBuilds", spec := "batchBuilds", inPlace := ["math/bits.Add64"], unfollowed := true, recurses := true, apart := false, narrowed := true }
def BatchBuildsUptoSaid : Prop := batchBuildsUptoRow.holds Tryz.pinned (OpenSpec.upto batchBuildsSpec)

/-- 'freshetlaw06.BatchMerges', WHERE WHAT IT READS IS OF BULK AT MOST 1048576: true; the input reads as it did. -/
def batchMergesUptoRow : OpenClaim := { program := "ytgpkbkdmpdmmiaagreat", sum := "cb0494bb2920f5794b8eb327b7532d2249d86cd75779778cde8c4603422d92d2", func := "freshet/freshetlaw06.BatchMerges", spec := "batchMerges", inPlace := ["math/bits.Add64"], unfollowed := true, recurses := true, apart := false, narrowed := true }
def BatchMergesUptoSaid : Prop := batchMergesUptoRow.holds Tryz.pinned (OpenSpec.upto batchMergesSpec)

/-- 'freshetlaw06.BatchSteps', WHERE WHAT IT READS IS OF BULK AT MOST 1048576: true; the input reads as it did. -/
def batchStepsUptoRow : OpenClaim := { program := "ytgpkbkdmpdmmiaagreat", sum := "cb0494bb2920f5794b8eb327b7532d2249d86cd75779778cde8c4603422d92d2", func := "freshet/freshetlaw06.BatchSteps", spec := "batchSteps", inPlace := ["math/bits.Add64"], unfollowed := true, recurses := true, apart := false, narrowed := true }
def BatchStepsUptoSaid : Prop := batchStepsUptoRow.holds Tryz.pinned (OpenSpec.upto batchStepsSpec)

/-- 'freshetlaw06.BatchTwice', WHERE WHAT IT READS IS OF BULK AT MOST 1048576: true; the input reads as it did. -/
def batchTwiceUptoRow : OpenClaim := { program := "ytgpkbkdmpdmmiaagreat", sum := "cb0494bb2920f5794b8eb327b7532d2249d86cd75779778cde8c4603422d92d2", func := "freshet/freshetlaw06.BatchTwice", spec := "batchTwice", inPlace := ["math/bits.Add64"], unfollowed := true, recurses := true, apart := false, narrowed := true }
def BatchTwiceUptoSaid : Prop := batchTwiceUptoRow.holds Tryz.pinned (OpenSpec.upto batchTwiceSpec)

/-- 'freshetlaw06.BatchOwn', WHERE WHAT IT READS IS OF BULK AT MOST 1048576: true; the input reads as it did. -/
def batchOwnUptoRow : OpenClaim := { program := "ytgpkbkdmpdmmiaagreat", sum := "cb0494bb2920f5794b8eb327b7532d2249d86cd75779778cde8c4603422d92d2", func := "freshet/freshetlaw06.BatchOwn", spec := "batchOwn", inPlace := ["math/bits.Add64"], unfollowed := true, recurses := true, apart := false, narrowed := true }
def BatchOwnUptoSaid : Prop := batchOwnUptoRow.holds Tryz.pinned (OpenSpec.upto batchOwnSpec)

/-- 'freshetlaw06.BatchThere', WHERE WHAT IT READS IS OF BULK AT MOST 1048576: true; the input reads as it did. -/
def batchThereUptoRow : OpenClaim := { program := "ytgpkbkdmpdmmiaagreat", sum := "cb0494bb2920f5794b8eb327b7532d2249d86cd75779778cde8c4603422d92d2", func := "freshet/freshetlaw06.BatchThere", spec := "batchThere", inPlace := ["math/bits.Add64"], unfollowed := true, recurses := true, apart := false, narrowed := true }
def BatchThereUptoSaid : Prop := batchThereUptoRow.holds Tryz.pinned (OpenSpec.upto batchThereSpec)

/-- 'freshetlaw06.BatchAsks', WHERE WHAT IT READS IS OF BULK AT MOST 1048576: true; the input reads as it did. -/
def batchAsksUptoRow : OpenClaim := { program := "ytgpkbkdmpdmmiaagreat", sum := "cb0494bb2920f5794b8eb327b7532d2249d86cd75779778cde8c4603422d92d2", func := "freshet/freshetlaw06.BatchAsks", spec := "batchAsks", inPlace := ["math/bits.Add64"], unfollowed := true, recurses := true, apart := false, narrowed := true }
def BatchAsksUptoSaid : Prop := batchAsksUptoRow.holds Tryz.pinned (OpenSpec.upto batchAsksSpec)

/-- 'freshetlaw06.BatchGroups', WHERE WHAT IT READS IS OF BULK AT MOST 1048576: true; the input reads as it did. -/
def batchGroupsUptoRow : OpenClaim := { program := "ytgpkbkdmpdmmiaagreat", sum := "cb0494bb2920f5794b8eb327b7532d2249d86cd75779778cde8c4603422d92d2", func := "freshet/freshetlaw06.BatchGroups", spec := "batchGroups", inPlace := ["math/bits.Add64"], unfollowed := true, recurses := true, apart := false, narrowed := true }
def BatchGroupsUptoSaid : Prop := batchGroupsUptoRow.holds Tryz.pinned (OpenSpec.upto batchGroupsSpec)

end Rows
end Go.Proofs.YtgpkbkdmpdmmiaaGreat
