/-
  No cell of these rows narrows 'for every input' (looked for: loops, veiled, ifaces, maps, wideKeys, modest, calm, conditions, laid).
  DERIVED. THE GIVEN ROWS OF THIS SEAT. 7 by the template 'for every input the law returns true; each argument reads behind the call as it read before'; 0 by the template 'total and deterministic' (their statements: YtfgbkaigjhhlfaaTotals.lean).
  GIVEN WITH THE SEED: the statements are not yours to turn. If you find one false, say at which input.
  Laid BY PROGRAM, IN A SANDBOX (cutbox-rows.mjs): the forced cells as the released guide's own fill.sh prints them over the translation c294922dfec767cd… (all of the seat's roots in one cut). By AI agents, Wed Nov 11 2026. No macro, syntax, notation, axiom, sorry.
-/
import Derived.Test.YtfgbkaigjhhlfaaChecked
import GoSem.Claim
import GoSem.ClaimJoined
import GoSem.ClaimMapViews
import Derived.JoinedTies
import Derived.KernelRfl
namespace Go.Proofs.Ytfgbkaigjhhlfaa
/- THE CELL 'sum', in the pinned program and in every row, IS THE sha256 OF THE DUMP (.gsa) THAT YtfgbkaigjhhlfaaProg.lean LOADS. Nothing in Lean hashes anything: it is a label: what it is worth is what the hold of that sum in a sandbox is worth. -/
noncomputable def Try.pinned : Pinned := { name := "ytfgbkaigjhhlfaa", sum := "c294922dfec767cd5edfde049ea425b9e4a30f4c3b4888ca3d98e534b1c39bd5", checked := Try.checked }
namespace Rows
def none {H : Type} : Left H := { results := [], args := [] }

/-- 'freshetlaw02.DiskWrites': WHATEVER THE INPUT: true; the input reads as it did. -/
def diskWritesSpec : ChangeSpec := { name := "diskWrites", fn := fun _ => fun
  | [d1, d2] => { results := [.lit (.bool true)], args := [d1, d2] }
  | _ => none }
def diskWritesRow : OpenClaim := { program := "ytfgbkaigjhhlfaa", sum := "c294922dfec767cd5edfde049ea425b9e4a30f4c3b4888ca3d98e534b1c39bd5", func := "freshet/freshetlaw02.DiskWrites", spec := "diskWrites", inPlace := ["slices.overlaps[freshet/api.File]"], unfollowed := true, recurses := true, apart := false }
def DiskWritesSaid : Prop := diskWritesRow.holds Try.pinned (OpenSpec.ofChange diskWritesSpec)

/-- ITS FALSE NEIGHBOUR: 'it returns false'. Refute it at one input. -/
def diskWritesWrong : ChangeSpec := { name := "diskWrites", fn := fun _ => fun
  | [d1, d2] => { results := [.lit (.bool false)], args := [d1, d2] }
  | _ => none }
def DiskWritesWrongFalsely : Prop := diskWritesRow.holds Try.pinned (OpenSpec.ofChange diskWritesWrong)

/-- 'freshetlaw02.DiskSees': WHATEVER THE INPUT: true; the input reads as it did. -/
def diskSeesSpec : ChangeSpec := { name := "diskSees", fn := fun _ => fun
  | [d1, d2] => { results := [.lit (.bool true)], args := [d1, d2] }
  | _ => none }
def diskSeesRow : OpenClaim := { program := "ytfgbkaigjhhlfaa", sum := "c294922dfec767cd5edfde049ea425b9e4a30f4c3b4888ca3d98e534b1c39bd5", func := "freshet/freshetlaw02.DiskSees", spec := "diskSees", inPlace := ["slices.overlaps[freshet/api.File]"], unfollowed := true, recurses := true, apart := false }
def DiskSeesSaid : Prop := diskSeesRow.holds Try.pinned (OpenSpec.ofChange diskSeesSpec)

/-- ITS FALSE NEIGHBOUR: 'it returns false'. Refute it at one input. -/
def diskSeesWrong : ChangeSpec := { name := "diskSees", fn := fun _ => fun
  | [d1, d2] => { results := [.lit (.bool false)], args := [d1, d2] }
  | _ => none }
def DiskSeesWrongFalsely : Prop := diskSeesRow.holds Try.pinned (OpenSpec.ofChange diskSeesWrong)

/-- 'freshetlaw02.DiskCrashes': WHATEVER THE INPUT: true; the input reads as it did. -/
def diskCrashesSpec : ChangeSpec := { name := "diskCrashes", fn := fun _ => fun
  | [d1, d2, d3] => { results := [.lit (.bool true)], args := [d1, d2, d3] }
  | _ => none }
def diskCrashesRow : OpenClaim := { program := "ytfgbkaigjhhlfaa", sum := "c294922dfec767cd5edfde049ea425b9e4a30f4c3b4888ca3d98e534b1c39bd5", func := "freshet/freshetlaw02.DiskCrashes", spec := "diskCrashes", inPlace := ["slices.overlaps[freshet/api.File]"], unfollowed := true, recurses := true, apart := false }
def DiskCrashesSaid : Prop := diskCrashesRow.holds Try.pinned (OpenSpec.ofChange diskCrashesSpec)

/-- ITS FALSE NEIGHBOUR: 'it returns false'. Refute it at one input. -/
def diskCrashesWrong : ChangeSpec := { name := "diskCrashes", fn := fun _ => fun
  | [d1, d2, d3] => { results := [.lit (.bool false)], args := [d1, d2, d3] }
  | _ => none }
def DiskCrashesWrongFalsely : Prop := diskCrashesRow.holds Try.pinned (OpenSpec.ofChange diskCrashesWrong)

/-- 'freshetlaw02.DiskSafe': WHATEVER THE INPUT: true; the input reads as it did. -/
def diskSafeSpec : ChangeSpec := { name := "diskSafe", fn := fun _ => fun
  | [d1, d2, d3, d4, d5] => { results := [.lit (.bool true)], args := [d1, d2, d3, d4, d5] }
  | _ => none }
def diskSafeRow : OpenClaim := { program := "ytfgbkaigjhhlfaa", sum := "c294922dfec767cd5edfde049ea425b9e4a30f4c3b4888ca3d98e534b1c39bd5", func := "freshet/freshetlaw02.DiskSafe", spec := "diskSafe", inPlace := ["slices.overlaps[freshet/api.File]"], unfollowed := true, recurses := true, apart := false }
def DiskSafeSaid : Prop := diskSafeRow.holds Try.pinned (OpenSpec.ofChange diskSafeSpec)

/-- ITS FALSE NEIGHBOUR: 'it returns false'. Refute it at one input. -/
def diskSafeWrong : ChangeSpec := { name := "diskSafe", fn := fun _ => fun
  | [d1, d2, d3, d4, d5] => { results := [.lit (.bool false)], args := [d1, d2, d3, d4, d5] }
  | _ => none }
def DiskSafeWrongFalsely : Prop := diskSafeRow.holds Try.pinned (OpenSpec.ofChange diskSafeWrong)

/-- 'freshetlaw02.DiskTogether': WHATEVER THE INPUT: true; the input reads as it did. -/
def diskTogetherSpec : ChangeSpec := { name := "diskTogether", fn := fun _ => fun
  | [d1, d2, d3] => { results := [.lit (.bool true)], args := [d1, d2, d3] }
  | _ => none }
def diskTogetherRow : OpenClaim := { program := "ytfgbkaigjhhlfaa", sum := "c294922dfec767cd5edfde049ea425b9e4a30f4c3b4888ca3d98e534b1c39bd5", func := "freshet/freshetlaw02.DiskTogether", spec := "diskTogether", inPlace := ["slices.overlaps[freshet/api.File]"], unfollowed := true, recurses := true, apart := false }
def DiskTogetherSaid : Prop := diskTogetherRow.holds Try.pinned (OpenSpec.ofChange diskTogetherSpec)

/-- ITS FALSE NEIGHBOUR: 'it returns false'. Refute it at one input. -/
def diskTogetherWrong : ChangeSpec := { name := "diskTogether", fn := fun _ => fun
  | [d1, d2, d3] => { results := [.lit (.bool false)], args := [d1, d2, d3] }
  | _ => none }
def DiskTogetherWrongFalsely : Prop := diskTogetherRow.holds Try.pinned (OpenSpec.ofChange diskTogetherWrong)

/-- 'freshetlaw02.DiskSwaps': WHATEVER THE INPUT: true; the input reads as it did. -/
def diskSwapsSpec : ChangeSpec := { name := "diskSwaps", fn := fun _ => fun
  | [d1, d2, d3] => { results := [.lit (.bool true)], args := [d1, d2, d3] }
  | _ => none }
def diskSwapsRow : OpenClaim := { program := "ytfgbkaigjhhlfaa", sum := "c294922dfec767cd5edfde049ea425b9e4a30f4c3b4888ca3d98e534b1c39bd5", func := "freshet/freshetlaw02.DiskSwaps", spec := "diskSwaps", inPlace := ["slices.overlaps[freshet/api.File]"], unfollowed := true, recurses := true, apart := false }
def DiskSwapsSaid : Prop := diskSwapsRow.holds Try.pinned (OpenSpec.ofChange diskSwapsSpec)

/-- ITS FALSE NEIGHBOUR: 'it returns false'. Refute it at one input. -/
def diskSwapsWrong : ChangeSpec := { name := "diskSwaps", fn := fun _ => fun
  | [d1, d2, d3] => { results := [.lit (.bool false)], args := [d1, d2, d3] }
  | _ => none }
def DiskSwapsWrongFalsely : Prop := diskSwapsRow.holds Try.pinned (OpenSpec.ofChange diskSwapsWrong)

/-- 'freshetlaw02.DiskFull': WHATEVER THE INPUT: true; the input reads as it did. -/
def diskFullSpec : ChangeSpec := { name := "diskFull", fn := fun _ => fun
  | [d1, d2] => { results := [.lit (.bool true)], args := [d1, d2] }
  | _ => none }
def diskFullRow : OpenClaim := { program := "ytfgbkaigjhhlfaa", sum := "c294922dfec767cd5edfde049ea425b9e4a30f4c3b4888ca3d98e534b1c39bd5", func := "freshet/freshetlaw02.DiskFull", spec := "diskFull", inPlace := ["slices.overlaps[freshet/api.File]"], unfollowed := true, recurses := true, apart := false }
def DiskFullSaid : Prop := diskFullRow.holds Try.pinned (OpenSpec.ofChange diskFullSpec)

/-- ITS FALSE NEIGHBOUR: 'it returns false'. Refute it at one input. -/
def diskFullWrong : ChangeSpec := { name := "diskFull", fn := fun _ => fun
  | [d1, d2] => { results := [.lit (.bool false)], args := [d1, d2] }
  | _ => none }
def DiskFullWrongFalsely : Prop := diskFullRow.holds Try.pinned (OpenSpec.ofChange diskFullWrong)

/- THE SECOND FORM. 'bulk': how many values and letters a reading holds, each counted each time it is reached (what is shared counts as often as it is met; a slice's spare places count too). A statement '..UptoSaid' is the law's where the arguments, and the package variables that the reading takes, are together of bulk at most 1048576: NARROWER than '..Said'. Prove '..Said' where nothing that the law and all that it calls make is longer than what came in: it says more and counts as full. Else prove '..UptoSaid'. A law counts once. -/
mutual
def uptoBulk {H : Type} : DataW H → Nat
  | .lit (.string bytes) => bytes.length + 1
  | .lit _ => 1
  | .nil => 1
  | .ptr d => uptoBulk d + 1
  | .slice elems spare => uptoBulkAll elems + uptoBulkAll spare + 1
  | .agg parts => uptoBulkAll parts + 1
  | .iface _ d => uptoBulk d + 1
  | .map entries => uptoBulkEntries entries + 1
  | .held _ => 1
def uptoBulkAll {H : Type} : List (DataW H) → Nat
  | [] => 0
  | d :: r => uptoBulk d + uptoBulkAll r
def uptoBulkEntries {H : Type} : List (Lit × DataW H) → Nat
  | [] => 0
  | x :: r => uptoBulkEntry x + uptoBulkEntries r
def uptoBulkEntry {H : Type} : Lit × DataW H → Nat
  | (.string bytes, d) => bytes.length + uptoBulk d + 1
  | (_, d) => uptoBulk d + 1
 end
def uptoSmall : (H : Type) → List (DataW H) → Bool := fun _ ds => decide (uptoBulkAll ds ≤ 1048576)
def OpenSpec.upto (s : _root_.Go.ChangeSpec) : _root_.Go.OpenSpec := { _root_.Go.OpenSpec.ofChange s with cond := some uptoSmall }

/-- 'freshetlaw02.DiskWrites', WHERE WHAT IT READS IS OF BULK AT MOST 1048576: true; the input reads as it did. -/
def diskWritesUptoRow : OpenClaim := { program := "ytfgbkaigjhhlfaa", sum := "c294922dfec767cd5edfde049ea425b9e4a30f4c3b4888ca3d98e534b1c39bd5", func := "freshet/freshetlaw02.DiskWrites", spec := "diskWrites", inPlace := ["slices.overlaps[freshet/api.File]"], unfollowed := true, recurses := true, apart := false, narrowed := true }
def DiskWritesUptoSaid : Prop := diskWritesUptoRow.holds Try.pinned (OpenSpec.upto diskWritesSpec)

/-- 'freshetlaw02.DiskSees', WHERE WHAT IT READS IS OF BULK AT MOST 1048576: true; the input reads as it did. -/
def diskSeesUptoRow : OpenClaim := { program := "ytfgbkaigjhhlfaa", sum := "c294922dfec767cd5edfde049ea425b9e4a30f4c3b4888ca3d98e534b1c39bd5", func := "freshet/freshetlaw02.DiskSees", spec := "diskSees", inPlace := ["slices.overlaps[freshet/api.File]"], unfollowed := true, recurses := true, apart := false, narrowed := true }
def DiskSeesUptoSaid : Prop := diskSeesUptoRow.holds Try.pinned (OpenSpec.upto diskSeesSpec)

/-- 'freshetlaw02.DiskCrashes', WHERE WHAT IT READS IS OF BULK AT MOST 1048576: true; the input reads as it did. -/
def diskCrashesUptoRow : OpenClaim := { program := "ytfgbkaigjhhlfaa", sum := "c294922dfec767cd5edfde049ea425b9e4a30f4c3b4888ca3d98e534b1c39bd5", func := "freshet/freshetlaw02.DiskCrashes", spec := "diskCrashes", inPlace := ["slices.overlaps[freshet/api.File]"], unfollowed := true, recurses := true, apart := false, narrowed := true }
def DiskCrashesUptoSaid : Prop := diskCrashesUptoRow.holds Try.pinned (OpenSpec.upto diskCrashesSpec)

/-- 'freshetlaw02.DiskSafe', WHERE WHAT IT READS IS OF BULK AT MOST 1048576: true; the input reads as it did. -/
def diskSafeUptoRow : OpenClaim := { program := "ytfgbkaigjhhlfaa", sum := "c294922dfec767cd5edfde049ea425b9e4a30f4c3b4888ca3d98e534b1c39bd5", func := "freshet/freshetlaw02.DiskSafe", spec := "diskSafe", inPlace := ["slices.overlaps[freshet/api.File]"], unfollowed := true, recurses := true, apart := false, narrowed := true }
def DiskSafeUptoSaid : Prop := diskSafeUptoRow.holds Try.pinned (OpenSpec.upto diskSafeSpec)

/-- 'freshetlaw02.DiskTogether', WHERE WHAT IT READS IS OF BULK AT MOST 1048576: true; the input reads as it did. -/
def diskTogetherUptoRow : OpenClaim := { program := "ytfgbkaigjhhlfaa", sum := "c294922dfec767cd5edfde049ea425b9e4a30f4c3b4888ca3d98e534b1c39bd5", func := "freshet/freshetlaw02.DiskTogether", spec := "diskTogether", inPlace := ["slices.overlaps[freshet/api.File]"], unfollowed := true, recurses := true, apart := false, narrowed := true }
def DiskTogetherUptoSaid : Prop := diskTogetherUptoRow.holds Try.pinned (OpenSpec.upto diskTogetherSpec)

/-- 'freshetlaw02.DiskSwaps', WHERE WHAT IT READS IS OF BULK AT MOST 1048576: true; the input reads as it did. -/
def diskSwapsUptoRow : OpenClaim := { program := "ytfgbkaigjhhlfaa", sum := "c294922dfec767cd5edfde049ea425b9e4a30f4c3b4888ca3d98e534b1c39bd5", func := "freshet/freshetlaw02.DiskSwaps", spec := "diskSwaps", inPlace := ["slices.overlaps[freshet/api.File]"], unfollowed := true, recurses := true, apart := false, narrowed := true }
def DiskSwapsUptoSaid : Prop := diskSwapsUptoRow.holds Try.pinned (OpenSpec.upto diskSwapsSpec)

/-- 'freshetlaw02.DiskFull', WHERE WHAT IT READS IS OF BULK AT MOST 1048576: true; the input reads as it did. -/
def diskFullUptoRow : OpenClaim := { program := "ytfgbkaigjhhlfaa", sum := "c294922dfec767cd5edfde049ea425b9e4a30f4c3b4888ca3d98e534b1c39bd5", func := "freshet/freshetlaw02.DiskFull", spec := "diskFull", inPlace := ["slices.overlaps[freshet/api.File]"], unfollowed := true, recurses := true, apart := false, narrowed := true }
def DiskFullUptoSaid : Prop := diskFullUptoRow.holds Try.pinned (OpenSpec.upto diskFullSpec)

end Rows
end Go.Proofs.Ytfgbkaigjhhlfaa
