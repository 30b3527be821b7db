/-
  No cell of these rows narrows 'for every input' (looked for: loops, veiled, ifaces, maps, wideKeys, modest, calm, conditions, laid).
  DERIVED. THE GIVEN ROWS OF THIS SEAT. 6 by the template 'for every input the law returns true; each argument reads behind the call as it read before'; 0 by the template 'total and deterministic' (their statements: YthiooffeindjdaaGreatTotals.lean).
  GIVEN WITH THE SEED: the statements are not yours to turn. If you find one false, say at which input.
  Laid BY PROGRAM, IN A SANDBOX (cutbox-rows.mjs): the forced cells as the released guide's own fill.sh prints them over the translation 2270d6dd15e76fa6… (all of the seat's roots in one cut). By AI agents, Wed Nov 11 2026. No macro, syntax, notation, axiom, sorry.
-/
import Derived.Test.YthiooffeindjdaaGreatChecked
import GoSem.Claim
import GoSem.ClaimJoined
import GoSem.ClaimMapViews
import Derived.JoinedTies
import Derived.KernelRfl
namespace Go.Proofs.YthiooffeindjdaaGreat
/- THE CELL 'sum', in the pinned program and in every row, IS THE sha256 OF THE DUMP (.gsa) THAT YthiooffeindjdaaGreatProg.lean LOADS. Nothing in Lean hashes anything: it is a label: what it is worth is what the hold of that sum in a sandbox is worth. -/
noncomputable def Tryz.pinned : Pinned := { name := "ythiooffeindjdaagreat", sum := "2270d6dd15e76fa6d14c15b6114d2ae8d666ca60d39eb2d5d955f6676f4af210", checked := Tryz.checked }
namespace Rows
def none {H : Type} : Left H := { results := [], args := [] }

/-- 'freshetlaw07.SpineTogether': WHATEVER THE INPUT: true; the input reads as it did. -/
def spineTogetherSpec : ChangeSpec := { name := "spineTogether", fn := fun _ => fun
  | [d] => { results := [.lit (.bool true)], args := [d] }
  | _ => none }
def spineTogetherRow : OpenClaim := { program := "ythiooffeindjdaagreat", sum := "2270d6dd15e76fa6d14c15b6114d2ae8d666ca60d39eb2d5d955f6676f4af210", func := "freshet/freshetlaw07.SpineTogether", spec := "spineTogether", inPlace := ["math/bits.Add64", "slices.overlaps[freshet/api.Level]"], unfollowed := true, recurses := true, apart := false }
def SpineTogetherSaid : Prop := spineTogetherRow.holds Tryz.pinned (OpenSpec.ofChange spineTogetherSpec)

/-- ITS FALSE NEIGHBOUR: 'it returns false'. Refute it at one input. -/
def spineTogetherWrong : ChangeSpec := { name := "spineTogether", fn := fun _ => fun
  | [d] => { results := [.lit (.bool false)], args := [d] }
  | _ => none }
def SpineTogetherWrongFalsely : Prop := spineTogetherRow.holds Tryz.pinned (OpenSpec.ofChange spineTogetherWrong)

/-- 'freshetlaw07.SpineOwn': WHATEVER THE INPUT: true; the input reads as it did. -/
def spineOwnSpec : ChangeSpec := { name := "spineOwn", fn := fun _ => fun
  | [d1, d2] => { results := [.lit (.bool true)], args := [d1, d2] }
  | _ => none }
def spineOwnRow : OpenClaim := { program := "ythiooffeindjdaagreat", sum := "2270d6dd15e76fa6d14c15b6114d2ae8d666ca60d39eb2d5d955f6676f4af210", func := "freshet/freshetlaw07.SpineOwn", spec := "spineOwn", inPlace := ["math/bits.Add64", "slices.overlaps[freshet/api.Level]"], unfollowed := true, recurses := true, apart := false }
def SpineOwnSaid : Prop := spineOwnRow.holds Tryz.pinned (OpenSpec.ofChange spineOwnSpec)

/-- ITS FALSE NEIGHBOUR: 'it returns false'. Refute it at one input. -/
def spineOwnWrong : ChangeSpec := { name := "spineOwn", fn := fun _ => fun
  | [d1, d2] => { results := [.lit (.bool false)], args := [d1, d2] }
  | _ => none }
def SpineOwnWrongFalsely : Prop := spineOwnRow.holds Tryz.pinned (OpenSpec.ofChange spineOwnWrong)

/-- 'freshetlaw07.SpineChanges': WHATEVER THE INPUT: true; the input reads as it did. -/
def spineChangesSpec : ChangeSpec := { name := "spineChanges", fn := fun _ => fun
  | [d1, d2, d3, d4] => { results := [.lit (.bool true)], args := [d1, d2, d3, d4] }
  | _ => none }
def spineChangesRow : OpenClaim := { program := "ythiooffeindjdaagreat", sum := "2270d6dd15e76fa6d14c15b6114d2ae8d666ca60d39eb2d5d955f6676f4af210", func := "freshet/freshetlaw07.SpineChanges", spec := "spineChanges", inPlace := ["math/bits.Add64", "slices.overlaps[freshet/api.Level]"], unfollowed := true, recurses := true, apart := false }
def SpineChangesSaid : Prop := spineChangesRow.holds Tryz.pinned (OpenSpec.ofChange spineChangesSpec)

/-- ITS FALSE NEIGHBOUR: 'it returns false'. Refute it at one input. -/
def spineChangesWrong : ChangeSpec := { name := "spineChanges", fn := fun _ => fun
  | [d1, d2, d3, d4] => { results := [.lit (.bool false)], args := [d1, d2, d3, d4] }
  | _ => none }
def SpineChangesWrongFalsely : Prop := spineChangesRow.holds Tryz.pinned (OpenSpec.ofChange spineChangesWrong)

/-- 'freshetlaw07.SpineEnds': WHATEVER THE INPUT: true; the input reads as it did. -/
def spineEndsSpec : ChangeSpec := { name := "spineEnds", fn := fun _ => fun
  | [d] => { results := [.lit (.bool true)], args := [d] }
  | _ => none }
def spineEndsRow : OpenClaim := { program := "ythiooffeindjdaagreat", sum := "2270d6dd15e76fa6d14c15b6114d2ae8d666ca60d39eb2d5d955f6676f4af210", func := "freshet/freshetlaw07.SpineEnds", spec := "spineEnds", inPlace := ["math/bits.Add64", "slices.overlaps[freshet/api.Level]"], unfollowed := true, recurses := true, apart := false }
def SpineEndsSaid : Prop := spineEndsRow.holds Tryz.pinned (OpenSpec.ofChange spineEndsSpec)

/-- ITS FALSE NEIGHBOUR: 'it returns false'. Refute it at one input. -/
def spineEndsWrong : ChangeSpec := { name := "spineEnds", fn := fun _ => fun
  | [d] => { results := [.lit (.bool false)], args := [d] }
  | _ => none }
def SpineEndsWrongFalsely : Prop := spineEndsRow.holds Tryz.pinned (OpenSpec.ofChange spineEndsWrong)

/-- 'freshetlaw07.SpineGroups': WHATEVER THE INPUT: true; the input reads as it did. -/
def spineGroupsSpec : ChangeSpec := { name := "spineGroups", fn := fun _ => fun
  | [d1, d2] => { results := [.lit (.bool true)], args := [d1, d2] }
  | _ => none }
def spineGroupsRow : OpenClaim := { program := "ythiooffeindjdaagreat", sum := "2270d6dd15e76fa6d14c15b6114d2ae8d666ca60d39eb2d5d955f6676f4af210", func := "freshet/freshetlaw07.SpineGroups", spec := "spineGroups", inPlace := ["math/bits.Add64", "slices.overlaps[freshet/api.Level]"], unfollowed := true, recurses := true, apart := false }
def SpineGroupsSaid : Prop := spineGroupsRow.holds Tryz.pinned (OpenSpec.ofChange spineGroupsSpec)

/-- ITS FALSE NEIGHBOUR: 'it returns false'. Refute it at one input. -/
def spineGroupsWrong : ChangeSpec := { name := "spineGroups", fn := fun _ => fun
  | [d1, d2] => { results := [.lit (.bool false)], args := [d1, d2] }
  | _ => none }
def SpineGroupsWrongFalsely : Prop := spineGroupsRow.holds Tryz.pinned (OpenSpec.ofChange spineGroupsWrong)

/-- 'freshetlaw07.SpineHolds': WHATEVER THE INPUT: true; the input reads as it did. -/
def spineHoldsSpec : ChangeSpec := { name := "spineHolds", fn := fun _ => fun
  | [d1, d2] => { results := [.lit (.bool true)], args := [d1, d2] }
  | _ => none }
def spineHoldsRow : OpenClaim := { program := "ythiooffeindjdaagreat", sum := "2270d6dd15e76fa6d14c15b6114d2ae8d666ca60d39eb2d5d955f6676f4af210", func := "freshet/freshetlaw07.SpineHolds", spec := "spineHolds", inPlace := ["math/bits.Add64", "slices.overlaps[freshet/api.Level]"], unfollowed := true, recurses := true, apart := false }
def SpineHoldsSaid : Prop := spineHoldsRow.holds Tryz.pinned (OpenSpec.ofChange spineHoldsSpec)

/-- ITS FALSE NEIGHBOUR: 'it returns false'. Refute it at one input. -/
def spineHoldsWrong : ChangeSpec := { name := "spineHolds", fn := fun _ => fun
  | [d1, d2] => { results := [.lit (.bool false)], args := [d1, d2] }
  | _ => none }
def SpineHoldsWrongFalsely : Prop := spineHoldsRow.holds Tryz.pinned (OpenSpec.ofChange spineHoldsWrong)

/- THE SECOND FORM. 'bulk': how many values and letters a reading holds, each counted each time it is reached (what is shared counts as often as it is met; a slice's spare places count too). A statement '..UptoSaid' is the law's where the arguments, and the package variables that the reading takes, are together of bulk at most 1048576: NARROWER than '..Said'. Prove '..Said' where nothing that the law and all that it calls make is longer than what came in: it says more and counts as full. Else prove '..UptoSaid'. A law counts once. -/
mutual
def uptoBulk {H : Type} : DataW H → Nat
  | .lit (.string bytes) => bytes.length + 1
  | .lit _ => 1
  | .nil => 1
  | .ptr d => uptoBulk d + 1
  | .slice elems spare => uptoBulkAll elems + uptoBulkAll spare + 1
  | .agg parts => uptoBulkAll parts + 1
  | .iface _ d => uptoBulk d + 1
  | .map entries => uptoBulkEntries entries + 1
  | .held _ => 1
def uptoBulkAll {H : Type} : List (DataW H) → Nat
  | [] => 0
  | d :: r => uptoBulk d + uptoBulkAll r
def uptoBulkEntries {H : Type} : List (Lit × DataW H) → Nat
  | [] => 0
  | x :: r => uptoBulkEntry x + uptoBulkEntries r
def uptoBulkEntry {H : Type} : Lit × DataW H → Nat
  | (.string bytes, d) => bytes.length + uptoBulk d + 1
  | (_, d) => uptoBulk d + 1
 end
def uptoSmall : (H : Type) → List (DataW H) → Bool := fun _ ds => decide (uptoBulkAll ds ≤ 1048576)
def OpenSpec.upto (s : _root_.Go.ChangeSpec) : _root_.Go.OpenSpec := { _root_.Go.OpenSpec.ofChange s with cond := some uptoSmall }

/-- 'freshetlaw07.SpineTogether', WHERE WHAT IT READS IS OF BULK AT MOST 1048576: true; the input reads as it did. -/
def spineTogetherUptoRow : OpenClaim := { program := "ythiooffeindjdaagreat", sum := "2270d6dd15e76fa6d14c15b6114d2ae8d666ca60d39eb2d5d955f6676f4af210", func := "freshet/freshetlaw07.SpineTogether", spec := "spineTogether", inPlace := ["math/bits.Add64", "slices.overlaps[freshet/api.Level]"], unfollowed := true, recurses := true, apart := false, narrowed := true }
def SpineTogetherUptoSaid : Prop := spineTogetherUptoRow.holds Tryz.pinned (OpenSpec.upto spineTogetherSpec)

/-- 'freshetlaw07.SpineOwn', WHERE WHAT IT READS IS OF BULK AT MOST 1048576: true; the input reads as it did. -/
def spineOwnUptoRow : OpenClaim := { program := "ythiooffeindjdaagreat", sum := "2270d6dd15e76fa6d14c15b6114d2ae8d666ca60d39eb2d5d955f6676f4af210", func := "freshet/freshetlaw07.SpineOwn", spec := "spineOwn", inPlace := ["math/bits.Add64", "slices.overlaps[freshet/api.Level]"], unfollowed := true, recurses := true, apart := false, narrowed := true }
def SpineOwnUptoSaid : Prop := spineOwnUptoRow.holds Tryz.pinned (OpenSpec.upto spineOwnSpec)

/-- 'freshetlaw07.SpineChanges', WHERE WHAT IT READS IS OF BULK AT MOST 1048576: true; the input reads as it did. -/
def spineChangesUptoRow : OpenClaim := { program := "ythiooffeindjdaagreat", sum := "2270d6dd15e76fa6d14c15b6114d2ae8d666ca60d39eb2d5d955f6676f4af210", func := "freshet/freshetlaw07.SpineChanges", spec := "spineChanges", inPlace := ["math/bits.Add64", "slices.overlaps[freshet/api.Level]"], unfollowed := true, recurses := true, apart := false, narrowed := true }
def SpineChangesUptoSaid : Prop := spineChangesUptoRow.holds Tryz.pinned (OpenSpec.upto spineChangesSpec)

/-- 'freshetlaw07.SpineEnds', WHERE WHAT IT READS IS OF BULK AT MOST 1048576: true; the input reads as it did. -/
def spineEndsUptoRow : OpenClaim := { program := "ythiooffeindjdaagreat", sum := "2270d6dd15e76fa6d14c15b6114d2ae8d666ca60d39eb2d5d955f6676f4af210", func := "freshet/freshetlaw07.SpineEnds", spec := "spineEnds", inPlace := ["math/bits.Add64", "slices.overlaps[freshet/api.Level]"], unfollowed := true, recurses := true, apart := false, narrowed := true }
def SpineEndsUptoSaid : Prop := spineEndsUptoRow.holds Tryz.pinned (OpenSpec.upto spineEndsSpec)

/-- 'freshetlaw07.SpineGroups', WHERE WHAT IT READS IS OF BULK AT MOST 1048576: true; the input reads as it did. -/
def spineGroupsUptoRow : OpenClaim := { program := "ythiooffeindjdaagreat", sum := "2270d6dd15e76fa6d14c15b6114d2ae8d666ca60d39eb2d5d955f6676f4af210", func := "freshet/freshetlaw07.SpineGroups", spec := "spineGroups", inPlace := ["math/bits.Add64", "slices.overlaps[freshet/api.Level]"], unfollowed := true, recurses := true, apart := false, narrowed := true }
def SpineGroupsUptoSaid : Prop := spineGroupsUptoRow.holds Tryz.pinned (OpenSpec.upto spineGroupsSpec)

/-- 'freshetlaw07.SpineHolds', WHERE WHAT IT READS IS OF BULK AT MOST 1048576: true; the input reads as it did. -/
def spineHoldsUptoRow : OpenClaim := { program := "ythiooffeindjdaagreat", sum := "2270d6dd15e76fa6d14c15b6114d2ae8d666ca60d39eb2d5d955f6676f4af210", func := "freshet/freshetlaw07.SpineHolds", spec := "spineHolds", inPlace := ["math/bits.Add64", "slices.overlaps[freshet/api.Level]"], unfollowed := true, recurses := true, apart := false, narrowed := true }
def SpineHoldsUptoSaid : Prop := spineHoldsUptoRow.holds Tryz.pinned (OpenSpec.upto spineHoldsSpec)

end Rows
end Go.Proofs.YthiooffeindjdaaGreat
