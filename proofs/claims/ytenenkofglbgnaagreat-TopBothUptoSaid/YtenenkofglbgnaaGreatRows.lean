/-
  NARROWER THAN 'FOR EVERY INPUT', by the rows' own cells (each row's printed sentence says how): TopDoubled: loops.
  DERIVED. THE GIVEN ROWS OF THIS SEAT. 2 by the template 'for every input the law returns true; each argument reads behind the call as it read before'; 0 by the template 'total and deterministic' (their statements: YtenenkofglbgnaaGreatTotals.lean).
  GIVEN WITH THE SEED: the statements are not yours to turn. If you find one false, say at which input.
  Laid BY PROGRAM, IN A SANDBOX (cutbox-rows.mjs): the forced cells as the released guide's own fill.sh prints them over the translation d4c944677b6eb56f… (all of the seat's roots in one cut). By AI agents, Wed Nov 11 2026. No macro, syntax, notation, axiom, sorry.
-/
import Derived.Test.YtenenkofglbgnaaGreatChecked
import GoSem.Claim
import GoSem.ClaimJoined
import GoSem.ClaimMapViews
import Derived.JoinedTies
import Derived.KernelRfl
namespace Go.Proofs.YtenenkofglbgnaaGreat
/- THE CELL 'sum', in the pinned program and in every row, IS THE sha256 OF THE DUMP (.gsa) THAT YtenenkofglbgnaaGreatProg.lean LOADS. Nothing in Lean hashes anything: it is a label: what it is worth is what the hold of that sum in a sandbox is worth. -/
noncomputable def Tryz.pinned : Pinned := { name := "ytenenkofglbgnaagreat", sum := "d4c944677b6eb56f38936ee14c563df8f4342b3ad02a3992936064a34c4eb8cd", checked := Tryz.checked }
namespace Rows
def none {H : Type} : Left H := { results := [], args := [] }

/-- 'freshettop.TopBoth': WHATEVER THE INPUT: true; the input reads as it did. -/
def topBothSpec : ChangeSpec := { name := "topBoth", fn := fun _ => fun
  | [d1, d2] => { results := [.lit (.bool true)], args := [d1, d2] }
  | _ => none }
def topBothRow : OpenClaim := { program := "ytenenkofglbgnaagreat", sum := "d4c944677b6eb56f38936ee14c563df8f4342b3ad02a3992936064a34c4eb8cd", func := "freshet/freshettop.TopBoth", spec := "topBoth", inPlace := ["slices.overlaps[freshet/api.File]", "math/bits.Add64"], unfollowed := true, recurses := true, apart := false }
def TopBothSaid : Prop := topBothRow.holds Tryz.pinned (OpenSpec.ofChange topBothSpec)

/-- ITS FALSE NEIGHBOUR: 'it returns false'. Refute it at one input. -/
def topBothWrong : ChangeSpec := { name := "topBoth", fn := fun _ => fun
  | [d1, d2] => { results := [.lit (.bool false)], args := [d1, d2] }
  | _ => none }
def TopBothWrongFalsely : Prop := topBothRow.holds Tryz.pinned (OpenSpec.ofChange topBothWrong)

/-- 'freshettop.TopDoubled': WHATEVER THE INPUT: true; the input reads as it did. -/
def topDoubledSpec : ChangeSpec := { name := "topDoubled", fn := fun _ => fun
  | [d1, d2, d3] => { results := [.lit (.bool true)], args := [d1, d2, d3] }
  | _ => none }
def topDoubledRow : OpenClaim := { program := "ytenenkofglbgnaagreat", sum := "d4c944677b6eb56f38936ee14c563df8f4342b3ad02a3992936064a34c4eb8cd", func := "freshet/freshettop.TopDoubled", spec := "topDoubled", inPlace := ["slices.overlaps[freshet/api.File]", "math/bits.Add64", "slices.overlaps[freshet/mean.group]"], unfollowed := true, recurses := true, loops := true, apart := false }
def TopDoubledSaid : Prop := topDoubledRow.holds Tryz.pinned (OpenSpec.ofChange topDoubledSpec)

/-- ITS FALSE NEIGHBOUR: 'it returns false'. Refute it at one input. -/
def topDoubledWrong : ChangeSpec := { name := "topDoubled", fn := fun _ => fun
  | [d1, d2, d3] => { results := [.lit (.bool false)], args := [d1, d2, d3] }
  | _ => none }
def TopDoubledWrongFalsely : Prop := topDoubledRow.holds Tryz.pinned (OpenSpec.ofChange topDoubledWrong)

/- THE SECOND FORM. 'bulk': how many values and letters a reading holds, each counted each time it is reached (what is shared counts as often as it is met; a slice's spare places count too). A statement '..UptoSaid' is the law's where the arguments, and the package variables that the reading takes, are together of bulk at most 1048576: NARROWER than '..Said'. Prove '..Said' where nothing that the law and all that it calls make is longer than what came in: it says more and counts as full. Else prove '..UptoSaid'. A law counts once. -/
mutual
def uptoBulk {H : Type} : DataW H → Nat
  | .lit (.string bytes) => bytes.length + 1
  | .lit _ => 1
  | .nil => 1
  | .ptr d => uptoBulk d + 1
  | .slice elems spare => uptoBulkAll elems + uptoBulkAll spare + 1
  | .agg parts => uptoBulkAll parts + 1
  | .iface _ d => uptoBulk d + 1
  | .map entries => uptoBulkEntries entries + 1
  | .held _ => 1
def uptoBulkAll {H : Type} : List (DataW H) → Nat
  | [] => 0
  | d :: r => uptoBulk d + uptoBulkAll r
def uptoBulkEntries {H : Type} : List (Lit × DataW H) → Nat
  | [] => 0
  | x :: r => uptoBulkEntry x + uptoBulkEntries r
def uptoBulkEntry {H : Type} : Lit × DataW H → Nat
  | (.string bytes, d) => bytes.length + uptoBulk d + 1
  | (_, d) => uptoBulk d + 1
 end
def uptoSmall : (H : Type) → List (DataW H) → Bool := fun _ ds => decide (uptoBulkAll ds ≤ 1048576)
def OpenSpec.upto (s : _root_.Go.ChangeSpec) : _root_.Go.OpenSpec := { _root_.Go.OpenSpec.ofChange s with cond := some uptoSmall }

/-- 'freshettop.TopBoth', WHERE WHAT IT READS IS OF BULK AT MOST 1048576: true; the input reads as it did. -/
def topBothUptoRow : OpenClaim := { program := "ytenenkofglbgnaagreat", sum := "d4c944677b6eb56f38936ee14c563df8f4342b3ad02a3992936064a34c4eb8cd", func := "freshet/freshettop.TopBoth", spec := "topBoth", inPlace := ["slices.overlaps[freshet/api.File]", "math/bits.Add64"], unfollowed := true, recurses := true, apart := false, narrowed := true }
def TopBothUptoSaid : Prop := topBothUptoRow.holds Tryz.pinned (OpenSpec.upto topBothSpec)

/-- 'freshettop.TopDoubled', WHERE WHAT IT READS IS OF BULK AT MOST 1048576: true; the input reads as it did. -/
def topDoubledUptoRow : OpenClaim := { program := "ytenenkofglbgnaagreat", sum := "d4c944677b6eb56f38936ee14c563df8f4342b3ad02a3992936064a34c4eb8cd", func := "freshet/freshettop.TopDoubled", spec := "topDoubled", inPlace := ["slices.overlaps[freshet/api.File]", "math/bits.Add64", "slices.overlaps[freshet/mean.group]"], unfollowed := true, recurses := true, loops := true, apart := false, narrowed := true }
def TopDoubledUptoSaid : Prop := topDoubledUptoRow.holds Tryz.pinned (OpenSpec.upto topDoubledSpec)

end Rows
end Go.Proofs.YtenenkofglbgnaaGreat
