/-
  No cell of these rows narrows 'for every input' (looked for: loops, veiled, ifaces, maps, wideKeys, modest, calm, conditions, laid).
  DERIVED. THE GIVEN ROWS OF THIS SEAT. 10 by the template 'for every input the law returns true; each argument reads behind the call as it read before'; 0 by the template 'total and deterministic' (their statements: YtoiphmpjiobaiaaTotals.lean).
  GIVEN WITH THE SEED: the statements are not yours to turn. If you find one false, say at which input.
  Laid BY PROGRAM, IN A SANDBOX (cutbox-rows.mjs): the forced cells as the released guide's own fill.sh prints them over the translation 0bbc1e97d64bde78… (all of the seat's roots in one cut). By AI agents, Wed Nov 11 2026. No macro, syntax, notation, axiom, sorry.
-/
import Derived.Test.YtoiphmpjiobaiaaChecked
import GoSem.Claim
import GoSem.ClaimJoined
import GoSem.ClaimMapViews
import Derived.JoinedTies
import Derived.KernelRfl
namespace Go.Proofs.Ytoiphmpjiobaiaa
/- THE CELL 'sum', in the pinned program and in every row, IS THE sha256 OF THE DUMP (.gsa) THAT YtoiphmpjiobaiaaProg.lean LOADS. Nothing in Lean hashes anything: it is a label: what it is worth is what the hold of that sum in a sandbox is worth. -/
noncomputable def Try.pinned : Pinned := { name := "ytoiphmpjiobaiaa", sum := "0bbc1e97d64bde78244970aa153967cc2ffaeb9176013c52b0674462a993742e", checked := Try.checked }
namespace Rows
def none {H : Type} : Left H := { results := [], args := [] }

/-- 'freshetlaw04.MomentBounds': WHATEVER THE INPUT: true; the input reads as it did. -/
def momentBoundsSpec : ChangeSpec := { name := "momentBounds", fn := fun _ => fun
  | [d] => { results := [.lit (.bool true)], args := [d] }
  | _ => none }
def momentBoundsRow : OpenClaim := { program := "ytoiphmpjiobaiaa", sum := "0bbc1e97d64bde78244970aa153967cc2ffaeb9176013c52b0674462a993742e", func := "freshet/freshetlaw04.MomentBounds", spec := "momentBounds", unfollowed := true, recurses := true, apart := false }
def MomentBoundsSaid : Prop := momentBoundsRow.holds Try.pinned (OpenSpec.ofChange momentBoundsSpec)

/-- ITS FALSE NEIGHBOUR: 'it returns false'. Refute it at one input. -/
def momentBoundsWrong : ChangeSpec := { name := "momentBounds", fn := fun _ => fun
  | [d] => { results := [.lit (.bool false)], args := [d] }
  | _ => none }
def MomentBoundsWrongFalsely : Prop := momentBoundsRow.holds Try.pinned (OpenSpec.ofChange momentBoundsWrong)

/-- 'freshetlaw04.MomentTwice': WHATEVER THE INPUT: true; the input reads as it did. -/
def momentTwiceSpec : ChangeSpec := { name := "momentTwice", fn := fun _ => fun
  | [d1, d2] => { results := [.lit (.bool true)], args := [d1, d2] }
  | _ => none }
def momentTwiceRow : OpenClaim := { program := "ytoiphmpjiobaiaa", sum := "0bbc1e97d64bde78244970aa153967cc2ffaeb9176013c52b0674462a993742e", func := "freshet/freshetlaw04.MomentTwice", spec := "momentTwice", unfollowed := true, recurses := true, apart := false }
def MomentTwiceSaid : Prop := momentTwiceRow.holds Try.pinned (OpenSpec.ofChange momentTwiceSpec)

/-- ITS FALSE NEIGHBOUR: 'it returns false'. Refute it at one input. -/
def momentTwiceWrong : ChangeSpec := { name := "momentTwice", fn := fun _ => fun
  | [d1, d2] => { results := [.lit (.bool false)], args := [d1, d2] }
  | _ => none }
def MomentTwiceWrongFalsely : Prop := momentTwiceRow.holds Try.pinned (OpenSpec.ofChange momentTwiceWrong)

/-- 'freshetlaw04.MomentLine': WHATEVER THE INPUT: true; the input reads as it did. -/
def momentLineSpec : ChangeSpec := { name := "momentLine", fn := fun _ => fun
  | [d1, d2, d3] => { results := [.lit (.bool true)], args := [d1, d2, d3] }
  | _ => none }
def momentLineRow : OpenClaim := { program := "ytoiphmpjiobaiaa", sum := "0bbc1e97d64bde78244970aa153967cc2ffaeb9176013c52b0674462a993742e", func := "freshet/freshetlaw04.MomentLine", spec := "momentLine", unfollowed := true, recurses := true, apart := false }
def MomentLineSaid : Prop := momentLineRow.holds Try.pinned (OpenSpec.ofChange momentLineSpec)

/-- ITS FALSE NEIGHBOUR: 'it returns false'. Refute it at one input. -/
def momentLineWrong : ChangeSpec := { name := "momentLine", fn := fun _ => fun
  | [d1, d2, d3] => { results := [.lit (.bool false)], args := [d1, d2, d3] }
  | _ => none }
def MomentLineWrongFalsely : Prop := momentLineRow.holds Try.pinned (OpenSpec.ofChange momentLineWrong)

/-- 'freshetlaw04.MomentLattice': WHATEVER THE INPUT: true; the input reads as it did. -/
def momentLatticeSpec : ChangeSpec := { name := "momentLattice", fn := fun _ => fun
  | [d1, d2] => { results := [.lit (.bool true)], args := [d1, d2] }
  | _ => none }
def momentLatticeRow : OpenClaim := { program := "ytoiphmpjiobaiaa", sum := "0bbc1e97d64bde78244970aa153967cc2ffaeb9176013c52b0674462a993742e", func := "freshet/freshetlaw04.MomentLattice", spec := "momentLattice", unfollowed := true, recurses := true, apart := false }
def MomentLatticeSaid : Prop := momentLatticeRow.holds Try.pinned (OpenSpec.ofChange momentLatticeSpec)

/-- ITS FALSE NEIGHBOUR: 'it returns false'. Refute it at one input. -/
def momentLatticeWrong : ChangeSpec := { name := "momentLattice", fn := fun _ => fun
  | [d1, d2] => { results := [.lit (.bool false)], args := [d1, d2] }
  | _ => none }
def MomentLatticeWrongFalsely : Prop := momentLatticeRow.holds Try.pinned (OpenSpec.ofChange momentLatticeWrong)

/-- 'freshetlaw04.MomentOrders': WHATEVER THE INPUT: true; the input reads as it did. -/
def momentOrdersSpec : ChangeSpec := { name := "momentOrders", fn := fun _ => fun
  | [d1, d2, d3] => { results := [.lit (.bool true)], args := [d1, d2, d3] }
  | _ => none }
def momentOrdersRow : OpenClaim := { program := "ytoiphmpjiobaiaa", sum := "0bbc1e97d64bde78244970aa153967cc2ffaeb9176013c52b0674462a993742e", func := "freshet/freshetlaw04.MomentOrders", spec := "momentOrders", unfollowed := true, recurses := true, apart := false }
def MomentOrdersSaid : Prop := momentOrdersRow.holds Try.pinned (OpenSpec.ofChange momentOrdersSpec)

/-- ITS FALSE NEIGHBOUR: 'it returns false'. Refute it at one input. -/
def momentOrdersWrong : ChangeSpec := { name := "momentOrders", fn := fun _ => fun
  | [d1, d2, d3] => { results := [.lit (.bool false)], args := [d1, d2, d3] }
  | _ => none }
def MomentOrdersWrongFalsely : Prop := momentOrdersRow.holds Try.pinned (OpenSpec.ofChange momentOrdersWrong)

/-- 'freshetlaw04.MomentFronts': WHATEVER THE INPUT: true; the input reads as it did. -/
def momentFrontsSpec : ChangeSpec := { name := "momentFronts", fn := fun _ => fun
  | [d1, d2] => { results := [.lit (.bool true)], args := [d1, d2] }
  | _ => none }
def momentFrontsRow : OpenClaim := { program := "ytoiphmpjiobaiaa", sum := "0bbc1e97d64bde78244970aa153967cc2ffaeb9176013c52b0674462a993742e", func := "freshet/freshetlaw04.MomentFronts", spec := "momentFronts", unfollowed := true, recurses := true, apart := false }
def MomentFrontsSaid : Prop := momentFrontsRow.holds Try.pinned (OpenSpec.ofChange momentFrontsSpec)

/-- ITS FALSE NEIGHBOUR: 'it returns false'. Refute it at one input. -/
def momentFrontsWrong : ChangeSpec := { name := "momentFronts", fn := fun _ => fun
  | [d1, d2] => { results := [.lit (.bool false)], args := [d1, d2] }
  | _ => none }
def MomentFrontsWrongFalsely : Prop := momentFrontsRow.holds Try.pinned (OpenSpec.ofChange momentFrontsWrong)

/-- 'freshetlaw04.MomentAdvanced': WHATEVER THE INPUT: true; the input reads as it did. -/
def momentAdvancedSpec : ChangeSpec := { name := "momentAdvanced", fn := fun _ => fun
  | [d1, d2, d3] => { results := [.lit (.bool true)], args := [d1, d2, d3] }
  | _ => none }
def momentAdvancedRow : OpenClaim := { program := "ytoiphmpjiobaiaa", sum := "0bbc1e97d64bde78244970aa153967cc2ffaeb9176013c52b0674462a993742e", func := "freshet/freshetlaw04.MomentAdvanced", spec := "momentAdvanced", unfollowed := true, recurses := true, apart := false }
def MomentAdvancedSaid : Prop := momentAdvancedRow.holds Try.pinned (OpenSpec.ofChange momentAdvancedSpec)

/-- ITS FALSE NEIGHBOUR: 'it returns false'. Refute it at one input. -/
def momentAdvancedWrong : ChangeSpec := { name := "momentAdvanced", fn := fun _ => fun
  | [d1, d2, d3] => { results := [.lit (.bool false)], args := [d1, d2, d3] }
  | _ => none }
def MomentAdvancedWrongFalsely : Prop := momentAdvancedRow.holds Try.pinned (OpenSpec.ofChange momentAdvancedWrong)

/-- 'freshetlaw04.MomentLeast': WHATEVER THE INPUT: true; the input reads as it did. -/
def momentLeastSpec : ChangeSpec := { name := "momentLeast", fn := fun _ => fun
  | [d1, d2] => { results := [.lit (.bool true)], args := [d1, d2] }
  | _ => none }
def momentLeastRow : OpenClaim := { program := "ytoiphmpjiobaiaa", sum := "0bbc1e97d64bde78244970aa153967cc2ffaeb9176013c52b0674462a993742e", func := "freshet/freshetlaw04.MomentLeast", spec := "momentLeast", unfollowed := true, recurses := true, apart := false }
def MomentLeastSaid : Prop := momentLeastRow.holds Try.pinned (OpenSpec.ofChange momentLeastSpec)

/-- ITS FALSE NEIGHBOUR: 'it returns false'. Refute it at one input. -/
def momentLeastWrong : ChangeSpec := { name := "momentLeast", fn := fun _ => fun
  | [d1, d2] => { results := [.lit (.bool false)], args := [d1, d2] }
  | _ => none }
def MomentLeastWrongFalsely : Prop := momentLeastRow.holds Try.pinned (OpenSpec.ofChange momentLeastWrong)

/-- 'freshetlaw04.MomentFarther': WHATEVER THE INPUT: true; the input reads as it did. -/
def momentFartherSpec : ChangeSpec := { name := "momentFarther", fn := fun _ => fun
  | [d1, d2, d3] => { results := [.lit (.bool true)], args := [d1, d2, d3] }
  | _ => none }
def momentFartherRow : OpenClaim := { program := "ytoiphmpjiobaiaa", sum := "0bbc1e97d64bde78244970aa153967cc2ffaeb9176013c52b0674462a993742e", func := "freshet/freshetlaw04.MomentFarther", spec := "momentFarther", unfollowed := true, recurses := true, apart := false }
def MomentFartherSaid : Prop := momentFartherRow.holds Try.pinned (OpenSpec.ofChange momentFartherSpec)

/-- ITS FALSE NEIGHBOUR: 'it returns false'. Refute it at one input. -/
def momentFartherWrong : ChangeSpec := { name := "momentFarther", fn := fun _ => fun
  | [d1, d2, d3] => { results := [.lit (.bool false)], args := [d1, d2, d3] }
  | _ => none }
def MomentFartherWrongFalsely : Prop := momentFartherRow.holds Try.pinned (OpenSpec.ofChange momentFartherWrong)

/-- 'freshetlaw04.MomentLeft': WHATEVER THE INPUT: true; the input reads as it did. -/
def momentLeftSpec : ChangeSpec := { name := "momentLeft", fn := fun _ => fun
  | [d1, d2, d3] => { results := [.lit (.bool true)], args := [d1, d2, d3] }
  | _ => none }
def momentLeftRow : OpenClaim := { program := "ytoiphmpjiobaiaa", sum := "0bbc1e97d64bde78244970aa153967cc2ffaeb9176013c52b0674462a993742e", func := "freshet/freshetlaw04.MomentLeft", spec := "momentLeft", unfollowed := true, recurses := true, apart := false }
def MomentLeftSaid : Prop := momentLeftRow.holds Try.pinned (OpenSpec.ofChange momentLeftSpec)

/-- ITS FALSE NEIGHBOUR: 'it returns false'. Refute it at one input. -/
def momentLeftWrong : ChangeSpec := { name := "momentLeft", fn := fun _ => fun
  | [d1, d2, d3] => { results := [.lit (.bool false)], args := [d1, d2, d3] }
  | _ => none }
def MomentLeftWrongFalsely : Prop := momentLeftRow.holds Try.pinned (OpenSpec.ofChange momentLeftWrong)

/- THE SECOND FORM. 'bulk': how many values and letters a reading holds, each counted each time it is reached (what is shared counts as often as it is met; a slice's spare places count too). A statement '..UptoSaid' is the law's where the arguments, and the package variables that the reading takes, are together of bulk at most 1048576: NARROWER than '..Said'. Prove '..Said' where nothing that the law and all that it calls make is longer than what came in: it says more and counts as full. Else prove '..UptoSaid'. A law counts once. -/
mutual
def uptoBulk {H : Type} : DataW H → Nat
  | .lit (.string bytes) => bytes.length + 1
  | .lit _ => 1
  | .nil => 1
  | .ptr d => uptoBulk d + 1
  | .slice elems spare => uptoBulkAll elems + uptoBulkAll spare + 1
  | .agg parts => uptoBulkAll parts + 1
  | .iface _ d => uptoBulk d + 1
  | .map entries => uptoBulkEntries entries + 1
  | .held _ => 1
def uptoBulkAll {H : Type} : List (DataW H) → Nat
  | [] => 0
  | d :: r => uptoBulk d + uptoBulkAll r
def uptoBulkEntries {H : Type} : List (Lit × DataW H) → Nat
  | [] => 0
  | x :: r => uptoBulkEntry x + uptoBulkEntries r
def uptoBulkEntry {H : Type} : Lit × DataW H → Nat
  | (.string bytes, d) => bytes.length + uptoBulk d + 1
  | (_, d) => uptoBulk d + 1
 end
def uptoSmall : (H : Type) → List (DataW H) → Bool := fun _ ds => decide (uptoBulkAll ds ≤ 1048576)
def OpenSpec.upto (s : _root_.Go.ChangeSpec) : _root_.Go.OpenSpec := { _root_.Go.OpenSpec.ofChange s with cond := some uptoSmall }

/-- 'freshetlaw04.MomentBounds', WHERE WHAT IT READS IS OF BULK AT MOST 1048576: true; the input reads as it did. -/
def momentBoundsUptoRow : OpenClaim := { program := "ytoiphmpjiobaiaa", sum := "0bbc1e97d64bde78244970aa153967cc2ffaeb9176013c52b0674462a993742e", func := "freshet/freshetlaw04.MomentBounds", spec := "momentBounds", unfollowed := true, recurses := true, apart := false, narrowed := true }
def MomentBoundsUptoSaid : Prop := momentBoundsUptoRow.holds Try.pinned (OpenSpec.upto momentBoundsSpec)

/-- 'freshetlaw04.MomentTwice', WHERE WHAT IT READS IS OF BULK AT MOST 1048576: true; the input reads as it did. -/
def momentTwiceUptoRow : OpenClaim := { program := "ytoiphmpjiobaiaa", sum := "0bbc1e97d64bde78244970aa153967cc2ffaeb9176013c52b0674462a993742e", func := "freshet/freshetlaw04.MomentTwice", spec := "momentTwice", unfollowed := true, recurses := true, apart := false, narrowed := true }
def MomentTwiceUptoSaid : Prop := momentTwiceUptoRow.holds Try.pinned (OpenSpec.upto momentTwiceSpec)

/-- 'freshetlaw04.MomentLine', WHERE WHAT IT READS IS OF BULK AT MOST 1048576: true; the input reads as it did. -/
def momentLineUptoRow : OpenClaim := { program := "ytoiphmpjiobaiaa", sum := "0bbc1e97d64bde78244970aa153967cc2ffaeb9176013c52b0674462a993742e", func := "freshet/freshetlaw04.MomentLine", spec := "momentLine", unfollowed := true, recurses := true, apart := false, narrowed := true }
def MomentLineUptoSaid : Prop := momentLineUptoRow.holds Try.pinned (OpenSpec.upto momentLineSpec)

/-- 'freshetlaw04.MomentLattice', WHERE WHAT IT READS IS OF BULK AT MOST 1048576: true; the input reads as it did. -/
def momentLatticeUptoRow : OpenClaim := { program := "ytoiphmpjiobaiaa", sum := "0bbc1e97d64bde78244970aa153967cc2ffaeb9176013c52b0674462a993742e", func := "freshet/freshetlaw04.MomentLattice", spec := "momentLattice", unfollowed := true, recurses := true, apart := false, narrowed := true }
def MomentLatticeUptoSaid : Prop := momentLatticeUptoRow.holds Try.pinned (OpenSpec.upto momentLatticeSpec)

/-- 'freshetlaw04.MomentOrders', WHERE WHAT IT READS IS OF BULK AT MOST 1048576: true; the input reads as it did. -/
def momentOrdersUptoRow : OpenClaim := { program := "ytoiphmpjiobaiaa", sum := "0bbc1e97d64bde78244970aa153967cc2ffaeb9176013c52b0674462a993742e", func := "freshet/freshetlaw04.MomentOrders", spec := "momentOrders", unfollowed := true, recurses := true, apart := false, narrowed := true }
def MomentOrdersUptoSaid : Prop := momentOrdersUptoRow.holds Try.pinned (OpenSpec.upto momentOrdersSpec)

/-- 'freshetlaw04.MomentFronts', WHERE WHAT IT READS IS OF BULK AT MOST 1048576: true; the input reads as it did. -/
def momentFrontsUptoRow : OpenClaim := { program := "ytoiphmpjiobaiaa", sum := "0bbc1e97d64bde78244970aa153967cc2ffaeb9176013c52b0674462a993742e", func := "freshet/freshetlaw04.MomentFronts", spec := "momentFronts", unfollowed := true, recurses := true, apart := false, narrowed := true }
def MomentFrontsUptoSaid : Prop := momentFrontsUptoRow.holds Try.pinned (OpenSpec.upto momentFrontsSpec)

/-- 'freshetlaw04.MomentAdvanced', WHERE WHAT IT READS IS OF BULK AT MOST 1048576: true; the input reads as it did. -/
def momentAdvancedUptoRow : OpenClaim := { program := "ytoiphmpjiobaiaa", sum := "0bbc1e97d64bde78244970aa153967cc2ffaeb9176013c52b0674462a993742e", func := "freshet/freshetlaw04.MomentAdvanced", spec := "momentAdvanced", unfollowed := true, recurses := true, apart := false, narrowed := true }
def MomentAdvancedUptoSaid : Prop := momentAdvancedUptoRow.holds Try.pinned (OpenSpec.upto momentAdvancedSpec)

/-- 'freshetlaw04.MomentLeast', WHERE WHAT IT READS IS OF BULK AT MOST 1048576: true; the input reads as it did. -/
def momentLeastUptoRow : OpenClaim := { program := "ytoiphmpjiobaiaa", sum := "0bbc1e97d64bde78244970aa153967cc2ffaeb9176013c52b0674462a993742e", func := "freshet/freshetlaw04.MomentLeast", spec := "momentLeast", unfollowed := true, recurses := true, apart := false, narrowed := true }
def MomentLeastUptoSaid : Prop := momentLeastUptoRow.holds Try.pinned (OpenSpec.upto momentLeastSpec)

/-- 'freshetlaw04.MomentFarther', WHERE WHAT IT READS IS OF BULK AT MOST 1048576: true; the input reads as it did. -/
def momentFartherUptoRow : OpenClaim := { program := "ytoiphmpjiobaiaa", sum := "0bbc1e97d64bde78244970aa153967cc2ffaeb9176013c52b0674462a993742e", func := "freshet/freshetlaw04.MomentFarther", spec := "momentFarther", unfollowed := true, recurses := true, apart := false, narrowed := true }
def MomentFartherUptoSaid : Prop := momentFartherUptoRow.holds Try.pinned (OpenSpec.upto momentFartherSpec)

/-- 'freshetlaw04.MomentLeft', WHERE WHAT IT READS IS OF BULK AT MOST 1048576: true; the input reads as it did. -/
def momentLeftUptoRow : OpenClaim := { program := "ytoiphmpjiobaiaa", sum := "0bbc1e97d64bde78244970aa153967cc2ffaeb9176013c52b0674462a993742e", func := "freshet/freshetlaw04.MomentLeft", spec := "momentLeft", unfollowed := true, recurses := true, apart := false, narrowed := true }
def MomentLeftUptoSaid : Prop := momentLeftUptoRow.holds Try.pinned (OpenSpec.upto momentLeftSpec)

end Rows
end Go.Proofs.Ytoiphmpjiobaiaa
