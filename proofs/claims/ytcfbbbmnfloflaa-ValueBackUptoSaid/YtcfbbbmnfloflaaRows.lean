/-
  No cell of these rows narrows 'for every input' (looked for: loops, veiled, ifaces, maps, wideKeys, modest, calm, conditions, laid).
  DERIVED. THE GIVEN ROWS OF THIS SEAT. 8 by the template 'for every input the law returns true; each argument reads behind the call as it read before'; 0 by the template 'total and deterministic' (their statements: YtcfbbbmnfloflaaTotals.lean).
  GIVEN WITH THE SEED: the statements are not yours to turn. If you find one false, say at which input.
  Laid BY PROGRAM, IN A SANDBOX (cutbox-rows.mjs): the forced cells as the released guide's own fill.sh prints them over the translation e094a1f26d04cb98… (all of the seat's roots in one cut). By AI agents, Wed Nov 11 2026. No macro, syntax, notation, axiom, sorry.
-/
import Derived.Test.YtcfbbbmnfloflaaChecked
import GoSem.Claim
import GoSem.ClaimJoined
import GoSem.ClaimMapViews
import Derived.JoinedTies
import Derived.KernelRfl
namespace Go.Proofs.Ytcfbbbmnfloflaa
/- THE CELL 'sum', in the pinned program and in every row, IS THE sha256 OF THE DUMP (.gsa) THAT YtcfbbbmnfloflaaProg.lean LOADS. Nothing in Lean hashes anything: it is a label: what it is worth is what the hold of that sum in a sandbox is worth. -/
noncomputable def Try.pinned : Pinned := { name := "ytcfbbbmnfloflaa", sum := "e094a1f26d04cb98e6a52adab546fff4d39b1148aef915697578e8b45c3d4194", checked := Try.checked }
namespace Rows
def none {H : Type} : Left H := { results := [], args := [] }

/-- 'freshetlaw03.ValueFirst': WHATEVER THE INPUT: true; the input reads as it did. -/
def valueFirstSpec : ChangeSpec := { name := "valueFirst", fn := fun _ => fun
  | [d1, d2, d3] => { results := [.lit (.bool true)], args := [d1, d2, d3] }
  | _ => none }
def valueFirstRow : OpenClaim := { program := "ytcfbbbmnfloflaa", sum := "e094a1f26d04cb98e6a52adab546fff4d39b1148aef915697578e8b45c3d4194", func := "freshet/freshetlaw03.ValueFirst", spec := "valueFirst", unfollowed := true, recurses := true, apart := false }
def ValueFirstSaid : Prop := valueFirstRow.holds Try.pinned (OpenSpec.ofChange valueFirstSpec)

/-- ITS FALSE NEIGHBOUR: 'it returns false'. Refute it at one input. -/
def valueFirstWrong : ChangeSpec := { name := "valueFirst", fn := fun _ => fun
  | [d1, d2, d3] => { results := [.lit (.bool false)], args := [d1, d2, d3] }
  | _ => none }
def ValueFirstWrongFalsely : Prop := valueFirstRow.holds Try.pinned (OpenSpec.ofChange valueFirstWrong)

/-- 'freshetlaw03.ValueOrders': WHATEVER THE INPUT: true; the input reads as it did. -/
def valueOrdersSpec : ChangeSpec := { name := "valueOrders", fn := fun _ => fun
  | [d1, d2, d3, d4] => { results := [.lit (.bool true)], args := [d1, d2, d3, d4] }
  | _ => none }
def valueOrdersRow : OpenClaim := { program := "ytcfbbbmnfloflaa", sum := "e094a1f26d04cb98e6a52adab546fff4d39b1148aef915697578e8b45c3d4194", func := "freshet/freshetlaw03.ValueOrders", spec := "valueOrders", unfollowed := true, recurses := true, apart := false }
def ValueOrdersSaid : Prop := valueOrdersRow.holds Try.pinned (OpenSpec.ofChange valueOrdersSpec)

/-- ITS FALSE NEIGHBOUR: 'it returns false'. Refute it at one input. -/
def valueOrdersWrong : ChangeSpec := { name := "valueOrders", fn := fun _ => fun
  | [d1, d2, d3, d4] => { results := [.lit (.bool false)], args := [d1, d2, d3, d4] }
  | _ => none }
def ValueOrdersWrongFalsely : Prop := valueOrdersRow.holds Try.pinned (OpenSpec.ofChange valueOrdersWrong)

/-- 'freshetlaw03.ValueLine': WHATEVER THE INPUT: true; the input reads as it did. -/
def valueLineSpec : ChangeSpec := { name := "valueLine", fn := fun _ => fun
  | [d1, d2, d3] => { results := [.lit (.bool true)], args := [d1, d2, d3] }
  | _ => none }
def valueLineRow : OpenClaim := { program := "ytcfbbbmnfloflaa", sum := "e094a1f26d04cb98e6a52adab546fff4d39b1148aef915697578e8b45c3d4194", func := "freshet/freshetlaw03.ValueLine", spec := "valueLine", unfollowed := true, recurses := true, apart := false }
def ValueLineSaid : Prop := valueLineRow.holds Try.pinned (OpenSpec.ofChange valueLineSpec)

/-- ITS FALSE NEIGHBOUR: 'it returns false'. Refute it at one input. -/
def valueLineWrong : ChangeSpec := { name := "valueLine", fn := fun _ => fun
  | [d1, d2, d3] => { results := [.lit (.bool false)], args := [d1, d2, d3] }
  | _ => none }
def ValueLineWrongFalsely : Prop := valueLineRow.holds Try.pinned (OpenSpec.ofChange valueLineWrong)

/-- 'freshetlaw03.ValueMakes': WHATEVER THE INPUT: true; the input reads as it did. -/
def valueMakesSpec : ChangeSpec := { name := "valueMakes", fn := fun _ => fun
  | [d1, d2, d3] => { results := [.lit (.bool true)], args := [d1, d2, d3] }
  | _ => none }
def valueMakesRow : OpenClaim := { program := "ytcfbbbmnfloflaa", sum := "e094a1f26d04cb98e6a52adab546fff4d39b1148aef915697578e8b45c3d4194", func := "freshet/freshetlaw03.ValueMakes", spec := "valueMakes", unfollowed := true, recurses := true, apart := false }
def ValueMakesSaid : Prop := valueMakesRow.holds Try.pinned (OpenSpec.ofChange valueMakesSpec)

/-- ITS FALSE NEIGHBOUR: 'it returns false'. Refute it at one input. -/
def valueMakesWrong : ChangeSpec := { name := "valueMakes", fn := fun _ => fun
  | [d1, d2, d3] => { results := [.lit (.bool false)], args := [d1, d2, d3] }
  | _ => none }
def ValueMakesWrongFalsely : Prop := valueMakesRow.holds Try.pinned (OpenSpec.ofChange valueMakesWrong)

/-- 'freshetlaw03.ValueParts': WHATEVER THE INPUT: true; the input reads as it did. -/
def valuePartsSpec : ChangeSpec := { name := "valueParts", fn := fun _ => fun
  | [d1, d2] => { results := [.lit (.bool true)], args := [d1, d2] }
  | _ => none }
def valuePartsRow : OpenClaim := { program := "ytcfbbbmnfloflaa", sum := "e094a1f26d04cb98e6a52adab546fff4d39b1148aef915697578e8b45c3d4194", func := "freshet/freshetlaw03.ValueParts", spec := "valueParts", unfollowed := true, recurses := true, apart := false }
def ValuePartsSaid : Prop := valuePartsRow.holds Try.pinned (OpenSpec.ofChange valuePartsSpec)

/-- ITS FALSE NEIGHBOUR: 'it returns false'. Refute it at one input. -/
def valuePartsWrong : ChangeSpec := { name := "valueParts", fn := fun _ => fun
  | [d1, d2] => { results := [.lit (.bool false)], args := [d1, d2] }
  | _ => none }
def ValuePartsWrongFalsely : Prop := valuePartsRow.holds Try.pinned (OpenSpec.ofChange valuePartsWrong)

/-- 'freshetlaw03.ValueMany': WHATEVER THE INPUT: true; the input reads as it did. -/
def valueManySpec : ChangeSpec := { name := "valueMany", fn := fun _ => fun
  | [d1, d2, d3] => { results := [.lit (.bool true)], args := [d1, d2, d3] }
  | _ => none }
def valueManyRow : OpenClaim := { program := "ytcfbbbmnfloflaa", sum := "e094a1f26d04cb98e6a52adab546fff4d39b1148aef915697578e8b45c3d4194", func := "freshet/freshetlaw03.ValueMany", spec := "valueMany", unfollowed := true, recurses := true, apart := false }
def ValueManySaid : Prop := valueManyRow.holds Try.pinned (OpenSpec.ofChange valueManySpec)

/-- ITS FALSE NEIGHBOUR: 'it returns false'. Refute it at one input. -/
def valueManyWrong : ChangeSpec := { name := "valueMany", fn := fun _ => fun
  | [d1, d2, d3] => { results := [.lit (.bool false)], args := [d1, d2, d3] }
  | _ => none }
def ValueManyWrongFalsely : Prop := valueManyRow.holds Try.pinned (OpenSpec.ofChange valueManyWrong)

/-- 'freshetlaw03.ValueCodes': WHATEVER THE INPUT: true; the input reads as it did. -/
def valueCodesSpec : ChangeSpec := { name := "valueCodes", fn := fun _ => fun
  | [d1, d2] => { results := [.lit (.bool true)], args := [d1, d2] }
  | _ => none }
def valueCodesRow : OpenClaim := { program := "ytcfbbbmnfloflaa", sum := "e094a1f26d04cb98e6a52adab546fff4d39b1148aef915697578e8b45c3d4194", func := "freshet/freshetlaw03.ValueCodes", spec := "valueCodes", inPlace := ["internal/abi.NoEscape", "internal/bytealg.MakeNoZero"], unfollowed := true, recurses := true, apart := false }
def ValueCodesSaid : Prop := valueCodesRow.holds Try.pinned (OpenSpec.ofChange valueCodesSpec)

/-- ITS FALSE NEIGHBOUR: 'it returns false'. Refute it at one input. -/
def valueCodesWrong : ChangeSpec := { name := "valueCodes", fn := fun _ => fun
  | [d1, d2] => { results := [.lit (.bool false)], args := [d1, d2] }
  | _ => none }
def ValueCodesWrongFalsely : Prop := valueCodesRow.holds Try.pinned (OpenSpec.ofChange valueCodesWrong)

/-- 'freshetlaw03.ValueBack': WHATEVER THE INPUT: true; the input reads as it did. -/
def valueBackSpec : ChangeSpec := { name := "valueBack", fn := fun _ => fun
  | [d1, d2, d3] => { results := [.lit (.bool true)], args := [d1, d2, d3] }
  | _ => none }
def valueBackRow : OpenClaim := { program := "ytcfbbbmnfloflaa", sum := "e094a1f26d04cb98e6a52adab546fff4d39b1148aef915697578e8b45c3d4194", func := "freshet/freshetlaw03.ValueBack", spec := "valueBack", inPlace := ["internal/abi.NoEscape", "internal/bytealg.MakeNoZero"], unfollowed := true, recurses := true, apart := false }
def ValueBackSaid : Prop := valueBackRow.holds Try.pinned (OpenSpec.ofChange valueBackSpec)

/-- ITS FALSE NEIGHBOUR: 'it returns false'. Refute it at one input. -/
def valueBackWrong : ChangeSpec := { name := "valueBack", fn := fun _ => fun
  | [d1, d2, d3] => { results := [.lit (.bool false)], args := [d1, d2, d3] }
  | _ => none }
def ValueBackWrongFalsely : Prop := valueBackRow.holds Try.pinned (OpenSpec.ofChange valueBackWrong)

/- THE SECOND FORM. 'bulk': how many values and letters a reading holds, each counted each time it is reached (what is shared counts as often as it is met; a slice's spare places count too). A statement '..UptoSaid' is the law's where the arguments, and the package variables that the reading takes, are together of bulk at most 1048576: NARROWER than '..Said'. Prove '..Said' where nothing that the law and all that it calls make is longer than what came in: it says more and counts as full. Else prove '..UptoSaid'. A law counts once. -/
mutual
def uptoBulk {H : Type} : DataW H → Nat
  | .lit (.string bytes) => bytes.length + 1
  | .lit _ => 1
  | .nil => 1
  | .ptr d => uptoBulk d + 1
  | .slice elems spare => uptoBulkAll elems + uptoBulkAll spare + 1
  | .agg parts => uptoBulkAll parts + 1
  | .iface _ d => uptoBulk d + 1
  | .map entries => uptoBulkEntries entries + 1
  | .held _ => 1
def uptoBulkAll {H : Type} : List (DataW H) → Nat
  | [] => 0
  | d :: r => uptoBulk d + uptoBulkAll r
def uptoBulkEntries {H : Type} : List (Lit × DataW H) → Nat
  | [] => 0
  | x :: r => uptoBulkEntry x + uptoBulkEntries r
def uptoBulkEntry {H : Type} : Lit × DataW H → Nat
  | (.string bytes, d) => bytes.length + uptoBulk d + 1
  | (_, d) => uptoBulk d + 1
 end
def uptoSmall : (H : Type) → List (DataW H) → Bool := fun _ ds => decide (uptoBulkAll ds ≤ 1048576)
def OpenSpec.upto (s : _root_.Go.ChangeSpec) : _root_.Go.OpenSpec := { _root_.Go.OpenSpec.ofChange s with cond := some uptoSmall }

/-- 'freshetlaw03.ValueFirst', WHERE WHAT IT READS IS OF BULK AT MOST 1048576: true; the input reads as it did. -/
def valueFirstUptoRow : OpenClaim := { program := "ytcfbbbmnfloflaa", sum := "e094a1f26d04cb98e6a52adab546fff4d39b1148aef915697578e8b45c3d4194", func := "freshet/freshetlaw03.ValueFirst", spec := "valueFirst", unfollowed := true, recurses := true, apart := false, narrowed := true }
def ValueFirstUptoSaid : Prop := valueFirstUptoRow.holds Try.pinned (OpenSpec.upto valueFirstSpec)

/-- 'freshetlaw03.ValueOrders', WHERE WHAT IT READS IS OF BULK AT MOST 1048576: true; the input reads as it did. -/
def valueOrdersUptoRow : OpenClaim := { program := "ytcfbbbmnfloflaa", sum := "e094a1f26d04cb98e6a52adab546fff4d39b1148aef915697578e8b45c3d4194", func := "freshet/freshetlaw03.ValueOrders", spec := "valueOrders", unfollowed := true, recurses := true, apart := false, narrowed := true }
def ValueOrdersUptoSaid : Prop := valueOrdersUptoRow.holds Try.pinned (OpenSpec.upto valueOrdersSpec)

/-- 'freshetlaw03.ValueLine', WHERE WHAT IT READS IS OF BULK AT MOST 1048576: true; the input reads as it did. -/
def valueLineUptoRow : OpenClaim := { program := "ytcfbbbmnfloflaa", sum := "e094a1f26d04cb98e6a52adab546fff4d39b1148aef915697578e8b45c3d4194", func := "freshet/freshetlaw03.ValueLine", spec := "valueLine", unfollowed := true, recurses := true, apart := false, narrowed := true }
def ValueLineUptoSaid : Prop := valueLineUptoRow.holds Try.pinned (OpenSpec.upto valueLineSpec)

/-- 'freshetlaw03.ValueMakes', WHERE WHAT IT READS IS OF BULK AT MOST 1048576: true; the input reads as it did. -/
def valueMakesUptoRow : OpenClaim := { program := "ytcfbbbmnfloflaa", sum := "e094a1f26d04cb98e6a52adab546fff4d39b1148aef915697578e8b45c3d4194", func := "freshet/freshetlaw03.ValueMakes", spec := "valueMakes", unfollowed := true, recurses := true, apart := false, narrowed := true }
def ValueMakesUptoSaid : Prop := valueMakesUptoRow.holds Try.pinned (OpenSpec.upto valueMakesSpec)

/-- 'freshetlaw03.ValueParts', WHERE WHAT IT READS IS OF BULK AT MOST 1048576: true; the input reads as it did. -/
def valuePartsUptoRow : OpenClaim := { program := "ytcfbbbmnfloflaa", sum := "e094a1f26d04cb98e6a52adab546fff4d39b1148aef915697578e8b45c3d4194", func := "freshet/freshetlaw03.ValueParts", spec := "valueParts", unfollowed := true, recurses := true, apart := false, narrowed := true }
def ValuePartsUptoSaid : Prop := valuePartsUptoRow.holds Try.pinned (OpenSpec.upto valuePartsSpec)

/-- 'freshetlaw03.ValueMany', WHERE WHAT IT READS IS OF BULK AT MOST 1048576: true; the input reads as it did. -/
def valueManyUptoRow : OpenClaim := { program := "ytcfbbbmnfloflaa", sum := "e094a1f26d04cb98e6a52adab546fff4d39b1148aef915697578e8b45c3d4194", func := "freshet/freshetlaw03.ValueMany", spec := "valueMany", unfollowed := true, recurses := true, apart := false, narrowed := true }
def ValueManyUptoSaid : Prop := valueManyUptoRow.holds Try.pinned (OpenSpec.upto valueManySpec)

/-- 'freshetlaw03.ValueCodes', WHERE WHAT IT READS IS OF BULK AT MOST 1048576: true; the input reads as it did. -/
def valueCodesUptoRow : OpenClaim := { program := "ytcfbbbmnfloflaa", sum := "e094a1f26d04cb98e6a52adab546fff4d39b1148aef915697578e8b45c3d4194", func := "freshet/freshetlaw03.ValueCodes", spec := "valueCodes", inPlace := ["internal/abi.NoEscape", "internal/bytealg.MakeNoZero"], unfollowed := true, recurses := true, apart := false, narrowed := true }
def ValueCodesUptoSaid : Prop := valueCodesUptoRow.holds Try.pinned (OpenSpec.upto valueCodesSpec)

/-- 'freshetlaw03.ValueBack', WHERE WHAT IT READS IS OF BULK AT MOST 1048576: true; the input reads as it did. -/
def valueBackUptoRow : OpenClaim := { program := "ytcfbbbmnfloflaa", sum := "e094a1f26d04cb98e6a52adab546fff4d39b1148aef915697578e8b45c3d4194", func := "freshet/freshetlaw03.ValueBack", spec := "valueBack", inPlace := ["internal/abi.NoEscape", "internal/bytealg.MakeNoZero"], unfollowed := true, recurses := true, apart := false, narrowed := true }
def ValueBackUptoSaid : Prop := valueBackUptoRow.holds Try.pinned (OpenSpec.upto valueBackSpec)

end Rows
end Go.Proofs.Ytcfbbbmnfloflaa
