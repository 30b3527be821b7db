/-
  No cell of these rows narrows 'for every input' (looked for: loops, veiled, ifaces, maps, wideKeys, modest, calm, conditions, laid).
  DERIVED. THE GIVEN ROWS OF THIS SEAT. 8 by the template 'for every input the law returns true; each argument reads behind the call as it read before'; 0 by the template 'total and deterministic' (their statements: YtemaompodlpdjaaTotals.lean).
  GIVEN WITH THE SEED: the statements are not yours to turn. If you find one false, say at which input.
  Laid BY PROGRAM, IN A SANDBOX (cutbox-rows.mjs): the forced cells as the released guide's own fill.sh prints them over the translation f3f0d02c7ac53ecb… (all of the seat's roots in one cut). By AI agents, Wed Nov 11 2026. No macro, syntax, notation, axiom, sorry.
-/
import Derived.Test.YtemaompodlpdjaaChecked
import GoSem.Claim
import GoSem.ClaimJoined
import GoSem.ClaimMapViews
import Derived.JoinedTies
import Derived.KernelRfl
namespace Go.Proofs.Ytemaompodlpdjaa
/- THE CELL 'sum', in the pinned program and in every row, IS THE sha256 OF THE DUMP (.gsa) THAT YtemaompodlpdjaaProg.lean LOADS. Nothing in Lean hashes anything: it is a label: what it is worth is what the hold of that sum in a sandbox is worth. -/
noncomputable def Try.pinned : Pinned := { name := "ytemaompodlpdjaa", sum := "f3f0d02c7ac53ecbecc7e4dde7d52350e2e1f58cb62d618fdb6e4979ce5bc3d0", checked := Try.checked }
namespace Rows
def none {H : Type} : Left H := { results := [], args := [] }

/-- 'freshetlaw05.DiffSums': WHATEVER THE INPUT: true; the input reads as it did. -/
def diffSumsSpec : ChangeSpec := { name := "diffSums", fn := fun _ => fun
  | [d1, d2, d3] => { results := [.lit (.bool true)], args := [d1, d2, d3] }
  | _ => none }
def diffSumsRow : OpenClaim := { program := "ytemaompodlpdjaa", sum := "f3f0d02c7ac53ecbecc7e4dde7d52350e2e1f58cb62d618fdb6e4979ce5bc3d0", func := "freshet/freshetlaw05.DiffSums", spec := "diffSums", inPlace := ["math/bits.Add64"], apart := false }
def DiffSumsSaid : Prop := diffSumsRow.holds Try.pinned (OpenSpec.ofChange diffSumsSpec)

/-- ITS FALSE NEIGHBOUR: 'it returns false'. Refute it at one input. -/
def diffSumsWrong : ChangeSpec := { name := "diffSums", fn := fun _ => fun
  | [d1, d2, d3] => { results := [.lit (.bool false)], args := [d1, d2, d3] }
  | _ => none }
def DiffSumsWrongFalsely : Prop := diffSumsRow.holds Try.pinned (OpenSpec.ofChange diffSumsWrong)

/-- 'freshetlaw05.DiffNumbers': WHATEVER THE INPUT: true; the input reads as it did. -/
def diffNumbersSpec : ChangeSpec := { name := "diffNumbers", fn := fun _ => fun
  | [d1, d2, d3] => { results := [.lit (.bool true)], args := [d1, d2, d3] }
  | _ => none }
def diffNumbersRow : OpenClaim := { program := "ytemaompodlpdjaa", sum := "f3f0d02c7ac53ecbecc7e4dde7d52350e2e1f58cb62d618fdb6e4979ce5bc3d0", func := "freshet/freshetlaw05.DiffNumbers", spec := "diffNumbers", inPlace := ["math/bits.Add64"], apart := false }
def DiffNumbersSaid : Prop := diffNumbersRow.holds Try.pinned (OpenSpec.ofChange diffNumbersSpec)

/-- ITS FALSE NEIGHBOUR: 'it returns false'. Refute it at one input. -/
def diffNumbersWrong : ChangeSpec := { name := "diffNumbers", fn := fun _ => fun
  | [d1, d2, d3] => { results := [.lit (.bool false)], args := [d1, d2, d3] }
  | _ => none }
def DiffNumbersWrongFalsely : Prop := diffNumbersRow.holds Try.pinned (OpenSpec.ofChange diffNumbersWrong)

/-- 'freshetlaw05.DiffLists': WHATEVER THE INPUT: true; the input reads as it did. -/
def diffListsSpec : ChangeSpec := { name := "diffLists", fn := fun _ => fun
  | [d] => { results := [.lit (.bool true)], args := [d] }
  | _ => none }
def diffListsRow : OpenClaim := { program := "ytemaompodlpdjaa", sum := "f3f0d02c7ac53ecbecc7e4dde7d52350e2e1f58cb62d618fdb6e4979ce5bc3d0", func := "freshet/freshetlaw05.DiffLists", spec := "diffLists", inPlace := ["math/bits.Add64"], unfollowed := true, recurses := true, apart := false }
def DiffListsSaid : Prop := diffListsRow.holds Try.pinned (OpenSpec.ofChange diffListsSpec)

/-- ITS FALSE NEIGHBOUR: 'it returns false'. Refute it at one input. -/
def diffListsWrong : ChangeSpec := { name := "diffLists", fn := fun _ => fun
  | [d] => { results := [.lit (.bool false)], args := [d] }
  | _ => none }
def DiffListsWrongFalsely : Prop := diffListsRow.holds Try.pinned (OpenSpec.ofChange diffListsWrong)

/-- 'freshetlaw05.DiffOrder': WHATEVER THE INPUT: true; the input reads as it did. -/
def diffOrderSpec : ChangeSpec := { name := "diffOrder", fn := fun _ => fun
  | [d1, d2] => { results := [.lit (.bool true)], args := [d1, d2] }
  | _ => none }
def diffOrderRow : OpenClaim := { program := "ytemaompodlpdjaa", sum := "f3f0d02c7ac53ecbecc7e4dde7d52350e2e1f58cb62d618fdb6e4979ce5bc3d0", func := "freshet/freshetlaw05.DiffOrder", spec := "diffOrder", inPlace := ["math/bits.Add64"], unfollowed := true, recurses := true, apart := false }
def DiffOrderSaid : Prop := diffOrderRow.holds Try.pinned (OpenSpec.ofChange diffOrderSpec)

/-- ITS FALSE NEIGHBOUR: 'it returns false'. Refute it at one input. -/
def diffOrderWrong : ChangeSpec := { name := "diffOrder", fn := fun _ => fun
  | [d1, d2] => { results := [.lit (.bool false)], args := [d1, d2] }
  | _ => none }
def DiffOrderWrongFalsely : Prop := diffOrderRow.holds Try.pinned (OpenSpec.ofChange diffOrderWrong)

/-- 'freshetlaw05.DiffNothing': WHATEVER THE INPUT: true; the input reads as it did. -/
def diffNothingSpec : ChangeSpec := { name := "diffNothing", fn := fun _ => fun
  | [d] => { results := [.lit (.bool true)], args := [d] }
  | _ => none }
def diffNothingRow : OpenClaim := { program := "ytemaompodlpdjaa", sum := "f3f0d02c7ac53ecbecc7e4dde7d52350e2e1f58cb62d618fdb6e4979ce5bc3d0", func := "freshet/freshetlaw05.DiffNothing", spec := "diffNothing", inPlace := ["math/bits.Add64"], unfollowed := true, recurses := true, apart := false }
def DiffNothingSaid : Prop := diffNothingRow.holds Try.pinned (OpenSpec.ofChange diffNothingSpec)

/-- ITS FALSE NEIGHBOUR: 'it returns false'. Refute it at one input. -/
def diffNothingWrong : ChangeSpec := { name := "diffNothing", fn := fun _ => fun
  | [d] => { results := [.lit (.bool false)], args := [d] }
  | _ => none }
def DiffNothingWrongFalsely : Prop := diffNothingRow.holds Try.pinned (OpenSpec.ofChange diffNothingWrong)

/-- 'freshetlaw05.DiffThere': WHATEVER THE INPUT: true; the input reads as it did. -/
def diffThereSpec : ChangeSpec := { name := "diffThere", fn := fun _ => fun
  | [d1, d2, d3] => { results := [.lit (.bool true)], args := [d1, d2, d3] }
  | _ => none }
def diffThereRow : OpenClaim := { program := "ytemaompodlpdjaa", sum := "f3f0d02c7ac53ecbecc7e4dde7d52350e2e1f58cb62d618fdb6e4979ce5bc3d0", func := "freshet/freshetlaw05.DiffThere", spec := "diffThere", inPlace := ["math/bits.Add64"], unfollowed := true, recurses := true, apart := false }
def DiffThereSaid : Prop := diffThereRow.holds Try.pinned (OpenSpec.ofChange diffThereSpec)

/-- ITS FALSE NEIGHBOUR: 'it returns false'. Refute it at one input. -/
def diffThereWrong : ChangeSpec := { name := "diffThere", fn := fun _ => fun
  | [d1, d2, d3] => { results := [.lit (.bool false)], args := [d1, d2, d3] }
  | _ => none }
def DiffThereWrongFalsely : Prop := diffThereRow.holds Try.pinned (OpenSpec.ofChange diffThereWrong)

/-- 'freshetlaw05.DiffSame': WHATEVER THE INPUT: true; the input reads as it did. -/
def diffSameSpec : ChangeSpec := { name := "diffSame", fn := fun _ => fun
  | [d1, d2, d3] => { results := [.lit (.bool true)], args := [d1, d2, d3] }
  | _ => none }
def diffSameRow : OpenClaim := { program := "ytemaompodlpdjaa", sum := "f3f0d02c7ac53ecbecc7e4dde7d52350e2e1f58cb62d618fdb6e4979ce5bc3d0", func := "freshet/freshetlaw05.DiffSame", spec := "diffSame", inPlace := ["math/bits.Add64"], unfollowed := true, recurses := true, apart := false }
def DiffSameSaid : Prop := diffSameRow.holds Try.pinned (OpenSpec.ofChange diffSameSpec)

/-- ITS FALSE NEIGHBOUR: 'it returns false'. Refute it at one input. -/
def diffSameWrong : ChangeSpec := { name := "diffSame", fn := fun _ => fun
  | [d1, d2, d3] => { results := [.lit (.bool false)], args := [d1, d2, d3] }
  | _ => none }
def DiffSameWrongFalsely : Prop := diffSameRow.holds Try.pinned (OpenSpec.ofChange diffSameWrong)

/-- 'freshetlaw05.DiffLater': WHATEVER THE INPUT: true; the input reads as it did. -/
def diffLaterSpec : ChangeSpec := { name := "diffLater", fn := fun _ => fun
  | [d1, d2, d3] => { results := [.lit (.bool true)], args := [d1, d2, d3] }
  | _ => none }
def diffLaterRow : OpenClaim := { program := "ytemaompodlpdjaa", sum := "f3f0d02c7ac53ecbecc7e4dde7d52350e2e1f58cb62d618fdb6e4979ce5bc3d0", func := "freshet/freshetlaw05.DiffLater", spec := "diffLater", inPlace := ["math/bits.Add64"], unfollowed := true, recurses := true, apart := false }
def DiffLaterSaid : Prop := diffLaterRow.holds Try.pinned (OpenSpec.ofChange diffLaterSpec)

/-- ITS FALSE NEIGHBOUR: 'it returns false'. Refute it at one input. -/
def diffLaterWrong : ChangeSpec := { name := "diffLater", fn := fun _ => fun
  | [d1, d2, d3] => { results := [.lit (.bool false)], args := [d1, d2, d3] }
  | _ => none }
def DiffLaterWrongFalsely : Prop := diffLaterRow.holds Try.pinned (OpenSpec.ofChange diffLaterWrong)

/- THE SECOND FORM. 'bulk': how many values and letters a reading holds, each counted each time it is reached (what is shared counts as often as it is met; a slice's spare places count too). A statement '..UptoSaid' is the law's where the arguments, and the package variables that the reading takes, are together of bulk at most 1048576: NARROWER than '..Said'. Prove '..Said' where nothing that the law and all that it calls make is longer than what came in: it says more and counts as full. Else prove '..UptoSaid'. A law counts once. -/
mutual
def uptoBulk {H : Type} : DataW H → Nat
  | .lit (.string bytes) => bytes.length + 1
  | .lit _ => 1
  | .nil => 1
  | .ptr d => uptoBulk d + 1
  | .slice elems spare => uptoBulkAll elems + uptoBulkAll spare + 1
  | .agg parts => uptoBulkAll parts + 1
  | .iface _ d => uptoBulk d + 1
  | .map entries => uptoBulkEntries entries + 1
  | .held _ => 1
def uptoBulkAll {H : Type} : List (DataW H) → Nat
  | [] => 0
  | d :: r => uptoBulk d + uptoBulkAll r
def uptoBulkEntries {H : Type} : List (Lit × DataW H) → Nat
  | [] => 0
  | x :: r => uptoBulkEntry x + uptoBulkEntries r
def uptoBulkEntry {H : Type} : Lit × DataW H → Nat
  | (.string bytes, d) => bytes.length + uptoBulk d + 1
  | (_, d) => uptoBulk d + 1
 end
def uptoSmall : (H : Type) → List (DataW H) → Bool := fun _ ds => decide (uptoBulkAll ds ≤ 1048576)
def OpenSpec.upto (s : _root_.Go.ChangeSpec) : _root_.Go.OpenSpec := { _root_.Go.OpenSpec.ofChange s with cond := some uptoSmall }

/-- 'freshetlaw05.DiffSums', WHERE WHAT IT READS IS OF BULK AT MOST 1048576: true; the input reads as it did. -/
def diffSumsUptoRow : OpenClaim := { program := "ytemaompodlpdjaa", sum := "f3f0d02c7ac53ecbecc7e4dde7d52350e2e1f58cb62d618fdb6e4979ce5bc3d0", func := "freshet/freshetlaw05.DiffSums", spec := "diffSums", inPlace := ["math/bits.Add64"], apart := false, narrowed := true }
def DiffSumsUptoSaid : Prop := diffSumsUptoRow.holds Try.pinned (OpenSpec.upto diffSumsSpec)

/-- 'freshetlaw05.DiffNumbers', WHERE WHAT IT READS IS OF BULK AT MOST 1048576: true; the input reads as it did. -/
def diffNumbersUptoRow : OpenClaim := { program := "ytemaompodlpdjaa", sum := "f3f0d02c7ac53ecbecc7e4dde7d52350e2e1f58cb62d618fdb6e4979ce5bc3d0", func := "freshet/freshetlaw05.DiffNumbers", spec := "diffNumbers", inPlace := ["math/bits.Add64"], apart := false, narrowed := true }
def DiffNumbersUptoSaid : Prop := diffNumbersUptoRow.holds Try.pinned (OpenSpec.upto diffNumbersSpec)

/-- 'freshetlaw05.DiffLists', WHERE WHAT IT READS IS OF BULK AT MOST 1048576: true; the input reads as it did. -/
def diffListsUptoRow : OpenClaim := { program := "ytemaompodlpdjaa", sum := "f3f0d02c7ac53ecbecc7e4dde7d52350e2e1f58cb62d618fdb6e4979ce5bc3d0", func := "freshet/freshetlaw05.DiffLists", spec := "diffLists", inPlace := ["math/bits.Add64"], unfollowed := true, recurses := true, apart := false, narrowed := true }
def DiffListsUptoSaid : Prop := diffListsUptoRow.holds Try.pinned (OpenSpec.upto diffListsSpec)

/-- 'freshetlaw05.DiffOrder', WHERE WHAT IT READS IS OF BULK AT MOST 1048576: true; the input reads as it did. -/
def diffOrderUptoRow : OpenClaim := { program := "ytemaompodlpdjaa", sum := "f3f0d02c7ac53ecbecc7e4dde7d52350e2e1f58cb62d618fdb6e4979ce5bc3d0", func := "freshet/freshetlaw05.DiffOrder", spec := "diffOrder", inPlace := ["math/bits.Add64"], unfollowed := true, recurses := true, apart := false, narrowed := true }
def DiffOrderUptoSaid : Prop := diffOrderUptoRow.holds Try.pinned (OpenSpec.upto diffOrderSpec)

/-- 'freshetlaw05.DiffNothing', WHERE WHAT IT READS IS OF BULK AT MOST 1048576: true; the input reads as it did. -/
def diffNothingUptoRow : OpenClaim := { program := "ytemaompodlpdjaa", sum := "f3f0d02c7ac53ecbecc7e4dde7d52350e2e1f58cb62d618fdb6e4979ce5bc3d0", func := "freshet/freshetlaw05.DiffNothing", spec := "diffNothing", inPlace := ["math/bits.Add64"], unfollowed := true, recurses := true, apart := false, narrowed := true }
def DiffNothingUptoSaid : Prop := diffNothingUptoRow.holds Try.pinned (OpenSpec.upto diffNothingSpec)

/-- 'freshetlaw05.DiffThere', WHERE WHAT IT READS IS OF BULK AT MOST 1048576: true; the input reads as it did. -/
def diffThereUptoRow : OpenClaim := { program := "ytemaompodlpdjaa", sum := "f3f0d02c7ac53ecbecc7e4dde7d52350e2e1f58cb62d618fdb6e4979ce5bc3d0", func := "freshet/freshetlaw05.DiffThere", spec := "diffThere", inPlace := ["math/bits.Add64"], unfollowed := true, recurses := true, apart := false, narrowed := true }
def DiffThereUptoSaid : Prop := diffThereUptoRow.holds Try.pinned (OpenSpec.upto diffThereSpec)

/-- 'freshetlaw05.DiffSame', WHERE WHAT IT READS IS OF BULK AT MOST 1048576: true; the input reads as it did. -/
def diffSameUptoRow : OpenClaim := { program := "ytemaompodlpdjaa", sum := "f3f0d02c7ac53ecbecc7e4dde7d52350e2e1f58cb62d618fdb6e4979ce5bc3d0", func := "freshet/freshetlaw05.DiffSame", spec := "diffSame", inPlace := ["math/bits.Add64"], unfollowed := true, recurses := true, apart := false, narrowed := true }
def DiffSameUptoSaid : Prop := diffSameUptoRow.holds Try.pinned (OpenSpec.upto diffSameSpec)

/-- 'freshetlaw05.DiffLater', WHERE WHAT IT READS IS OF BULK AT MOST 1048576: true; the input reads as it did. -/
def diffLaterUptoRow : OpenClaim := { program := "ytemaompodlpdjaa", sum := "f3f0d02c7ac53ecbecc7e4dde7d52350e2e1f58cb62d618fdb6e4979ce5bc3d0", func := "freshet/freshetlaw05.DiffLater", spec := "diffLater", inPlace := ["math/bits.Add64"], unfollowed := true, recurses := true, apart := false, narrowed := true }
def DiffLaterUptoSaid : Prop := diffLaterUptoRow.holds Try.pinned (OpenSpec.upto diffLaterSpec)

end Rows
end Go.Proofs.Ytemaompodlpdjaa
