import Derived.Test.YtoiphmpjiobaiaaNC
import Derived.Sort.LotD3
import Derived.Sort.LotD4
import Derived.Sort.LotA
import Derived.Sort.LotB
import Derived.Sort.LotC
namespace Go.Av
open Go
set_option linter.unusedVariables false
set_option linter.unusedSimpArgs false

section
variable {α : Type} [Inhabited α]

theorem arr_get (d : Array α) (j : Nat) : d.toList.getD j default = d[j]! := by
  rw [List.getD_eq_getElem?_getD, Array.getElem?_toList, getElem!_def]
  cases d[j]? <;> rfl

theorem arr_swp (d : Array α) (i j : Nat) : (d.toList.set i d[j]!).set j d[i]! = (Sort.swp d i j).toList := by
  unfold Sort.swp
  rw [Array.toList_setIfInBounds, Array.toList_setIfInBounds]

theorem swp_sz (d : Array α) (i j : Nat) : (Sort.swp d i j).size = d.size := by unfold Sort.swp; simp

theorem wsub1 {j : Nat} (h1 : 1 ≤ j) (h : j < 4611686018427387904) : IntKind.i64.wrap ((j : Int) - 1) = ((j - 1 : Nat) : Int) := by
  rw [wrap_small (by omega) (by omega)]; omega
theorem wadd1 {j : Nat} (h : j < 4611686018427387904) : IntKind.i64.wrap ((j : Int) + 1) = ((j + 1 : Nat) : Int) := by
  rw [wrap_small (by omega) (by omega)]; omega
theorem wsub {i j : Nat} (h1 : j ≤ i) (h : i < 4611686018427387904) : IntKind.i64.wrap ((i : Int) - (j : Int)) = ((i - j : Nat) : Int) := by
  rw [wrap_small (by omega) (by omega)]; omega
theorem wadd {i j : Nat} (h : i + j < 4611686018427387904) : IntKind.i64.wrap ((i : Int) + (j : Int)) = ((i + j : Nat) : Int) := by
  rw [wrap_small (by omega) (by omega)]; omega
theorem wtwo {i : Nat} (h : 2 * i < 4611686018427387904) : IntKind.i64.wrap ((2 : Int) * (i : Int)) = ((2 * i : Nat) : Int) := by
  rw [wrap_small (by omega) (by omega)]; omega
theorem intle {i j : Nat} : ((i : Int) ≤ (j : Int)) = (i ≤ j) := propext (by omega)
theorem intlt {i j : Nat} : ((i : Int) < (j : Int)) = (i < j) := propext (by omega)

theorem loopN_next {S R : Type} {B : S → Option (Ctl S R)} {fuel : Nat} {s s' : S} (h : B s = some (.next s')) : loopN B (fuel + 1) s = loopN B fuel s' := by rw [loopN, h]
theorem loopN_brk {S R : Type} {B : S → Option (Ctl S R)} {fuel : Nat} {s s' : S} (h : B s = some (.brk s')) : loopN B (fuel + 1) s = some (.done s') := by rw [loopN, h]
theorem loopN_ret {S R : Type} {B : S → Option (Ctl S R)} {fuel : Nat} {s : S} {r : R} (h : B s = some (.ret r)) : loopN B (fuel + 1) s = some (.ret r) := by rw [loopN, h]
theorem outK_ex {X Y R Q : Type} {o : Option (Out (X × Y) R)} {kn : X × Y → Option Q} {kr : R → Option Q} {r : Y} {q : Option Q} (h : ∃ x : X, o = some (.done (x, r))) (hk : ∀ x, kn (x, r) = q) : outK o kn kr = q := by
  obtain ⟨x, h⟩ := h
  rw [h]
  exact hk x
end
end Go.Av
