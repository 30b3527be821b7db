import Derived.Test.YtcfbbbmnfloflaaL3b
import Derived.Test.YtcfbbbmnfloflaaN3r
namespace Go.Av
theorem one_le_bulkValue (x : Value) : 1 ≤ bulkValue x := by unfold bulkValue; omega
theorem bulk_len (l : List Value) : l.length ≤ (l.map bulkValue).sum := length_le_sum one_le_bulkValue l
theorem ValueFirst_law {f a b : List Value} (h : ((f.map bulkValue).sum + 1) + (((a.map bulkValue).sum + 1) + (((b.map bulkValue).sum + 1) + 0)) ≤ 1048576) : freshetlaw03_ValueFirst f a b = some true := by
  have h1 := bulk_len f
  have h2 := bulk_len a
  have h3 := bulk_len b
  exact ValueFirst_true (by omega)
theorem ValueMakes_law {row : List Value} {cols : List Int} {rows : List (List Value)} (h : ((row.map bulkValue).sum + 1) + (((cols.map fun _ => 1).sum + 1) + (((rows.map fun xs => (xs.map bulkValue).sum + 1).sum + 1) + 0)) ≤ 1048576) : freshetlaw03_ValueMakes row cols rows = some true := by
  have h2 := length_le_sum (f := fun _ => 1) (fun _ => Nat.le_refl _) cols
  have h3 := length_le_sum (f := fun xs : List Value => (xs.map bulkValue).sum + 1) (fun _ => Nat.le_add_left _ _) rows
  exact ValueMakes_true (by omega) (by omega)
end Go.Av
