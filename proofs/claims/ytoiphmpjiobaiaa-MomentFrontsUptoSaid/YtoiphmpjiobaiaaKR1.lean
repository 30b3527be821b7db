import Derived.Test.YtoiphmpjiobaiaaKN1
import Derived.Test.YtoiphmpjiobaiaaM8r
namespace Go.Av
theorem nonneg_u64 {n : Int} (h : okInt .u64 n) : 0 ≤ n := (Go.bounds_u64 h).1
theorem nnTime_of {t : Time} (h : okTime t) : nnTime t := ⟨nonneg_u64 h.1, nonneg_u64 h.2.1.1, nonneg_u64 h.2.1.2⟩
theorem nn_of {l : List Time} (h : l.length ≤ maxN ∧ ∀ x ∈ l, okTime x) : NN l := fun x hx => nnTime_of (h.2 x hx)
theorem len_of (l : List Time) : l.length ≤ (l.map bulkTime).sum := length_le_sum (f := bulkTime) (fun x => by unfold bulkTime; omega) l
theorem Fronts_row {l : List Time} {t : Time} (hl : l.length ≤ maxN ∧ ∀ x ∈ l, okTime x) (ht : okTime t) (h : ((l.map bulkTime).sum + 1) + (bulkTime t + 0) ≤ 1048576) : freshetlaw04_MomentFronts 2100000 l t = some true := by
  have := len_of l
  exact MomentFronts_law (nn_of hl) (nnTime_of ht) (by omega)
end Go.Av
