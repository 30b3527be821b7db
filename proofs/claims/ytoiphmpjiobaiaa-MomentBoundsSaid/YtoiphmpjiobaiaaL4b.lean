import Derived.Test.YtoiphmpjiobaiaaL4
import Derived.Test.YtoiphmpjiobaiaaR4
namespace Go.Av
theorem nonneg_u64 {n : Int} (h : okInt .u64 n) : 0 ≤ n := (Go.bounds_u64 h).1
theorem nnTime_of {t : Time} (h : okTime t) : nnTime t := ⟨nonneg_u64 h.1, nonneg_u64 h.2.1.1, nonneg_u64 h.2.1.2⟩
theorem MomentBounds_law {l : List Time} (h : l.length ≤ maxN ∧ ∀ x ∈ l, okTime x) : freshetlaw04_MomentBounds l = some true := MomentBounds_true fun x hx => nnTime_of (h.2 x hx)
end Go.Av
