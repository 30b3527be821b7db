import Derived.Test.YtoiphmpjiobaiaaL5
import Derived.Test.YtoiphmpjiobaiaaM5r
namespace Go.Av
theorem nonneg_u64 {n : Int} (h : okInt .u64 n) : 0 ≤ n := (Go.bounds_u64 h).1
theorem nnTime_of {t : Time} (h : okTime t) : nnTime t := ⟨nonneg_u64 h.1, nonneg_u64 h.2.1.1, nonneg_u64 h.2.1.2⟩
theorem MomentOrders_law {a b : Time} {l : List Time} (ha : okTime a) (hb : okTime b) : freshetlaw04_MomentOrders 5 a b l = some true := MomentOrders_true l (nnTime_of ha) (nnTime_of hb)
theorem MomentLine_law {a b c : Time} (ha : okTime a) (hb : okTime b) (hc : okTime c) : freshetlaw04_MomentLine a b c = some true := MomentLine_true (nnTime_of ha) (nnTime_of hb) (nnTime_of hc)
theorem MomentLattice_law {l : List Time} {t : Time} (hl : l.length ≤ maxN ∧ ∀ x ∈ l, okTime x) (ht : okTime t) : freshetlaw04_MomentLattice l t = some true := MomentLattice_true (fun x hx => nnTime_of (hl.2 x hx)) (nnTime_of ht)
end Go.Av
