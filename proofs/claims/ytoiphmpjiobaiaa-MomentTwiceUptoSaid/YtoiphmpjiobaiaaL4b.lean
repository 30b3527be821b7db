import Derived.Test.YtoiphmpjiobaiaaL4
import Derived.Test.YtoiphmpjiobaiaaR4
namespace Go.Av
theorem nonneg_u64 {n : Int} (h : okInt .u64 n) : 0 ≤ n := (Go.bounds_u64 h).1
theorem nnTime_of {t : Time} (h : okTime t) : nnTime t := ⟨nonneg_u64 h.1, nonneg_u64 h.2.1.1, nonneg_u64 h.2.1.2⟩
theorem MomentBounds_law {l : List Time} (h : l.length ≤ maxN ∧ ∀ x ∈ l, okTime x) : freshetlaw04_MomentBounds l = some true := MomentBounds_true fun x hx => nnTime_of (h.2 x hx)
theorem length_le_bulk {X : Type} {f : X → Nat} (h : ∀ x, 1 ≤ f x) (l : List X) : l.length ≤ (l.map f).sum := length_le_sum h l
theorem MomentTwice_law {a b : List Time} (ha : a.length ≤ maxN ∧ ∀ x ∈ a, okTime x) (hb : b.length ≤ maxN ∧ ∀ x ∈ b, okTime x) (h : ((a.map bulkTime).sum + 1) + (((b.map bulkTime).sum + 1) + 0) ≤ 1048576) :
    freshetlaw04_MomentTwice a b = some true := by
  have h1 := length_le_sum (f := bulkTime) (fun x => by unfold bulkTime; omega) a
  have h2 := length_le_sum (f := bulkTime) (fun x => by unfold bulkTime; omega) b
  exact MomentTwice_true (fun x hx => nnTime_of (ha.2 x hx)) (fun x hx => nnTime_of (hb.2 x hx)) (by omega)
end Go.Av
