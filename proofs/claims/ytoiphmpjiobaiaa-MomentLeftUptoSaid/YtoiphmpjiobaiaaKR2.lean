import Derived.Test.YtoiphmpjiobaiaaKN2
import Derived.Test.YtoiphmpjiobaiaaM8r
namespace Go.Av
theorem nonneg_u64 {n : Int} (h : okInt .u64 n) : 0 ≤ n := (Go.bounds_u64 h).1
theorem nnTime_of {t : Time} (h : okTime t) : nnTime t := ⟨nonneg_u64 h.1, nonneg_u64 h.2.1.1, nonneg_u64 h.2.1.2⟩
theorem nn_of {l : List Time} (h : l.length ≤ maxN ∧ ∀ x ∈ l, okTime x) : NN l := fun x hx => nnTime_of (h.2 x hx)
theorem len_of (l : List Time) : l.length ≤ (l.map bulkTime).sum := length_le_sum (f := bulkTime) (fun x => by unfold bulkTime; omega) l
theorem Advanced_row {l : List Time} {t s : Time} (ht : okTime t) (hl : l.length ≤ maxN ∧ ∀ x ∈ l, okTime x) (hs : okTime s) (h : bulkTime t + (((l.map bulkTime).sum + 1) + (bulkTime s + 0)) ≤ 1048576) : freshetlaw04_MomentAdvanced 2100000 t l s = some true := by
  have := len_of l
  exact MomentAdvanced_law (nnTime_of ht) (nn_of hl) (nnTime_of hs) (by omega)
theorem Least_row {l : List Time} {t : Time} (hl : l.length ≤ maxN ∧ ∀ x ∈ l, okTime x) (ht : okTime t) (h : ((l.map bulkTime).sum + 1) + (bulkTime t + 0) ≤ 1048576) : freshetlaw04_MomentLeast 2100000 l t = some true := by
  have := len_of l
  exact MomentLeast_law (nn_of hl) (nnTime_of ht) (by omega)
theorem Farther_row {t : Time} {f g : List Time} (ht : okTime t) (hf : f.length ≤ maxN ∧ ∀ x ∈ f, okTime x) (hg : g.length ≤ maxN ∧ ∀ x ∈ g, okTime x) (h : bulkTime t + (((f.map bulkTime).sum + 1) + (((g.map bulkTime).sum + 1) + 0)) ≤ 1048576) : freshetlaw04_MomentFarther 2100000 t f g = some true := by
  have := len_of f
  have := len_of g
  exact MomentFarther_law (nnTime_of ht) (nn_of hf) (nn_of hg) (by omega) (by omega)
theorem Left_row {a b : List Time} {t : Time} (ha : a.length ≤ maxN ∧ ∀ x ∈ a, okTime x) (hb : b.length ≤ maxN ∧ ∀ x ∈ b, okTime x) (ht : okTime t) (h : ((a.map bulkTime).sum + 1) + (((b.map bulkTime).sum + 1) + (bulkTime t + 0)) ≤ 1048576) : freshetlaw04_MomentLeft 2200000 a b t = some true := by
  have := len_of a
  have := len_of b
  exact MomentLeft_law (nn_of ha) (nn_of hb) (nnTime_of ht) (by omega)
end Go.Av
