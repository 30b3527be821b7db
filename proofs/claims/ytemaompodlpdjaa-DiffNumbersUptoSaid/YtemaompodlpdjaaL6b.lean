import Derived.Test.YtemaompodlpdjaaL6
import Derived.Test.YtemaompodlpdjaaN5r
namespace Go.Av
theorem in64_of {n : Int} (h : okInt .i64 n) : in64 n := by
  have := Go.bounds_i64 h
  unfold in64
  omega
theorem DiffSums_law {l : List Int} {a b : Int} (hl : l.length ≤ maxN ∧ ∀ x ∈ l, okInt .i64 x) (ha : okInt .i64 a) (hb : okInt .i64 b) : freshetlaw05_DiffSums l a b = some true :=
  DiffSums_true (fun x hx => in64_of (hl.2 x hx)) hl.1 (in64_of ha) (in64_of hb)
theorem DiffNumbers_law {l : List Int} {n k : Int} (hl : l.length ≤ maxN ∧ ∀ x ∈ l, okInt .i64 x) (hn : okInt .i64 n) (hk : okInt .u8 k) (h : ((l.map fun _ => 1).sum + 1) + (1 + (1 + 0)) ≤ 1048576) : freshetlaw05_DiffNumbers 2000000 l n k = some true := by
  have h1 := length_le_sum (f := fun _ => 1) (fun _ => Nat.le_refl _) l
  have h2 := Go.bounds_u8 hk
  exact DiffNumbers_true (fun x hx => in64_of (hl.2 x hx)) (by omega) (in64_of hn) (by omega)
end Go.Av
