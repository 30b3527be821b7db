import Derived.Test.YtfgohaghjaeafaaL1f
import Derived.Test.YtfgohaghjaeafaaN1b
namespace Go.Av
open Go
set_option linter.unusedVariables false

theorem nat_of_u64 {n : Int} (h : okInt .u64 n) : ∃ m : Nat, n = (m : Int) ∧ m < 2 ^ 64 := by
  have := Go.bounds_u64 h
  exact ⟨n.toNat, by omega, by omega⟩
theorem in64_of1 {n : Int} (h : okInt .i64 n) : in64 n := by
  have := Go.bounds_i64 h
  unfold in64; omega

theorem PackSizes_row {n m : Int} (hn : okInt .u64 n) (hm : okInt .i64 m) : freshetlaw01_PackSizes 12 n m = some true := by
  obtain ⟨n, rfl, h⟩ := nat_of_u64 hn
  exact PackSizes_law h (in64_of1 hm)
theorem PackCounts_row {n m : Int} {t : ByteArray} (hn : okInt .u64 n) (hm : okInt .i64 m) (hb : 1 + (1 + (t.size + 1 + 0)) ≤ 1048576) : freshetlaw01_PackCounts 12 n m t = some true := by
  obtain ⟨n, rfl, h⟩ := nat_of_u64 hn
  exact PackCounts_law h (in64_of1 hm) (by omega)
theorem PackTurned_row {p0 : ByteArray} {p1 p2 : Int} (h0 : p0.size ≤ maxN) (h2 : okInt .u8 p2) : freshetlaw01_PackTurned p0 p1 p2 = some true := by
  have := Go.bounds_u8 h2
  exact PackTurned_law h0 (by omega)
theorem PackShort_row {n : Int} {t : ByteArray} {p2 : Int} (hn : okInt .u64 n) : freshetlaw01_PackShort n t p2 = some true := by
  obtain ⟨n, rfl, h⟩ := nat_of_u64 hn
  exact PackShort_law h
theorem PackBack_row {n m : Int} {t r : ByteArray} (hn : okInt .u64 n) (hm : okInt .i64 m) (hb : 1 + (1 + (t.size + 1 + (r.size + 1 + 0))) ≤ 1048576) : freshetlaw01_PackBack n m t r = some true := by
  obtain ⟨n, rfl, h⟩ := nat_of_u64 hn
  exact PackBack_law h (in64_of1 hm) (by omega) (by omega)
end Go.Av
