import Derived.Test.YtemaompodlpdjaaL8a6
import Derived.Test.YtemaompodlpdjaaProg
namespace Go.Av
open Go Go.Proofs
set_option linter.unusedVariables false
set_option linter.unusedSimpArgs false
def okValue (x : Value) : Prop := (fun _ => True) x.isText ∧ (okInt .i64) x.n ∧ (fun s => s.size ≤ maxN) x.s ∧ True
def bulkValue (x : Value) : Nat := ((fun _ => 1) x.isText + ((fun _ => 1) x.n + ((fun s => s.size + 1) x.s + 0))) + 1
def okTime (x : Time) : Prop := (okInt .u64) x.epoch ∧ (fun p => (okInt .u64) p.1 ∧ (okInt .u64) p.2) x.loop ∧ True
def bulkTime (x : Time) : Nat := ((fun _ => 1) x.epoch + ((fun p => (fun _ => 1) p.1 + (fun _ => 1) p.2 + 1) x.loop + 0)) + 1
def okUpdate (x : Update) : Prop := (fun xs => xs.length ≤ maxN ∧ ∀ x ∈ xs, (okValue) x) x.key ∧ (fun xs => xs.length ≤ maxN ∧ ∀ x ∈ xs, (okValue) x) x.row ∧ (okTime) x.time ∧ (okInt .i64) x.diff ∧ True
def bulkUpdate (x : Update) : Nat := ((fun xs => (xs.map (bulkValue)).sum + 1) x.key + ((fun xs => (xs.map (bulkValue)).sum + 1) x.row + ((bulkTime) x.time + ((fun _ => 1) x.diff + 0)))) + 1
def okWide (x : Wide) : Prop := (okInt .i64) x.high ∧ (okInt .u64) x.low ∧ True
def okCount (x : Count) : Prop := (fun xs => xs.length ≤ maxN ∧ ∀ x ∈ xs, (okValue) x) x.row ∧ (okInt .i64) x.n ∧ True
def bulkCount (x : Count) : Nat := ((fun xs => (xs.map (bulkValue)).sum + 1) x.row + ((fun _ => 1) x.n + 0)) + 1
theorem readsValue {H : Type} {enc : TypeId × Go.Value → H} {W : World} {Z : TypeId → DataW H → Prop} {B : DataW H → Nat} (hZ : Fine Try.prog Z) (hB : BulkOk B) : Reads enc Try.prog W Z B 95 encValue okValue bulkValue := fun n => by
  have h := ReadsAt.struct (n := n) (enc := enc) (W := W) (tot := 3) hZ hB Try.underlying95 (by kernel_rfl) (fun m _ => (ReadsF.cons (k := 1) (ReadsAt.bool hB Try.underlying4) rfl (by kernel_rfl) (ReadsF.cons (k := 1) (ReadsAt.int hB Try.underlying2) rfl (by kernel_rfl) (ReadsF.cons (k := 1) (ReadsAt.string hZ hB Try.underlying9) rfl (by kernel_rfl) (ReadsF.nil (off := 3))))))
  exact h.map (fun (p : Bool × Int × ByteArray × Unit) => (⟨p.1, p.2.1, p.2.2.1⟩ : Value)) (fun _ _ => rfl) (fun _ h => h) (fun _ _ => Nat.le_refl _)
theorem readsTime {H : Type} {enc : TypeId × Go.Value → H} {W : World} {Z : TypeId → DataW H → Prop} {B : DataW H → Nat} (hZ : Fine Try.prog Z) (hB : BulkOk B) : Reads enc Try.prog W Z B 42 encTime okTime bulkTime := fun n => by
  have h := ReadsAt.struct (n := n) (enc := enc) (W := W) (tot := 3) hZ hB Try.underlying42 (by kernel_rfl) (fun m _ => (ReadsF.cons (k := 1) (ReadsAt.int hB Try.underlying39) rfl (by kernel_rfl) (ReadsF.cons (k := 2) (ReadsAt.pair hZ hB Try.underlying40 (k := 1) (by kernel_rfl) (by kernel_rfl) (fun m _ => (ReadsAt.int hB Try.underlying39))) rfl (by kernel_rfl) (ReadsF.nil (off := 3)))))
  exact h.map (fun (p : Int × (Int × Int) × Unit) => (⟨p.1, p.2.1⟩ : Time)) (fun _ _ => rfl) (fun _ h => h) (fun _ _ => Nat.le_refl _)
theorem readsUpdate {H : Type} {enc : TypeId × Go.Value → H} {W : World} {Z : TypeId → DataW H → Prop} {B : DataW H → Nat} (hZ : Fine Try.prog Z) (hB : BulkOk B) : Reads enc Try.prog W Z B 44 encUpdate okUpdate bulkUpdate := fun n => by
  have h := ReadsAt.struct (n := n) (enc := enc) (W := W) (tot := 6) hZ hB Try.underlying44 (by kernel_rfl) (fun m _ => (ReadsF.cons (k := 1) (ReadsAt.slice (es := 3) (e := encValue) (ok := okValue) (bulk := bulkValue) hZ hB Try.underlying38 (by kernel_rfl) (by kernel_rfl) rfl (fun _ _ => rfl) (fun m _ => (readsValue hZ hB m))) rfl (by kernel_rfl) (ReadsF.cons (k := 1) (ReadsAt.slice (es := 3) (e := encValue) (ok := okValue) (bulk := bulkValue) hZ hB Try.underlying38 (by kernel_rfl) (by kernel_rfl) rfl (fun _ _ => rfl) (fun m _ => (readsValue hZ hB m))) rfl (by kernel_rfl) (ReadsF.cons (k := 3) (readsTime hZ hB m) rfl (by kernel_rfl) (ReadsF.cons (k := 1) (ReadsAt.int hB Try.underlying2) rfl (by kernel_rfl) (ReadsF.nil (off := 6)))))))
  exact h.map (fun (p : (List Value) × (List Value) × Time × Int × Unit) => (⟨p.1, p.2.1, p.2.2.1, p.2.2.2.1⟩ : Update)) (fun _ _ => rfl) (fun _ h => h) (fun _ _ => Nat.le_refl _)
theorem readsCount {H : Type} {enc : TypeId × Go.Value → H} {W : World} {Z : TypeId → DataW H → Prop} {B : DataW H → Nat} (hZ : Fine Try.prog Z) (hB : BulkOk B) : Reads enc Try.prog W Z B 73 encCount okCount bulkCount := fun n => by
  have h := ReadsAt.struct (n := n) (enc := enc) (W := W) (tot := 2) hZ hB Try.underlying73 (by kernel_rfl) (fun m _ => (ReadsF.cons (k := 1) (ReadsAt.slice (es := 3) (e := encValue) (ok := okValue) (bulk := bulkValue) hZ hB Try.underlying38 (by kernel_rfl) (by kernel_rfl) rfl (fun _ _ => rfl) (fun m _ => (readsValue hZ hB m))) rfl (by kernel_rfl) (ReadsF.cons (k := 1) (ReadsAt.int hB Try.underlying2) rfl (by kernel_rfl) (ReadsF.nil (off := 2)))))
  exact h.map (fun (p : (List Value) × Int × Unit) => (⟨p.1, p.2.1⟩ : Count)) (fun _ _ => rfl) (fun _ h => h) (fun _ _ => Nat.le_refl _)
end Go.Av
namespace Go.Av
open Go
set_option linter.unusedVariables false
theorem in64_of {n : Int} (h : okInt .i64 n) : in64 n := by
  have := Go.bounds_i64 h
  unfold in64
  omega
theorem nonneg_u64 {n : Int} (h : okInt .u64 n) : 0 ≤ n := (Go.bounds_u64 h).1
theorem nnTime_of {t : Time} (h : okTime t) : nnTime t := ⟨nonneg_u64 h.1, nonneg_u64 h.2.1.1, nonneg_u64 h.2.1.2⟩
abbrev okUs (l : List Update) : Prop := l.length ≤ maxN ∧ ∀ x ∈ l, okUpdate x
theorem us_in {l : List Update} (h : okUs l) : ∀ u ∈ l, in64 u.diff := fun u hu => in64_of (h.2 u hu).2.2.2.1
theorem us_nn {l : List Update} (h : okUs l) : ∀ u ∈ l, nnTime u.time := fun u hu => nnTime_of (h.2 u hu).2.2.1
theorem us_len (l : List Update) : l.length ≤ (l.map bulkUpdate).sum := length_le_sum (f := bulkUpdate) (fun x => by unfold bulkUpdate; omega) l
theorem cs_len (l : List Count) : l.length ≤ (l.map bulkCount).sum := length_le_sum (f := bulkCount) (fun x => by unfold bulkCount; omega) l
theorem flat_len {α : Type} (f : α → Nat) (hf : ∀ l : List α, l.length ≤ (l.map f).sum) : ∀ ls : List (List α), ls.flatten.length ≤ (ls.map fun l => (l.map f).sum + 1).sum
  | [] => by simp
  | l :: ls => by
    have := hf l
    have := flat_len f hf ls
    simp only [List.flatten_cons, List.length_append, List.map_cons, List.sum_cons]
    omega
theorem DiffThere_row {l : List Update} {t : Time} {c : List (List Count)} (hl : okUs l) (ht : okTime t) (hc : c.length ≤ maxN ∧ ∀ x ∈ c, x.length ≤ maxN ∧ ∀ y ∈ x, okCount y)
    (hb : ((l.map bulkUpdate).sum + 1) + (bulkTime t + (((c.map fun xs => (xs.map bulkCount).sum + 1).sum + 1) + 0)) ≤ 1048576) : freshetlaw05_DiffThere 100000000 l t c = some true := by
  have := us_len l
  have := flat_len bulkCount cs_len c
  refine DiffThere_true lists_eq (by omega) (by omega) (us_in hl) (us_nn hl) (nnTime_of ht) (by omega) (fun u hu => ?_)
  obtain ⟨x, h1, h2⟩ := List.mem_flatten.1 hu
  exact in64_of ((hc.2 x h1).2 u h2).2.1
end Go.Av
