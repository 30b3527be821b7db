import Derived.Test.YtoiphmpjiobaiaaPQ2
namespace Go.Av
open Go
set_option linter.unusedVariables false
set_option linter.unusedSimpArgs false

theorem sift_sz (hi first root : Nat) (d : Array Time) : (Sort.siftDown ltT hi first root d).size = d.size := siftDown_sz hi first hi root d (by omega)

theorem down_loop {B : Int × List Time → Option (Ctl (Int × List Time) Empty)} (g h : Nat → Array Time → Array Time) {k k0 fuel : Nat} {d : Array Time} (hk : k ≤ k0) (hg : ∀ k d, (g k d).size = d.size) (hf : k < fuel)
    (hB : ∀ (k : Nat) (d' : Array Time), k ≤ k0 → d'.size = d.size → B ((k : Int) - 1, d'.toList) = match k with | 0 => some (.brk (-1, d'.toList)) | k + 1 => some (.next ((k : Int) - 1, (g k d').toList)))
    (h0 : ∀ d, h 0 d = d) (h1 : ∀ k d, h (k + 1) d = h k (g k d)) :
    ∃ x : Int, loopN B fuel ((k : Int) - 1, d.toList) = some (.done (x, (h k d).toList)) := by
  induction k generalizing d fuel with
  | zero =>
    cases fuel with
    | zero => omega
    | succ fuel => exact ⟨-1, by rw [loopN_brk (hB 0 d hk rfl), h0]⟩
  | succ k ih =>
    cases fuel with
    | zero => omega
    | succ fuel =>
      rw [loopN_next (hB (k + 1) d hk rfl), h1]
      exact ih (by omega) (by omega) (fun k' d' h2 h => hB k' d' h2 (by rw [h, hg]))

theorem heapBuild_sz (hi first : Nat) : ∀ (k : Nat) (d : Array Time), (Sort.heapBuild ltT hi first k d).size = d.size
  | 0, d => rfl
  | k + 1, d => by unfold Sort.heapBuild; rw [heapBuild_sz hi first k, sift_sz]

theorem heapSort_eq {fuel a b : Nat} {d : Array Time} (hab : a < b) (hb : b ≤ d.size) (hd : d.size < 1152921504606846976) (hf : d.size + 2 < fuel) :
    slices_heapSortCmpFunc_Time__Compare_w fuel (a : Int) (b : Int) d.toList = some (Sort.heapSort ltT d a b).toList := by
  unfold slices_heapSortCmpFunc_Time__Compare_w Sort.heapSort
  have e0 : IntKind.i64.wrap ((b : Int) - (a : Int)) = ((b - a : Nat) : Int) := wsub (by omega) (by omega)
  have e1 : IntKind.i64.wrap (((b - a : Nat) : Int) - 1) = (((b - a : Nat) : Int) - 1) := wrap_small (by omega) (by omega)
  have e2 : IntKind.i64.wrap ((((b - a : Nat) : Int) - 1).tdiv 2) = (((b - a - 1) / 2 + 1 : Nat) : Int) - 1 := by
    rw [Int.tdiv_eq_ediv_of_nonneg (by omega), wrap_small (by omega) (by omega)]; omega
  rw [e0, e1, e2]
  refine outK_ex (down_loop (k0 := (b - a - 1) / 2 + 1) (fun k d => Sort.siftDown ltT (b - a) a k d) (fun k d => Sort.heapBuild ltT (b - a) a k d) (Nat.le_refl _) (fun k d => sift_sz _ _ _ _) (by omega) ?_ (fun d => rfl) (fun k d => rfl)) (fun x => ?_)
  · intro k e hk he
    simp only [bf_decide]
    cases k with
    | zero => rw [if_neg (by omega)]; rfl
    | succ k =>
      rw [if_pos (by omega), show ((k + 1 : Nat) : Int) - 1 = (k : Int) by omega, siftDown_eq (by omega) (by omega) (by omega) (by omega), Option.bind_some]
      rw [need_true (by rw [Array.length_toList, Array.length_toList, sift_sz]), wrap_i64_in (by unfold in64; omega)]
  · have hsz := heapBuild_sz (b - a) a ((b - a - 1) / 2 + 1) d
    simp only
    generalize Sort.heapBuild ltT (b - a) a ((b - a - 1) / 2 + 1) d = d1 at *
    refine outK_ex (down_loop (k0 := b - a) (fun k d => Sort.siftDown ltT k a 0 (Sort.swp d a (a + k))) (fun k d => Sort.heapPop ltT a k d) (Nat.le_refl _) (fun k d => by rw [sift_sz, swp_sz]) (by omega) ?_ (fun d => rfl) (fun k d => rfl)) (fun x => rfl)
    intro k e hk he
    simp only [bf_decide]
    cases k with
    | zero => rw [if_neg (by omega)]; rfl
    | succ k =>
      rw [if_pos (by omega), show ((k + 1 : Nat) : Int) - 1 = (k : Int) by omega]
      have w1 : IntKind.i64.wrap ((a : Int) + (k : Int)) = ((a + k : Nat) : Int) := wadd (by omega)
      have w2 : IntKind.i64.wrap ((k : Int) - 1) = (k : Int) - 1 := wrap_i64_in (by unfold in64; omega)
      have hs := siftDown_eq (fuel := fuel) (lo := 0) (hi := k) (first := a) (d := Sort.swp e a (a + k)) (by rw [swp_sz]; omega) (by rw [swp_sz]; omega) (by omega) (by rw [swp_sz]; omega)
      rw [show ((0 : Nat) : Int) = 0 from rfl] at hs
      simp (disch := omega) only [w1, w2, Int.toNat_natCast, Nat.zero_add, need_true, Array.length_toList, List.length_set, arr_get, arr_swp, hs, Option.bind_some, sift_sz, swp_sz]
      rw [need_true trivial]


theorem order2_eq {a b s : Nat} {d : Array Time} (ha : a < d.size) (hb : b < d.size) (hs : s < 1000) : slices_order2CmpFunc_Time__Compare_w d.toList (a : Int) (b : Int) (s : Int) = some (((Sort.order2 ltT d a b s).1 : Int), ((Sort.order2 ltT d a b s).2.1 : Int), ((Sort.order2 ltT d a b s).2.2 : Int)) := by
  unfold slices_order2CmpFunc_Time__Compare_w Sort.order2
  simp (disch := omega) only [Int.toNat_natCast, need_true, Array.length_toList, compare_eq, Option.bind_some, arr_get, wadd1, bf_decide]
  unfold ltT
  by_cases h : cmpT d[b]! d[a]! < 0
  · simp [h]
  · simp [h]

theorem order2_mem2 {a b s : Nat} {d : Array Time} : ((Sort.order2 ltT d a b s).1 = a ∧ (Sort.order2 ltT d a b s).2.1 = b ∨ (Sort.order2 ltT d a b s).1 = b ∧ (Sort.order2 ltT d a b s).2.1 = a) ∧ (Sort.order2 ltT d a b s).2.2 ≤ s + 1 := by
  unfold Sort.order2
  split
  · exact ⟨.inr ⟨rfl, rfl⟩, Nat.le_refl _⟩
  · exact ⟨.inl ⟨rfl, rfl⟩, Nat.le_succ _⟩

theorem median_eq {a b c s : Nat} {d : Array Time} (ha : a < d.size) (hb : b < d.size) (hc : c < d.size) (hs : s < 900) : slices_medianCmpFunc_Time__Compare_w d.toList (a : Int) (b : Int) (c : Int) (s : Int) = some (((Sort.median ltT d a b c s).1 : Int), ((Sort.median ltT d a b c s).2 : Int)) := by
  unfold slices_medianCmpFunc_Time__Compare_w
  have m1 := order2_mem2 (a := a) (b := b) (s := s) (d := d)
  rw [order2_eq ha hb (by omega), Option.bind_some]
  have e : Sort.median ltT d a b c s = (let r2 := Sort.order2 ltT d (Sort.order2 ltT d a b s).2.1 c (Sort.order2 ltT d a b s).2.2; let r3 := Sort.order2 ltT d (Sort.order2 ltT d a b s).1 r2.1 r2.2.2; (r3.2.1, r3.2.2)) := rfl
  rw [e]
  generalize Sort.order2 ltT d a b s = r1 at *
  have m2 := order2_mem2 (a := r1.2.1) (b := c) (s := r1.2.2) (d := d)
  simp only
  rw [order2_eq (by omega) hc (by omega), Option.bind_some]
  generalize Sort.order2 ltT d r1.2.1 c r1.2.2 = r2 at *
  simp only
  rw [order2_eq (by omega) (by omega) (by omega), Option.bind_some]

theorem median_cnt {a b c s : Nat} {d : Array Time} : (Sort.median ltT d a b c s).2 ≤ s + 3 := by
  have e : Sort.median ltT d a b c s = (let r2 := Sort.order2 ltT d (Sort.order2 ltT d a b s).2.1 c (Sort.order2 ltT d a b s).2.2; let r3 := Sort.order2 ltT d (Sort.order2 ltT d a b s).1 r2.1 r2.2.2; (r3.2.1, r3.2.2)) := rfl
  rw [e]
  have m1 := order2_mem2 (a := a) (b := b) (s := s) (d := d)
  generalize Sort.order2 ltT d a b s = r1 at *
  have m2 := order2_mem2 (a := r1.2.1) (b := c) (s := r1.2.2) (d := d)
  simp only
  generalize Sort.order2 ltT d r1.2.1 c r1.2.2 = r2 at *
  have m3 := order2_mem2 (a := r1.1) (b := r2.1) (s := r2.2.2) (d := d)
  omega

theorem medianAdjacent_eq {a s : Nat} {d : Array Time} (h1 : 1 ≤ a) (ha : a + 1 < d.size) (hd : d.size < 1152921504606846976) (hs : s < 900) : slices_medianAdjacentCmpFunc_Time__Compare_w d.toList (a : Int) (s : Int) = some (((Sort.medianAdjacent ltT d a s).1 : Int), ((Sort.medianAdjacent ltT d a s).2 : Int)) := by
  unfold slices_medianAdjacentCmpFunc_Time__Compare_w Sort.medianAdjacent
  rw [wsub1 h1 (by omega), wadd1 (by omega), median_eq (by omega) (by omega) ha hs, Option.bind_some]

def hintN : Sort.Hint → Int
  | .unknown => 0
  | .increasing => 1
  | .decreasing => 2

theorem medianAdjacent_cnt {a s : Nat} {d : Array Time} : (Sort.medianAdjacent ltT d a s).2 ≤ s + 3 := median_cnt

theorem pivot50 {Q : Type} {i j k : Nat} {d : Array Time} (hd : d.size < 1152921504606846976) (hi : 1 ≤ i ∧ i + 1 < d.size) (hj : 1 ≤ j ∧ j + 1 < d.size) (hk : 1 ≤ k ∧ k + 1 < d.size) {K : Int × Int → Option Q} {r1 r2 r3 : Nat × Nat}
    (h1 : Sort.medianAdjacent ltT d i 0 = r1) (h2 : Sort.medianAdjacent ltT d j r1.2 = r2) (h3 : Sort.medianAdjacent ltT d k r2.2 = r3) :
    ((slices_medianAdjacentCmpFunc_Time__Compare_w d.toList (i : Int) 0).bind fun r6 => (slices_medianAdjacentCmpFunc_Time__Compare_w d.toList (j : Int) r6.2).bind fun r7 => (slices_medianAdjacentCmpFunc_Time__Compare_w d.toList (k : Int) r7.2).bind fun r8 => (slices_medianCmpFunc_Time__Compare_w d.toList r6.1 r7.1 r8.1 r8.2).bind K)
      = K (((Sort.median ltT d r1.1 r2.1 r3.1 r3.2).1 : Int), ((Sort.median ltT d r1.1 r2.1 r3.1 r3.2).2 : Int)) ∧ (Sort.median ltT d r1.1 r2.1 r3.1 r3.2).2 < 1000 := by
  have z : ((0 : Nat) : Int) = 0 := rfl
  have q1 := medianAdjacent_eq (a := i) (s := 0) (d := d) hi.1 hi.2 hd (by omega)
  have c1 := medianAdjacent_cnt (a := i) (s := 0) (d := d)
  have p1 := Sort.medianAdjacent_mem ltT d i 0
  rw [z, h1] at q1
  rw [h1] at c1 p1
  have q2 := medianAdjacent_eq (a := j) (s := r1.2) (d := d) hj.1 hj.2 hd (by omega)
  have c2 := medianAdjacent_cnt (a := j) (s := r1.2) (d := d)
  have p2 := Sort.medianAdjacent_mem ltT d j r1.2
  rw [h2] at q2 c2 p2
  have q3 := medianAdjacent_eq (a := k) (s := r2.2) (d := d) hk.1 hk.2 hd (by omega)
  have c3 := medianAdjacent_cnt (a := k) (s := r2.2) (d := d)
  have p3 := Sort.medianAdjacent_mem ltT d k r2.2
  rw [h3] at q3 c3 p3
  have q4 := median_eq (a := r1.1) (b := r2.1) (c := r3.1) (s := r3.2) (d := d) (by omega) (by omega) (by omega) (by omega)
  have c4 := median_cnt (a := r1.1) (b := r2.1) (c := r3.1) (s := r3.2) (d := d)
  rw [q1, Option.bind_some]
  simp only
  rw [q2, Option.bind_some]
  simp only
  rw [q3, Option.bind_some]
  simp only
  rw [q4, Option.bind_some]
  exact ⟨rfl, by omega⟩

theorem pivotFin {r : Nat × Nat} : (if ((r.2 : Nat) : Int) = 0 then some (((r.1 : Nat) : Int), (1 : Int)) else if ((r.2 : Nat) : Int) = 12 then some (((r.1 : Nat) : Int), 2) else some (((r.1 : Nat) : Int), 0)) = some (((r.1 : Nat) : Int), hintN (Sort.hintOf r.2)) := by
  unfold Sort.hintOf
  by_cases h1 : r.2 = 0
  · rw [if_pos (by omega), if_pos h1]; rfl
  · rw [if_neg (by omega), if_neg h1]
    by_cases h2 : r.2 = 12
    · rw [if_pos (by omega), if_pos h2]; rfl
    · rw [if_neg (by omega), if_neg h2]; rfl

theorem choosePivot_eq {a b : Nat} {d : Array Time} (hab : a < b) (hb : b ≤ d.size) (hd : d.size < 1152921504606846976) :
    slices_choosePivotCmpFunc_Time__Compare d.toList (a : Int) (b : Int) = some (((Sort.choosePivot ltT d a b).1 : Int), hintN (Sort.choosePivot ltT d a b).2) := by
  unfold slices_choosePivotCmpFunc_Time__Compare
  have e0 : IntKind.i64.wrap ((b : Int) - (a : Int)) = ((b - a : Nat) : Int) := wsub (by omega) (by omega)
  have e1 : IntKind.i64.wrap (((b - a : Nat) : Int).tdiv 4) = (((b - a) / 4 : Nat) : Int) := by rw [Int.tdiv_eq_ediv_of_nonneg (by omega), wrap_small (by omega) (by omega)]; omega
  have m : ∀ k : Nat, k ≤ 3 → IntKind.i64.wrap ((a : Int) + IntKind.i64.wrap ((((b - a) / 4 : Nat) : Int) * (k : Int))) = ((a + (b - a) / 4 * k : Nat) : Int) := fun k hk => by
    have h1 : (b - a) / 4 * k ≤ b - a := Nat.le_trans (Nat.mul_le_mul_left _ hk) (by omega)
    have h2 : (((b - a) / 4 : Nat) : Int) * (k : Int) = (((b - a) / 4 * k : Nat) : Int) := by rw [Int.natCast_mul]
    have h3 : IntKind.i64.wrap (((b - a) / 4 * k : Nat) : Int) = (((b - a) / 4 * k : Nat) : Int) := wrap_i64_in (by unfold in64; omega)
    rw [h2, h3, wadd (by omega)]
  have m1 := m 1 (by omega)
  have m2 := m 2 (by omega)
  have m3 := m 3 (by omega)
  rw [show ((1 : Nat) : Int) = 1 from rfl] at m1
  rw [show ((2 : Nat) : Int) = 2 from rfl] at m2
  rw [show ((3 : Nat) : Int) = 3 from rfl] at m3
  simp only [e0, e1, m1, m2, m3, jn_eq, bf_decide]
  rw [Sort.choosePivot_eq]
  clear e0 e1 m m1 m2 m3
  have hraw : Sort.rawPivot ltT d a b = if b - a ≥ 8 then (if b - a ≥ 50 then (Sort.median ltT d (Sort.medianAdjacent ltT d (a + (b - a) / 4 * 1) 0).1 (Sort.medianAdjacent ltT d (a + (b - a) / 4 * 2) (Sort.medianAdjacent ltT d (a + (b - a) / 4 * 1) 0).2).1 (Sort.medianAdjacent ltT d (a + (b - a) / 4 * 3) (Sort.medianAdjacent ltT d (a + (b - a) / 4 * 2) (Sort.medianAdjacent ltT d (a + (b - a) / 4 * 1) 0).2).2).1 (Sort.medianAdjacent ltT d (a + (b - a) / 4 * 3) (Sort.medianAdjacent ltT d (a + (b - a) / 4 * 2) (Sort.medianAdjacent ltT d (a + (b - a) / 4 * 1) 0).2).2).2)
      else (Sort.median ltT d (a + (b - a) / 4 * 1) (a + (b - a) / 4 * 2) (a + (b - a) / 4 * 3) 0)) else (a + (b - a) / 4 * 2, 0) := rfl
  rw [hraw]
  by_cases h8 : b - a ≥ 8
  · rw [if_pos (by omega), if_pos h8]
    by_cases h50 : b - a ≥ 50
    · rw [if_pos (by omega), if_pos h50]
      obtain ⟨q, _⟩ := pivot50 (d := d) (i := a + (b - a) / 4 * 1) (j := a + (b - a) / 4 * 2) (k := a + (b - a) / 4 * 3) (K := fun (a1 : Int × Int) => if a1.2 = 0 then some (a1.1, (1 : Int)) else if a1.2 = 12 then some (a1.1, 2) else some (a1.1, 0)) hd (by omega) (by omega) (by omega) rfl rfl rfl
      exact q.trans pivotFin
    · rw [if_neg (by omega), if_neg h50]
      have z : ((0 : Nat) : Int) = 0 := rfl
      have q1 := median_eq (a := a + (b - a) / 4 * 1) (b := a + (b - a) / 4 * 2) (c := a + (b - a) / 4 * 3) (s := 0) (d := d) (by omega) (by omega) (by omega) (by omega)
      rw [z] at q1
      simp only
      rw [q1, Option.bind_some]
      exact pivotFin
  · rw [if_neg (by omega), if_neg h8]
    exact pivotFin (r := (a + (b - a) / 4 * 2, 0))

theorem reverse_loop {B : Int × Int × List Time → Option (Ctl (Int × Int × List Time) Empty)} {n i j fuel : Nat} {d : Array Time} (hn : j - i ≤ n) (hf : n < fuel) (hj : j < d.size)
    (hB : ∀ (i j : Nat) (d' : Array Time), d'.size = d.size → j < d.size → B ((i : Int), (j : Int), d'.toList) = if i < j then some (.next (((i + 1 : Nat) : Int), ((j - 1 : Nat) : Int), (Sort.swp d' i j).toList)) else some (.brk ((i : Int), (j : Int), d'.toList))) :
    ∃ x y : Int, loopN B fuel ((i : Int), (j : Int), d.toList) = some (.done (x, y, (Sort.reverseLoop i j d).toList)) := by
  induction n generalizing i j d fuel with
  | zero =>
    cases fuel with
    | zero => omega
    | succ fuel =>
      have h := hB i j d rfl hj
      rw [if_neg (by omega)] at h
      rw [loopN_brk h, Sort.reverseLoop, if_neg (by omega)]
      exact ⟨_, _, rfl⟩
  | succ n ih =>
    cases fuel with
    | zero => omega
    | succ fuel =>
      have h := hB i j d rfl hj
      by_cases hij : i < j
      · rw [if_pos hij] at h
        rw [loopN_next h, Sort.reverseLoop, if_pos hij]
        exact ih (by omega) (by omega) (by rw [swp_sz]; omega) (fun i' j' d' h1 h2 => hB i' j' d' (by rw [h1, swp_sz]) (by rw [swp_sz] at h2; exact h2))
      · rw [if_neg hij] at h
        rw [loopN_brk h, Sort.reverseLoop, if_neg hij]
        exact ⟨_, _, rfl⟩

theorem outK_ex2 {X Y Z R Q : Type} {o : Option (Out (X × Y × Z) R)} {kn : X × Y × Z → Option Q} {kr : R → Option Q} {r : Z} {q : Option Q} (h : ∃ (x : X) (y : Y), o = some (.done (x, y, r))) (hk : ∀ x y, kn (x, y, r) = q) : outK o kn kr = q := by
  obtain ⟨x, y, h⟩ := h
  rw [h]
  exact hk x y

theorem reverseRange_eq {fuel a b : Nat} {d : Array Time} (hab : a < b) (hb : b ≤ d.size) (hd : d.size < 1152921504606846976) (hf : d.size + 2 < fuel) :
    slices_reverseRangeCmpFunc_Time__Compare_w fuel (a : Int) (b : Int) d.toList = some (Sort.reverseRange d a b).toList := by
  unfold slices_reverseRangeCmpFunc_Time__Compare_w Sort.reverseRange
  rw [wsub1 (by omega) (by omega)]
  refine outK_ex2 (reverse_loop (n := d.size) (by omega) (by omega) (by omega) ?_) (fun x y => rfl)
  intro i j e he hj
  simp only [bf_decide, intlt]
  by_cases hij : i < j
  · rw [if_pos hij, if_pos hij]
    simp (disch := omega) only [wsub1, wadd1, Int.toNat_natCast, Nat.zero_add, need_true, Array.length_toList, List.length_set, arr_get, arr_swp]
  · rw [if_neg hij, if_neg hij]

end Go.Av
