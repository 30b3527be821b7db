import Derived.Test.YtcfbbbmnfloflaaL3a
namespace Go.Av
open Go
set_option linter.unusedVariables false
set_option linter.unusedSimpArgs false

theorem orders3_eq : freshetlaw03_orders = some true := by
  unfold freshetlaw03_orders freshetlaw03_num freshetlaw03_text
  simp only [valueCompare_eq, valueRows_eq, Option.bind_some, jn_eq]
  rfl

theorem ValueFirst_true {f a b : List Value} (hf : f.length + a.length + b.length ≤ 1048576) : freshetlaw03_ValueFirst f a b = some true := by
  unfold freshetlaw03_ValueFirst
  rw [orders3_eq]
  simp only [Option.bind_some, Bool.not_true, bf_false]
  rw [need_true (by omega), need_true (by omega), need_true (by omega), need_true (by omega)]
  simp only [valueRows_eq, cmpL_append cmpV_is, Option.bind_some, decide_true]

theorem ValueOrders_true {a b : Value} {x y : List Value} (hx : x.length ≤ maxN) : freshetlaw03_ValueOrders (x.length + 1) a b x y = some true := by
  unfold freshetlaw03_ValueOrders
  rw [orders3_eq]
  simp only [Option.bind_some, jn_eq, bf_true, valueCompare_eq, refValueCompare_eq, valueRows_eq, refRows_eq x y (Nat.lt_succ_self _) hx, valueCheck_eq, refCheck_eq, decide_true]

theorem wrapC {x : Int} (h : x = -1 ∨ x = 0 ∨ x = 1) : IntKind.i64.wrap (0 - x) = - x := by
  rcases h with rfl | rfl | rfl <;> rfl

theorem ValueLine_true (a b c : List Value) : freshetlaw03_ValueLine a b c = some true := by
  unfold freshetlaw03_ValueLine
  have hC := cmpV_is.list
  obtain ⟨r, hr1, hr2⟩ := same_eq a b
  have e1 : cmpL cmpV b a = IntKind.i64.wrap (0 - cmpL cmpV a b) := by rw [wrapC (hC.vals a b)]; exact hC.anti a b
  rw [orders3_eq]
  simp only [Option.bind_some, jn_eq, bf_true, bf_false, Bool.not_true, valueRows_eq, valueCheck_eq, hr1, e1, decide_true, hC.refl]
  have tr := hC.tr a b c
  have lt1 : cmpL cmpV a b < 0 → cmpL cmpV b c ≤ 0 → cmpL cmpV a c < 0 := hC.lt_tr
  have lt2 : cmpL cmpV a b ≤ 0 → cmpL cmpV b c < 0 → cmpL cmpV a c < 0 := hC.le_lt
  have key : bf (!decide ((if okRow a then (0 : Int) else 4) = 0)) (some true) (bf (!decide ((if okRow b then (0 : Int) else 4) = 0)) (some true) (some (decide (cmpL cmpV a b = 0) == r))) = some true := by
    by_cases ha : okRow a = true
    · by_cases hb : okRow b = true
      · rw [if_pos ha, if_pos hb]
        have hz := cmpRows_zero (okRow_all ha).1 (okRow_all hb).1
        have : decide (cmpL cmpV a b = 0) = r := by
          rw [Bool.eq_iff_iff, decide_eq_true_eq, hz, hr2]
        rw [this]
        simp
      · rw [if_neg hb]; split <;> rfl
    · rw [if_neg ha]; rfl
  simp only [bf_decide, bf_not] at key ⊢
  rw [key]
  by_cases h1 : cmpL cmpV a b ≤ 0
  · by_cases h2 : cmpL cmpV b c ≤ 0
    · have h3 := tr h1 h2
      rw [if_pos h1, if_pos h2, if_neg (by omega)]
      by_cases h4 : cmpL cmpV a c = 0
      · rw [if_pos h4, if_neg (by omega), if_neg (by omega : ¬ cmpL cmpV b c < 0)]
      · rw [if_neg h4]
    · rw [if_pos h1, if_neg h2]
  · rw [if_neg h1]

/-! ### Rows that are made -/

def inRange (p : List Value) (c : Int) : Bool := decide (0 ≤ c) && decide (c < (p.length : Int))
def colsOf (p : List Value) (cols : List Int) : List Value × Int :=
  if okRow p then (if cols.all (inRange p) then (if 8 < cols.length then ([], 2) else (cols.map fun c => p.getD c.toNat default, 0)) else ([], 1)) else ([], 4)

theorem inRange_false {p : List Value} {c : Int} : (bf (decide (c < 0)) (some true) (some (decide ((p.length : Int) ≤ c)))) = some (!inRange p c) := by
  unfold inRange
  simp only [bf_decide]
  by_cases h : c < 0
  · rw [if_pos h, decide_eq_false (by omega : ¬ 0 ≤ c)]; rfl
  · rw [if_neg h, decide_eq_true (by omega : 0 ≤ c)]
    congr 1
    rw [Bool.eq_iff_iff]
    simp

theorem cols_loop {p : List Value} {cols : List Int} (hc : cols.length ≤ 1048576) {B : Nat → List Value → Option (Ctl (List Value) (List Value × Int))}
    (hB : ∀ i a, i < cols.length → a.length ≤ 1048576 → B i a = if inRange p (cols.getD i default) then some (.next (a ++ [p.getD (cols.getD i default).toNat default])) else some (.ret ([], 1))) :
    (cols.all (inRange p) = true ∧ rangeN B cols.length 0 [] = some (.done (cols.map fun c => p.getD c.toNat default))) ∨ (cols.all (inRange p) = false ∧ rangeN B cols.length 0 [] = some (.ret ([], 1))) := by
  have key : ∀ k i, i + k = cols.length → ((cols.drop i).all (inRange p) = true ∧ rangeN B k i ((cols.take i).map fun c => p.getD c.toNat default) = some (.done (cols.map fun c => p.getD c.toNat default))) ∨ ((cols.drop i).all (inRange p) = false ∧ rangeN B k i ((cols.take i).map fun c => p.getD c.toNat default) = some (.ret ([], 1))) := by
    intro k
    induction k with
    | zero =>
      intro i hi
      left
      rw [List.drop_eq_nil_of_le (by omega : cols.length ≤ i), List.take_of_length_le (by omega)]
      exact ⟨rfl, rfl⟩
    | succ k ih =>
      intro i hi
      rw [drop_cons_getD (by omega : i < cols.length)]
      simp only [rangeN, List.all_cons]
      rw [hB i _ (by omega) (by rw [List.length_map, List.length_take]; omega)]
      have hs : ((cols.take (i + 1)).map fun c => p.getD c.toNat default) = (cols.take i).map (fun c => p.getD c.toNat default) ++ [p.getD (cols.getD i default).toNat default] := by
        rw [take_succ_getD (by omega), List.map_append]; rfl
      by_cases h : inRange p (cols.getD i default) = true
      · rw [if_pos h, h, Bool.true_and]
        rcases ih (i + 1) (by omega) with ⟨h1, h2⟩ | ⟨h1, h2⟩
        · rw [hs] at h2; exact .inl ⟨h1, h2⟩
        · rw [hs] at h2; exact .inr ⟨h1, h2⟩
      · rw [if_neg h]
        right
        exact ⟨by rw [show inRange p (cols.getD i default) = false by simpa using h]; rfl, rfl⟩
  have := key cols.length 0 (by omega)
  simpa using this

theorem valueCols_eq {p : List Value} {cols : List Int} (hc : cols.length ≤ 1048576) : value_Cols p cols = some (colsOf p cols) := by
  unfold value_Cols colsOf
  rw [valueCheck_eq, Option.bind_some]
  by_cases hp : okRow p = true
  · rw [if_pos hp, if_pos hp]
    simp only [decide_true, Bool.not_true, bf_false]
    rcases cols_loop (p := p) hc (B := fun i2 (a3 : List Value) => jn (fun (a5 : Bool) => bf a5 (some (.ret (([] : List Value), 1))) (need ((0 : Int) ≤ (cols.getD i2 default) ∧ (cols.getD i2 default) < (p.length : Int)) <| need (a3.length + ([(p.getD ((cols.getD i2 default).toNat) default)] : List Value).length ≤ 274877906944) <| some (.next (a3 ++ ([(p.getD ((cols.getD i2 default).toNat) default)] : List Value))))) fun j6 => bf (decide ((cols.getD i2 default) < 0)) (j6 true) (j6 (decide ((p.length : Int) ≤ (cols.getD i2 default)))))
      (fun i a hi ha => by
        simp only [jn_eq, bf_decide]
        generalize cols.getD i default = c
        unfold inRange
        by_cases h1 : c < 0
        · rw [if_pos h1, decide_eq_false (by omega : ¬ 0 ≤ c)]; rfl
        · rw [if_neg h1, decide_eq_true (by omega : 0 ≤ c), Bool.true_and]
          by_cases h2 : (p.length : Int) ≤ c
          · rw [if_pos h2, decide_eq_false (by omega : ¬ c < (p.length : Int))]; rfl
          · rw [if_neg h2, decide_eq_true (by omega : c < (p.length : Int)), need_true (by omega), need_true (by simp only [List.length_cons, List.length_nil]; omega)]; rfl) with ⟨h1, h2⟩ | ⟨h1, h2⟩
    · rw [h2, if_pos h1]
      simp only [outK_done, bf_decide, List.length_map]
      by_cases h8 : 8 < cols.length
      · rw [if_pos h8, if_pos (by omega)]
      · rw [if_neg h8, if_neg (by omega)]
    · rw [h2, h1]; rfl
  · rw [if_neg hp, if_neg hp]; rfl

theorem refCols_loop {p : List Value} {cols : List Int} {B : Nat → Int × List Value → Option (Ctl (Int × List Value) Empty)}
    (hB : ∀ i why out, i < cols.length → out.length ≤ i → B i (why, out) = if why = 0 then (if inRange p (cols.getD i default) then some (.next (0, out ++ [p.getD (cols.getD i default).toNat default])) else some (.next (1, out))) else some (.next (why, out))) :
    ∀ (k : Nat) (why : Int) (i : Nat) (out : List Value), i + k = cols.length → out.length ≤ i → ∃ out', rangeN B k i (why, out) =
      some (.done (if why = 0 then (if (cols.drop i).all (inRange p) then 0 else 1) else why, out')) ∧ (why = 0 → (cols.drop i).all (inRange p) = true → out' = out ++ (cols.drop i).map fun c => p.getD c.toNat default) := by
  intro k
  induction k with
  | zero =>
    intro why i out hi ho
    refine ⟨out, ?_, ?_⟩
    · rw [List.drop_eq_nil_of_le (by omega : cols.length ≤ i)]
      simp only [rangeN, List.all_nil, if_true]
      by_cases h : why = 0
      · rw [if_pos h, h]
      · rw [if_neg h]
    · intro _ _
      rw [List.drop_eq_nil_of_le (by omega : cols.length ≤ i)]; simp
  | succ k ih =>
    intro why i out hi ho
    rw [drop_cons_getD (by omega : i < cols.length)]
    simp only [rangeN, hB i why out (by omega) ho, List.map_cons]
    by_cases hw : why = 0
    · subst hw
      rw [if_pos rfl, if_pos rfl]
      by_cases hr : inRange p (cols.getD i default) = true
      · have hall : (cols.getD i default :: cols.drop (i + 1)).all (inRange p) = (cols.drop (i + 1)).all (inRange p) := by rw [List.all_cons, hr, Bool.true_and]
        rw [if_pos hr, hall]
        obtain ⟨o, h3, h4⟩ := ih 0 (i + 1) (out ++ [p.getD (cols.getD i default).toNat default]) (by omega) (by simp; omega)
        refine ⟨o, by rw [if_pos rfl] at h3; exact h3, fun _ h => ?_⟩
        rw [h4 rfl h]; simp
      · have hall : (cols.getD i default :: cols.drop (i + 1)).all (inRange p) = false := by rw [List.all_cons, show inRange p (cols.getD i default) = false by simpa using hr, Bool.false_and]
        rw [if_neg hr, hall]
        obtain ⟨o, h2, _⟩ := ih 1 (i + 1) out (by omega) (by omega)
        exact ⟨o, by rw [if_neg (by decide)] at h2; exact h2, fun _ h => by cases h⟩
    · rw [if_neg hw, if_neg hw]
      obtain ⟨o, h2, _⟩ := ih why (i + 1) out (by omega) (by omega)
      exact ⟨o, by rw [if_neg hw] at h2; exact h2, fun h => absurd h hw⟩

theorem refCols_eq {p : List Value} {cols : List Int} (hc : cols.length ≤ 1048576) : freshetref03_Cols p cols = some (colsOf p cols) := by
  unfold freshetref03_Cols colsOf
  rw [refCheck_eq, Option.bind_some]
  obtain ⟨o, h1, h2⟩ := refCols_loop (p := p) (cols := cols) (B := fun i2 (a3 : Int × (List Value)) => jn (fun (a9 : Int) => bf (decide (a9 = 0)) (need ((0 : Int) ≤ (cols.getD i2 default) ∧ (cols.getD i2 default) < (p.length : Int)) <| need (a3.2.length + ([(p.getD ((cols.getD i2 default).toNat) default)] : List Value).length ≤ 274877906944) <| some (.next (a9, (a3.2 ++ ([(p.getD ((cols.getD i2 default).toNat) default)] : List Value))))) (some (.next (a9, a3.2)))) fun j10 => jn (fun (a13 : Bool) => bf a13 (j10 1) (j10 a3.1)) fun j14 => bf (decide (a3.1 = 0)) (bf (decide ((cols.getD i2 default) < 0)) (j14 true) (j14 (decide ((p.length : Int) ≤ (cols.getD i2 default))))) (j14 false))
    (fun i why out hi ho => by
      simp only [jn_eq, bf_decide]
      by_cases hw : why = 0
      · subst hw
        rw [if_pos rfl, if_pos rfl]
        generalize cols.getD i default = c
        unfold inRange
        by_cases h1 : c < 0
        · rw [if_pos h1, decide_eq_false (by omega : ¬ 0 ≤ c)]; rfl
        · rw [if_neg h1, decide_eq_true (by omega : 0 ≤ c), Bool.true_and]
          by_cases h2 : (p.length : Int) ≤ c
          · rw [if_pos h2, decide_eq_false (by omega : ¬ c < (p.length : Int))]; rfl
          · rw [if_neg h2, decide_eq_true (by omega : c < (p.length : Int)), if_pos rfl, need_true (by omega), need_true (by simp only [List.length_cons, List.length_nil]; omega)]; rfl
      · rw [if_neg hw, if_neg hw]
        simp only [bf_false]
        rw [if_neg hw]) cols.length (if okRow p then 0 else 4) 0 [] (by omega) (Nat.le_refl _)
  rw [h1]
  rw [List.drop_zero] at h2 ⊢
  simp only [outK_done, jn_eq, bf_decide, bf_not]
  by_cases hp : okRow p = true
  · simp only [if_pos hp] at h2 ⊢
    simp only [if_true]
    by_cases ha : cols.all (inRange p) = true
    · rw [if_pos ha, if_pos ha, if_pos rfl]
      by_cases h8 : 8 < cols.length
      · rw [if_pos h8, if_pos (by omega)]; rfl
      · rw [if_neg h8, if_neg (by omega), if_pos rfl, h2 trivial ha]; rfl
    · rw [if_neg ha, if_neg ha]; rfl
  · simp only [if_neg hp]; rfl

/-! ### Rows together -/

def joinOf (rows : List (List Value)) : List Value × Int :=
  if rows.all okRow then (if 8 < rows.flatten.length then ([], 2) else (rows.flatten, 0)) else ([], 4)

theorem flatten_len {rows : List (List Value)} (h : ∀ r ∈ rows, r.length ≤ 8) : rows.flatten.length ≤ 8 * rows.length := by
  induction rows with
  | nil => simp
  | cons r rows ih =>
    have h1 := h r (List.mem_cons_self ..)
    have h2 := ih fun x hx => h x (List.mem_cons_of_mem _ hx)
    simp only [List.flatten_cons, List.length_append, List.length_cons]
    omega

theorem take_flatten {X : Type} {rows : List (List X)} {i : Nat} (h : i < rows.length) : (rows.take (i + 1)).flatten = (rows.take i).flatten ++ rows.getD i default := by
  rw [take_succ_getD h, List.flatten_append]
  simp

theorem grow_eq {n : Int} (h : 0 ≤ n ∧ n ≤ 274877906944) : slices_Growfreshet_api_Value_freshet_api_Value_Value n = some [] := by
  unfold slices_Growfreshet_api_Value_freshet_api_Value_Value
  have e : IntKind.i64.wrap (n - IntKind.i64.wrap ((0 : Int) - 0)) = n := by
    rw [wrap_small (n := (0 : Int) - 0) (by omega) (by omega)]
    rw [wrap_small (by omega) (by omega)]; omega
  simp only [e, bf_decide, jn_eq, if_neg (by omega : ¬ n < 0)]
  have hlim : (lim : Int) = 274877906944 := rfl
  by_cases h0 : 0 < n
  · rw [if_pos h0, need_true (by omega), need_true (by refine ⟨by omega, by omega, by omega⟩)]
    rw [List.take_zero]
  · rw [if_neg h0]

theorem concat_eq {rows : List (List Value)} (h : rows.flatten.length ≤ 274877906944) : slices_Concatfreshet_api_Value_freshet_api_Value_Value rows = some rows.flatten := by
  unfold slices_Concatfreshet_api_Value_freshet_api_Value_Value
  have hpre : ∀ i, (rows.take i).flatten.length ≤ rows.flatten.length := fun i => by
    have : rows.flatten = (rows.take i).flatten ++ (rows.drop i).flatten := by rw [← List.flatten_append, List.take_append_drop]
    rw [this, List.length_append]; omega
  rw [rangeN_to (rows.flatten.length : Int) (fun i a => a = ((rows.take i).flatten.length : Int)) (fun s h => by rw [h, List.take_length])]
  · simp only [outK_done]
    rw [grow_eq (by omega), Option.bind_some]
    rw [rangeN_to rows.flatten (fun i a => a = (rows.take i).flatten) (fun s h => by rw [h, List.take_length])]
    · rfl
    · intro i a hi ha
      have h1 := hpre (i + 1)
      rw [take_flatten hi, List.length_append] at h1
      refine ⟨_, ?_, rfl⟩
      rw [need_true (by rw [ha]; omega), take_flatten hi, ha]
    · rfl
  · intro i a hi ha
    have h1 := hpre (i + 1)
    rw [take_flatten hi, List.length_append] at h1
    refine ⟨_, ?_, rfl⟩
    rw [take_flatten hi, List.length_append, ha]
    rw [wrap_small (by omega) (by omega), decide_eq_false (by omega)]
    simp
  · rfl

theorem valueJoin_eq {rows : List (List Value)} (h : rows.length ≤ 1048576) : value_Join rows = some (joinOf rows) := by
  unfold value_Join joinOf
  simp only [valueCheck_eq, Option.bind_some]
  have hall : (rows.any fun r => !okRow r) = !(rows.all okRow) := by rw [List.any_eq_not_all_not]; simp
  rcases rangeN_any (S := Unit) (R := List Value × Int) (l := rows) (fun r => !okRow r) (fun _ => ([], 4)) (s := ()) (B := fun i1 (a2 : Unit) => bf (!decide ((if okRow (rows.getD i1 default) = true then (0 : Int) else 4) = 0)) (some (.ret (([] : List Value), (if okRow (rows.getD i1 default) = true then (0 : Int) else 4)))) (some (.next ()))) (fun i hi => by
      cases okRow (rows.getD i default) <;> rfl) with ⟨h1, h2⟩ | ⟨h1, i, _, _, h2⟩
  · rw [h2]
    rw [hall] at h1
    have ha : rows.all okRow = true := by simpa using h1
    rw [if_pos ha]
    have hl := flatten_len (rows := rows) fun r hr => (okRow_all (List.all_eq_true.1 ha r hr)).2
    simp only [outK_done]
    rw [concat_eq (by omega)]
    simp only [Option.bind_some, bf_decide]
    by_cases h8 : 8 < rows.flatten.length
    · rw [if_pos h8, if_pos (by omega)]
    · rw [if_neg h8, if_neg (by omega)]
  · rw [h2]
    rw [hall] at h1
    have ha : rows.all okRow = false := by simpa using h1
    rw [ha]; rfl

theorem refJoin_eq {rows : List (List Value)} (h : rows.length ≤ 1048576) : freshetref03_Join rows = some (joinOf rows) := by
  unfold freshetref03_Join joinOf
  simp only [refCheck_eq, Option.bind_some]
  have hall : (rows.any fun r => !okRow r) = !(rows.all okRow) := by rw [List.any_eq_not_all_not]; simp
  rcases rangeN_any (S := Unit) (R := List Value × Int) (l := rows) (fun r => !okRow r) (fun _ => ([], 4)) (s := ()) (B := fun i1 (a2 : Unit) => bf (!decide ((if okRow (rows.getD i1 default) = true then (0 : Int) else 4) = 0)) (some (.ret (([] : List Value), (if okRow (rows.getD i1 default) = true then (0 : Int) else 4)))) (some (.next ()))) (fun i hi => by
      cases okRow (rows.getD i default) <;> rfl) with ⟨h1, h2⟩ | ⟨h1, i, _, _, h2⟩
  · rw [h2]
    rw [hall] at h1
    have ha : rows.all okRow = true := by simpa using h1
    rw [if_pos ha]
    have hl := flatten_len (rows := rows) fun r hr => (okRow_all (List.all_eq_true.1 ha r hr)).2
    simp only [outK_done]
    have hpre : ∀ i, (rows.take i).flatten.length ≤ rows.flatten.length := fun i => by
      have : rows.flatten = (rows.take i).flatten ++ (rows.drop i).flatten := by rw [← List.flatten_append, List.take_append_drop]
      rw [this, List.length_append]; omega
    have hB : ∀ i, i < rows.length → ∀ a, a = (rows.take i).flatten → need (a.length + (rows.getD i default).length ≤ 274877906944) (bf (decide (8 < ((a ++ (rows.getD i default)).length : Int))) (some (Ctl.ret (S := List Value) (([] : List Value), (2 : Int)))) (some (.next (a ++ (rows.getD i default))))) = if 8 < (rows.take (i + 1)).flatten.length then some (.ret ([], 2)) else some (.next (rows.take (i + 1)).flatten) := fun i hi a ha => by
      have h1 := hpre (i + 1)
      rw [take_flatten hi] at h1 ⊢
      rw [List.length_append] at h1
      rw [need_true (by rw [ha]; omega), ha, bf_decide]
      by_cases h8 : 8 < ((rows.take i).flatten ++ rows.getD i default).length
      · rw [if_pos h8, if_pos (by omega)]
      · rw [if_neg h8, if_neg (by omega)]
    by_cases h8 : 8 < rows.flatten.length
    · rw [if_pos h8]
      have key : ∀ k i, i + k = rows.length → (rows.take i).flatten.length ≤ 8 → rangeN (S := List Value) (R := (List Value) × Int) (fun i4 (a5 : List Value) => need (a5.length + (rows.getD i4 default).length ≤ 274877906944) <| bf (decide (8 < ((a5 ++ (rows.getD i4 default)).length : Int))) (some (.ret (([] : List Value), 2))) (some (.next (a5 ++ (rows.getD i4 default))))) k i (rows.take i).flatten = some (.ret ([], 2)) := by
        intro k
        induction k with
        | zero =>
          intro i hi hle
          rw [List.take_of_length_le (by omega)] at hle
          omega
        | succ k ih =>
          intro i hi hle
          simp only [rangeN]
          rw [hB i (by omega) _ rfl]
          by_cases h9 : 8 < (rows.take (i + 1)).flatten.length
          · rw [if_pos h9]
          · rw [if_neg h9]; exact ih (i + 1) (by omega) (by omega)
      have := key rows.length 0 (by omega) (by simp)
      rw [show (rows.take 0).flatten = [] from rfl] at this
      rw [this]; rfl
    · rw [if_neg h8]
      rw [rangeN_to rows.flatten (fun i a => a = (rows.take i).flatten) (fun s h => by rw [h, List.take_length])]
      · rfl
      · intro i a hi ha
        refine ⟨_, ?_, rfl⟩
        rw [hB i hi a ha, if_neg (by have := hpre (i + 1); omega)]
      · rfl
  · rw [h2]
    rw [hall] at h1
    have ha : rows.all okRow = false := by simpa using h1
    rw [ha]; rfl

theorem makes_eq : freshetlaw03_makes = some true := by
  unfold freshetlaw03_makes freshetlaw03_num
  simp only [Option.bind_some]
  rw [valueCols_eq (by simp), valueJoin_eq (by simp)]
  have r : ∀ n, rightV ⟨false, n, bs []⟩ = true := fun n => strEq_self _
  have e1 : colsOf [⟨false, 1, bs []⟩, ⟨false, 2, bs []⟩] [1, 1, 0] = ([⟨false, 2, bs []⟩, ⟨false, 2, bs []⟩, ⟨false, 1, bs []⟩], 0) := by
    unfold colsOf okRow inRange
    simp [r]
  have e2 : joinOf [[⟨false, 1, bs []⟩], [], [⟨false, 3, bs []⟩]] = ([⟨false, 1, bs []⟩, ⟨false, 3, bs []⟩], 0) := by
    unfold joinOf okRow
    simp [r]
  rw [e1, e2]
  rfl

theorem ValueMakes_true {row : List Value} {cols : List Int} {rows : List (List Value)} (h1 : cols.length ≤ 1048576) (h2 : rows.length ≤ 1048576) : freshetlaw03_ValueMakes row cols rows = some true := by
  unfold freshetlaw03_ValueMakes
  rw [valueCols_eq h1, refCols_eq h1, valueJoin_eq h2, refJoin_eq h2, makes_eq]
  simp only [Option.bind_some, jn_eq, bf_true, same_self, decide_true]

theorem all_append {a b : List Value} : (a ++ b).all rightV = (a.all rightV && b.all rightV) := List.all_append ..

theorem okRow_append {a b : List Value} (ha : okRow a = true) (hb : okRow b = true) (h : (a ++ b).length ≤ 8) : okRow (a ++ b) = true := by
  unfold okRow
  rw [all_append, (okRow_all ha).1, (okRow_all hb).1, decide_eq_true h]
  rfl

theorem map_range_getD {a b : List Value} : ((List.range a.length).map fun i : Nat => (i : Int)).map (fun c => (a ++ b).getD c.toNat default) = a := by
  rw [List.map_map]
  apply List.ext_getElem
  · simp
  · intro i h1 h2
    simp only [List.length_map, List.length_range] at h1
    simp [List.getElem?_append_left h1, List.getElem?_eq_getElem h1]

theorem map_range_getD2 {a b : List Value} : ((List.range b.length).map fun i : Nat => ((a.length + i : Nat) : Int)).map (fun c => (a ++ b).getD c.toNat default) = b := by
  rw [List.map_map]
  apply List.ext_getElem
  · simp
  · intro i h1 h2
    simp only [List.length_map, List.length_range] at h1
    simp only [List.getElem_map, List.getElem_range, Function.comp_apply, Int.toNat_natCast]
    rw [List.getD_eq_getElem?_getD, List.getElem?_append_right (by omega), Nat.add_sub_cancel_left, List.getElem?_eq_getElem h1]
    rfl

theorem ValueParts_true (a b : List Value) : freshetlaw03_ValueParts a b = some true := by
  unfold freshetlaw03_ValueParts
  rw [makes_eq, valueJoin_eq (by simp)]
  simp only [Option.bind_some, Bool.not_true, bf_false]
  unfold joinOf
  by_cases ha : okRow a = true
  · by_cases hb : okRow b = true
    · have hab : [a, b].all okRow = true := by simp [ha, hb]
      have hf : [a, b].flatten = a ++ b := by simp
      rw [if_pos hab, hf]
      by_cases h8 : 8 < (a ++ b).length
      · rw [if_pos h8]; rfl
      · rw [if_neg h8]
        simp only [decide_true, Bool.not_true, bf_false]
        have hlen : (a ++ b).length = a.length + b.length := List.length_append
        rw [rangeN_to (((List.range a.length).map fun i : Nat => (i : Int)), ((List.range b.length).map fun i : Nat => ((a.length + i : Nat) : Int)))
          (fun i s => s = (((List.range (min i a.length)).map fun i : Nat => (i : Int)), ((List.range (i - a.length)).map fun i : Nat => ((a.length + i : Nat) : Int)))) (fun s h => by
            rw [h, hlen, Nat.min_eq_right (by omega), Nat.add_sub_cancel_left])]
        · simp only [outK_done]
          have hok := okRow_append ha hb (by omega)
          have c1 : colsOf (a ++ b) ((List.range a.length).map fun i : Nat => (i : Int)) = (a, 0) := by
            unfold colsOf
            rw [if_pos hok, if_pos, if_neg, map_range_getD]
            · rw [List.length_map, List.length_range]; omega
            · rw [List.all_eq_true]
              intro x hx
              obtain ⟨i, hi, rfl⟩ := List.mem_map.1 hx
              have := List.mem_range.1 hi
              unfold inRange
              rw [Bool.and_eq_true, decide_eq_true_eq, decide_eq_true_eq]
              omega
          have c2 : colsOf (a ++ b) ((List.range b.length).map fun i : Nat => ((a.length + i : Nat) : Int)) = (b, 0) := by
            unfold colsOf
            rw [if_pos hok, if_pos, if_neg, map_range_getD2]
            · rw [List.length_map, List.length_range]; omega
            · rw [List.all_eq_true]
              intro x hx
              obtain ⟨i, hi, rfl⟩ := List.mem_map.1 hx
              have := List.mem_range.1 hi
              unfold inRange
              rw [Bool.and_eq_true, decide_eq_true_eq, decide_eq_true_eq]
              omega
          rw [valueCols_eq (by rw [List.length_map, List.length_range]; omega), valueCols_eq (by rw [List.length_map, List.length_range]; omega), c1, c2]
          simp only [Option.bind_some, jn_eq, same_self, decide_true, bf_true]
        · intro i s hi hs
          refine ⟨_, ?_, rfl⟩
          subst hs
          simp only [bf_decide, Int.ofNat_lt]
          by_cases h : i < a.length
          · rw [if_pos h, need_true (by simp; omega)]
            have e1 : min (i + 1) a.length = min i a.length + 1 := by omega
            have e2 : min i a.length = i := by omega
            rw [e1, e2, List.range_succ, List.map_append, show i + 1 - a.length = i - a.length by omega]
            rfl
          · rw [if_neg h, need_true (by simp; omega)]
            have e1 : min (i + 1) a.length = min i a.length := by omega
            have e2 : i + 1 - a.length = (i - a.length) + 1 := by omega
            have e3 : a.length + (i - a.length) = i := by omega
            rw [e1, e2, List.range_succ, List.map_append, List.map_cons, List.map_nil, e3]
        · simp
    · have hab : ¬ [a, b].all okRow = true := by simp [hb]
      rw [if_neg hab]; rfl
  · have hab : ¬ [a, b].all okRow = true := by simp [ha]
    rw [if_neg hab]; rfl

theorem ValueMany_true (a b c : List Value) : freshetlaw03_ValueMany a b c = some true := by
  unfold freshetlaw03_ValueMany
  rw [makes_eq, valueJoin_eq (by simp), valueJoin_eq (by simp)]
  simp only [Option.bind_some, Bool.not_true, bf_false]
  have f3 : [a, b, c].flatten = (a ++ b) ++ c := by simp
  have f2 : [a, b].flatten = a ++ b := by simp
  by_cases hab : [a, b].all okRow = true
  · have ha : okRow a = true := by simp at hab; exact hab.1
    have hb : okRow b = true := by simp at hab; exact hab.2
    by_cases h8 : 8 < (a ++ b).length
    · have e : (joinOf [a, b]) = ([], 2) := by unfold joinOf; rw [if_pos hab, f2, if_pos h8]
      rw [e]
      have : (joinOf [a, b, c]).2 ≠ 0 := by
        unfold joinOf
        rw [f3]
        by_cases hc : [a, b, c].all okRow = true
        · rw [if_pos hc, if_pos (by rw [List.length_append]; omega)]; decide
        · rw [if_neg hc]; decide
      rw [decide_eq_false this]; rfl
    · have e : (joinOf [a, b]) = (a ++ b, 0) := by unfold joinOf; rw [if_pos hab, f2, if_neg h8]
      rw [e]
      simp only [decide_true, Bool.not_true, bf_false]
      rw [valueJoin_eq (by simp)]
      have e2 : joinOf [a ++ b, c] = joinOf [a, b, c] := by
        unfold joinOf
        have hok := okRow_append ha hb (by omega)
        have f4 : [a ++ b, c].flatten = (a ++ b) ++ c := by simp
        rw [f3, f4]
        simp [hok, ha, hb]
      rw [e2]
      simp only [Option.bind_some, jn_eq, same_self, decide_true, bf_true]
  · have e : (joinOf [a, b]) = ([], 4) := by unfold joinOf; rw [if_neg hab]
    rw [e]
    have : (joinOf [a, b, c]).2 ≠ 0 := by
      unfold joinOf
      have hc : ¬ [a, b, c].all okRow = true := fun h => hab (by simp at h ⊢; exact ⟨h.1, h.2.1⟩)
      rw [if_neg hc]; decide
    rw [decide_eq_false this]; rfl

end Go.Av
