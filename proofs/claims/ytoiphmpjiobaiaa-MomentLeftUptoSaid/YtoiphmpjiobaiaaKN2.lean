import Derived.Test.YtoiphmpjiobaiaaKN1
namespace Go.Av
open Go
set_option linter.unusedVariables false
set_option linter.unusedSimpArgs false

theorem glb_front {l : List Time} (h : l ≠ []) : glbL (frontOf l) = glbL l ∧ frontOf l ≠ [] := by
  have hF := frontOf_is l
  have hne : frontOf l ≠ [] := fun e => by
    cases l with
    | nil => exact h rfl
    | cons x l =>
      obtain ⟨u, hu, _⟩ := hF.below x (List.mem_cons_self ..)
      rw [e] at hu; cases hu
  refine ⟨le_anti ?_ ?_, hne⟩
  · rw [glbL_le h]
    intro x hx
    obtain ⟨u, hu, hle⟩ := hF.below x hx
    exact leT_trans ((glbL_le hne).1 (leT_refl _) u hu) hle
  · rw [glbL_le hne]
    intro x hx
    exact (glbL_le h).1 (leT_refl _) x (hF.sub x hx)

theorem front_nil : frontOf [] = [] := List.eq_nil_of_length_eq_zero (Nat.le_zero.1 (frontOf_length []))

theorem adv_front (t : Time) (l : List Time) : adv t (frontOf l) = adv t l := by
  unfold adv
  by_cases h : l = []
  · subst h; rw [front_nil]
  · obtain ⟨h1, h2⟩ := glb_front h
    rw [if_neg h, if_neg h2, h1]

theorem adv_nn {t : Time} {f : List Time} (ht : nnTime t) (hf : NN f) : nnTime (adv t f) := by
  unfold adv
  split
  · exact ht
  · exact lub2_nn ht (glbL_nn hf)

theorem le_adv (t : Time) (f : List Time) : leT t (adv t f) = true := by
  unfold adv
  split
  · exact leT_refl t
  · exact (lub2_le.1 (leT_refl _)).1

theorem adv_adv (t : Time) (f : List Time) : adv (adv t f) f = adv t f := by
  unfold adv
  split
  · rfl
  · refine Time.ext' ?_ ?_ ?_ <;> simp only [lub2, mx_eq] <;> omega

theorem adv_far {t : Time} {f g : List Time} (hg : g ≠ []) (h : ∀ x ∈ g, f.any (fun u => leT u x) = true) : adv (adv t f) g = adv t g := by
  by_cases hf : f = []
  · cases g with
    | nil => exact absurd rfl hg
    | cons x g => have := h x (List.mem_cons_self ..); rw [hf] at this; cases this
  · have hle : leT (glbL f) (glbL g) = true := by
      rw [glbL_le hg]
      intro x hx
      obtain ⟨u, hu, hux⟩ := List.any_eq_true.1 (h x hx)
      exact leT_trans ((glbL_le hf).1 (leT_refl _) u hu) hux
    unfold adv
    rw [if_neg hf, if_neg hg, if_neg hg]
    rw [leT_iff] at hle
    refine Time.ext' ?_ ?_ ?_ <;> simp only [lub2, mx_eq] <;> omega

theorem le_adv_iff {t s : Time} {f : List Time} (h : f.any (fun u => leT u s) = true) : leT (adv t f) s = leT t s := by
  obtain ⟨u, hu, hus⟩ := List.any_eq_true.1 h
  have hf : f ≠ [] := fun e => by rw [e] at hu; cases hu
  have hg : leT (glbL f) s = true := leT_trans ((glbL_le hf).1 (leT_refl _) u hu) hus
  unfold adv
  rw [if_neg hf, Bool.eq_iff_iff, lub2_le]
  exact ⟨fun h => h.1, fun h => ⟨h, hg⟩⟩

theorem any_front {l : List Time} {t : Time} : (frontOf l).any (fun u => leT u t) = l.any (fun u => leT u t) := by
  have hF := frontOf_is l
  rw [Bool.eq_iff_iff, List.any_eq_true, List.any_eq_true]
  constructor
  · rintro ⟨u, hu, h⟩; exact ⟨u, hF.sub u hu, h⟩
  · rintro ⟨u, hu, h⟩
    obtain ⟨v, hv, hvu⟩ := hF.below u hu
    exact ⟨v, hv, leT_trans hvu h⟩

theorem front_front (l : List Time) : frontOf (frontOf l) = frontOf l := (frontOf_is (frontOf l)).uniq (frontOf_is l).self

theorem front_both (a b : List Time) : frontOf (frontOf a ++ frontOf b) = frontOf (a ++ b) := by
  have hA := frontOf_is a
  have hB := frontOf_is b
  have h := frontOf_is (a ++ b)
  refine (frontOf_is (frontOf a ++ frontOf b)).uniq ⟨h.sorted, ?_, ?_, ?_⟩
  · intro x hx
    rcases List.mem_append.1 (h.sub x hx) with g | g
    · obtain ⟨u, hu, hle⟩ := hA.below x g
      rw [← h.least x hx u (List.mem_append.2 (.inl (hA.sub u hu))) hle]
      exact List.mem_append.2 (.inl hu)
    · obtain ⟨u, hu, hle⟩ := hB.below x g
      rw [← h.least x hx u (List.mem_append.2 (.inr (hB.sub u hu))) hle]
      exact List.mem_append.2 (.inr hu)
  · intro y hy
    refine h.below y ?_
    rcases List.mem_append.1 hy with g | g
    · exact List.mem_append.2 (.inl (hA.sub y g))
    · exact List.mem_append.2 (.inr (hB.sub y g))
  · intro x hx y hy hle
    refine h.least x hx y ?_ hle
    rcases List.mem_append.1 hy with g | g
    · exact List.mem_append.2 (.inl (hA.sub y g))
    · exact List.mem_append.2 (.inr (hB.sub y g))

theorem MomentAdvanced_law {t s : Time} {f : List Time} (ht : nnTime t) (hf : NN f) (hs : nnTime s) (hz : f.length ≤ 1048576) : freshetlaw04_MomentAdvanced 2100000 t f s = some true := by
  unfold freshetlaw04_MomentAdvanced
  have ha := adv_nn ht hf
  rw [orders_eq, fronts_true (by omega), advance_eq ht hf (by omega), front_eq hf (by omega) (by omega), beyond_eq hf hs, ahead_eq ht hs]
  simp only [Option.bind_some, jn_eq, Bool.not_true, bf_false]
  rw [ahead_eq ht ha, advance_eq ha hf (by omega), advance_eq ht (frontS_nn hf) (by have := frontOf_length f; omega), ahead_eq ha hs, adv_adv, adv_front, le_adv]
  simp only [Option.bind_some, eqTime_self, bf_true]
  cases hb : f.any (fun u => leT u s) with
  | false => rfl
  | true =>
    rw [bf_true, le_adv_iff hb]
    simp

theorem MomentLeast_law {l : List Time} {t : Time} (hl : NN l) (ht : nnTime t) (hz : l.length ≤ 1048576) : freshetlaw04_MomentLeast 2100000 l t = some true := by
  unfold freshetlaw04_MomentLeast
  have hF := frontOf_is l
  have hn := frontS_nn hl
  have hlen := frontOf_length l
  rw [orders_eq, fronts_true (by omega), front_eq hl (by omega) (by omega)]
  simp only [Option.bind_some, jn_eq, Bool.not_true, bf_false]
  rw [front_eq hn (by omega) (by omega), front_front, beyond_eq hn ht, beyond_eq hl ht, any_front]
  simp only [Option.bind_some, refSame_self]
  rw [rangeN_to () (fun _ _ => True) (fun _ _ => rfl)]
  · simp
  · intro i u hi _
    refine ⟨(), ?_, trivial⟩
    rw [rangeN_to () (fun _ _ => True) (fun _ _ => rfl)]
    · rfl
    · intro k u hk _
      refine ⟨(), ?_, trivial⟩
      have hci : (frontOf l).getD i default ∈ frontOf l := getD_mem hi
      have hck : (frontOf l).getD k default ∈ frontOf l := getD_mem hk
      have hlt : i < k → decide (0 ≤ cmpT ((frontOf l).getD i default) ((frontOf l).getD k default)) = false := fun hik => by
        have := hF.sorted
        rw [List.pairwise_iff_getElem] at this
        have := this i k hi hk hik
        rw [List.getD_eq_getElem?_getD, List.getElem?_eq_getElem hi, List.getD_eq_getElem?_getD, List.getElem?_eq_getElem hk]
        simp only [Option.getD_some]
        unfold ltT at this
        rw [decide_eq_true_eq] at this
        rw [decide_eq_false_iff_not]; omega
      have hah : i ≠ k → leT ((frontOf l).getD i default) ((frontOf l).getD k default) = false := fun hik => by
        cases e : leT ((frontOf l).getD i default) ((frontOf l).getD k default) with
        | false => rfl
        | true =>
          have he := hF.least _ hck _ (hF.sub _ hci) e
          have hp := hF.sorted
          rw [List.pairwise_iff_getElem] at hp
          rw [List.getD_eq_getElem?_getD, List.getElem?_eq_getElem hi, List.getD_eq_getElem?_getD, List.getElem?_eq_getElem hk] at he
          simp only [Option.getD_some] at he
          rcases Nat.lt_or_gt_of_ne hik with h | h
          · have := hp i k hi hk h
            rw [he, lt_irr] at this; cases this
          · have := hp k i hk hi h
            rw [he, lt_irr] at this; cases this
      rw [ahead_eq (hn _ hci) (hn _ hck), compare_eq]
      simp only [Option.bind_some]
      by_cases hik : i = k
      · subst hik
        rw [decide_eq_true rfl, Bool.not_true, bf_false, decide_eq_false (by omega)]
        rfl
      · rw [decide_eq_false (by omega), Bool.not_false, bf_true, hah hik, bf_false]
        by_cases h : i < k
        · rw [decide_eq_true (by omega), bf_true, hlt h]; rfl
        · rw [decide_eq_false (by omega), bf_false]
    · trivial
  · trivial

theorem MomentFarther_law {t : Time} {f g : List Time} (ht : nnTime t) (hf : NN f) (hg : NN g) (hz : f.length ≤ 1048576) (hz2 : g.length ≤ 1048576) : freshetlaw04_MomentFarther 2100000 t f g = some true := by
  unfold freshetlaw04_MomentFarther
  rw [fronts_true (by omega)]
  simp only [Option.bind_some, Bool.not_true, bf_false]
  refine range_any (l := g) (p := fun x => !f.any (fun u => leT u x)) (f := fun _ => true) ?_ ?_ ?_
  · intro i u hi
    rw [beyond_eq hf (hg _ (getD_mem hi)), Option.bind_some]
    cases f.any (fun u => leT u (g.getD i default)) <;> rfl
  · intro h
    have hall : ∀ x ∈ g, f.any (fun u => leT u x) = true := fun x hx => by
      have := List.any_eq_false.1 h x hx
      simpa using this
    rw [advance_eq ht hg (by omega), advance_eq ht hf (by omega)]
    simp only [Option.bind_some]
    rw [advance_eq (adv_nn ht hf) hg (by omega)]
    by_cases h0 : g = []
    · subst h0
      rw [decide_eq_true (by rfl), bf_true]
      unfold adv
      rw [if_pos rfl, eqTime_self]
    · have hlen : g.length ≠ 0 := fun e => h0 (List.eq_nil_of_length_eq_zero e)
      rw [decide_eq_false (by omega), bf_false, adv_far h0 hall]
      simp [eqTime_self]
  · intro i hi h; rfl

theorem MomentLeft_law {a b : List Time} {t : Time} (ha : NN a) (hb : NN b) (ht : nnTime t) (hz : a.length + b.length ≤ 1048576) : freshetlaw04_MomentLeft 2200000 a b t = some true := by
  unfold freshetlaw04_MomentLeft
  have h1 := frontOf_length a
  have h2 := frontOf_length b
  have app : ∀ {x y : List Time}, NN x → NN y → NN (x ++ y) := fun hx hy z hz => by
    rcases List.mem_append.1 hz with h | h
    · exact hx z h
    · exact hy z h
  rw [fronts_true (by omega), front_eq ha (by omega) (by omega), front_eq hb (by omega) (by omega)]
  simp only [Option.bind_some, Bool.not_true, bf_false, jn_eq]
  rw [need_true (by omega), front_eq (app (frontS_nn ha) (frontS_nn hb)) (by rw [List.length_append]; omega) (by rw [List.length_append]; omega), Option.bind_some, need_true (by omega), need_true (by omega), front_eq (app ha hb) (by rw [List.length_append]; omega) (by rw [List.length_append]; omega), front_both]
  simp only [Option.bind_some]
  rw [refSame_self, beyond_eq (frontS_nn (app ha hb)) ht, beyond_eq ha ht, beyond_eq hb ht, any_front, List.any_append]
  simp only [Option.bind_some, bf_true]
  cases a.any (fun u => leT u t) <;> cases b.any (fun u => leT u t) <;> rfl

end Go.Av
