import Derived.Test.YtoiphmpjiobaiaaKF
import Derived.Test.YtoiphmpjiobaiaaAvY
namespace Go.Av
open Go
set_option linter.unusedVariables false
set_option linter.unusedSimpArgs false

abbrev NN (l : List Time) : Prop := ∀ x ∈ l, nnTime x

theorem getD_mem {X : Type} [Inhabited X] {l : List X} {i : Nat} (h : i < l.length) : l.getD i default ∈ l := by
  rw [List.getD_eq_getElem?_getD, List.getElem?_eq_getElem h]
  exact List.getElem_mem h
theorem take_succ {X : Type} [Inhabited X] {l : List X} {i : Nat} (h : i < l.length) : l.take (i + 1) = l.take i ++ [l.getD i default] := by
  rw [List.take_add_one, List.getElem?_eq_getElem h, List.getD_eq_getElem?_getD, List.getElem?_eq_getElem h]
  rfl

theorem range_any {X R : Type} [Inhabited X] {B : Nat → Unit → Option (Ctl Unit R)} {l : List X} {p : X → Bool} {f : Nat → R} {Q : Type} {kn : Unit → Option Q} {kr : R → Option Q} {q : Option Q}
    (hB : ∀ i u, i < l.length → B i u = if p (l.getD i default) = true then some (.ret (f i)) else some (.next ()))
    (hn : l.any p = false → kn () = q) (hr : ∀ i, i < l.length → l.any p = true → kr (f i) = q) : outK (rangeN B l.length 0 ()) kn kr = q := by
  have key : ∀ k i, i + k = l.length → (l.take i).any p = false → outK (rangeN B k i ()) kn kr = q := by
    intro k
    induction k with
    | zero =>
      intro i hi h
      rw [List.take_of_length_le (by omega)] at h
      exact hn h
    | succ k ih =>
      intro i hi h
      simp only [rangeN, hB i () (by omega)]
      by_cases hp : p (l.getD i default) = true
      · rw [if_pos hp]
        exact hr i (by omega) (List.any_eq_true.2 ⟨_, getD_mem (by omega), hp⟩)
      · rw [if_neg hp]
        refine ih (i + 1) (by omega) ?_
        rw [take_succ (by omega), List.any_append, h]
        simpa using hp
  exact key l.length 0 (by omega) rfl

theorem beyond_eq {f : List Time} {t : Time} (hf : NN f) (ht : nnTime t) : moment_Beyond f t = some (f.any fun u => leT u t) := by
  unfold moment_Beyond slices_ContainsFuncfreshet_api_Time_freshet_api_Time_Time__Beyond_1 slices_IndexFuncfreshet_api_Time_freshet_api_Time_Time__Beyond_1
  have h : (outK (rangeN (S := Unit) (R := Int) (fun i1 (a2 : Unit) => (moment_Beyond_1 (f.getD i1 default) t).bind fun r4 => bf r4 (some (.ret ((i1 : Nat) : Int))) (some (.next ()))) f.length 0 ()) (fun (a3 : Unit) => some (-1)) (fun x => some x)).bind (fun r1 => some (decide (0 ≤ r1))) = some (f.any fun u => leT u t) := by
    have : ∀ o : Option Int, (o.bind fun r1 => some (decide (0 ≤ r1))) = o.map fun r1 => decide (0 ≤ r1) := fun o => by cases o <;> rfl
    rw [this]
    have hm : ∀ (o : Option (Out Unit Int)), (outK o (fun (a3 : Unit) => some (-1)) (fun x => some x)).map (fun r1 => decide (0 ≤ r1)) = outK o (fun _ => some false) (fun x => some (decide (0 ≤ x))) := fun o => by
      cases o with
      | none => rfl
      | some o => cases o <;> rfl
    rw [hm]
    refine range_any (p := fun u => leT u t) (f := fun i => (i : Int)) ?_ (fun h => by rw [h]) (fun i hi h => by rw [h, decide_eq_true (by omega)])
    intro i u hi
    unfold moment_Beyond_1
    rw [ahead_eq (hf _ (getD_mem hi)) ht]
    simp only [Option.bind_some]
    cases leT (f.getD i default) t <;> rfl
  rw [h]; rfl

theorem refBeyond_eq (f : List Time) (t : Time) : freshetref04_Beyond f t = some (f.any fun u => leT u t) := by
  unfold freshetref04_Beyond
  refine range_any (p := fun u => leT u t) (f := fun _ => true) ?_ (fun h => by rw [h]) (fun i hi h => by rw [h])
  intro i u hi
  rw [refAhead_eq, Option.bind_some]
  cases leT (f.getD i default) t <;> rfl

theorem refSame_self (a : List Time) : freshetref04_Same a a = some true := by
  unfold freshetref04_Same
  rw [decide_eq_true (by omega), Bool.not_true, bf_false, rangeN_to () (fun _ _ => True) (fun _ _ => rfl)]
  · rfl
  · intro i u hi _
    refine ⟨(), ?_, trivial⟩
    rw [need_true (by omega), eqTime_self]
    rfl
  · trivial

theorem frontS_nn {l : List Time} (h : NN l) : NN (frontOf l) := fun x hx => h x ((frontOf_is l).sub x hx)

theorem front_eq {fuel : Nat} {l : List Time} (hl : NN l) (hz : l.length ≤ 274877906944) (hf : 2 * l.length + 30 < fuel) : moment_Front fuel l = some (frontOf l) := by
  unfold moment_Front slices_Clonefreshet_api_Time_freshet_api_Time_Time
  have hs : NN (sortT l) := fun x hx => hl x ((sortT_perm l).mem_iff.1 hx)
  have hlen := sortT_length l
  rw [need_true hz, Option.bind_some, sortFunc_eq (by omega) hf, Option.bind_some]
  show need ((sortT l).length = l.length) _ = _
  rw [need_true hlen]
  rw [show (Sort.sort ltT l.toArray).toList = sortT l from rfl]
  unfold frontOf frontS
  generalize sortT l = s at *
  rw [rangeN_to (s.foldl (fun f t => if f.any (fun u => leT u t) then f else f ++ [t]) []) (fun i a => a = (s.take i).foldl (fun f t => if f.any (fun u => leT u t) then f else f ++ [t]) []) (fun a h => by rw [h, List.take_of_length_le (Nat.le_refl _)])]
  · rfl
  · rintro i a hi rfl
    have hle : ((s.take i).foldl (fun f t => if f.any (fun u => leT u t) then f else f ++ [t]) []).length ≤ i := by
      have := frontS_length (s.take i)
      unfold frontS at this
      rw [List.length_take] at this
      omega
    have hnn : NN ((s.take i).foldl (fun f t => if f.any (fun u => leT u t) then f else f ++ [t]) []) := by
      have key : ∀ (r f : List Time), NN r → NN f → NN (r.foldl (fun f t => if f.any (fun u => leT u t) then f else f ++ [t]) f) := by
        intro r
        induction r with
        | nil => intro f _ h; exact h
        | cons t r ih =>
          intro f hr h
          rw [List.foldl_cons]
          refine ih _ (fun x hx => hr x (List.mem_cons_of_mem _ hx)) ?_
          split
          · exact h
          · intro x hx
            rcases List.mem_append.1 hx with hx | hx
            · exact h x hx
            · rw [List.mem_singleton.1 hx]; exact hr t (List.mem_cons_self ..)
      exact key _ _ (fun x hx => hs x (List.mem_of_mem_take hx)) (fun x h => nomatch h)
    refine ⟨_, ?_, rfl⟩
    rw [Nat.zero_add, need_true hi, beyond_eq hnn (hs _ (getD_mem hi)), Option.bind_some, take_succ hi, List.foldl_append, List.foldl_cons, List.foldl_nil]
    generalize (s.take i).foldl (fun f t => if f.any (fun u => leT u t) then f else f ++ [t]) [] = f at *
    cases hc : f.any (fun u => leT u (s.getD i default)) with
    | true => simp only [Bool.not_true, bf_false, if_true]
    | false =>
      rw [Bool.not_false, bf_true, need_true (by rw [List.length_singleton]; omega)]
      simp
  · rfl


theorem eqT_false {x y : Time} (h : x ≠ y) : eqTime x y = false := by
  cases e : eqTime x y with
  | false => rfl
  | true => exact absurd (eqT_iff.1 e) h

def leastB (l : List Time) (t : Time) : Bool := l.all fun u => !(!eqTime u t && leT u t)
theorem leastB_iff {l : List Time} {t : Time} : leastB l t = true ↔ ∀ u ∈ l, leT u t = true → u = t := by
  unfold leastB
  rw [List.all_eq_true]
  constructor
  · intro h u hu hle
    have := h u hu
    rw [hle] at this
    simp at this
    exact eqT_iff.1 this
  · intro h u hu
    cases e : leT u t with
    | false => simp
    | true => rw [h u hu e, eqTime_self]; rfl

theorem insAt_loop {f : List Time} {t : Time} {B : Int → Option (Ctl Int Empty)} (hB : ∀ i : Nat, i ≤ f.length → B (i : Int) = if i < f.length ∧ ltT (f.getD i default) t = true then some (.next ((i + 1 : Nat) : Int)) else some (.brk (i : Int))) :
    ∀ (k fuel : Nat), k ≤ f.length → k < fuel → ∃ j : Nat, loopN B fuel ((f.length - k : Nat) : Int) = some (.done (j : Int)) ∧ f.length - k ≤ j ∧ j ≤ f.length ∧ (∀ i, f.length - k ≤ i → i < j → ltT (f.getD i default) t = true) ∧ (j < f.length → ltT (f.getD j default) t = false) := by
  intro k
  induction k with
  | zero =>
    intro fuel hk hf
    cases fuel with
    | zero => omega
    | succ fuel =>
      have h := hB (f.length - 0) (by omega)
      rw [if_neg (by omega)] at h
      exact ⟨_, loopN_brk h, by omega, by omega, fun i h1 h2 => by omega, fun h => by omega⟩
  | succ k ih =>
    intro fuel hk hf
    cases fuel with
    | zero => omega
    | succ fuel =>
      have h := hB (f.length - (k + 1)) (by omega)
      by_cases hc : ltT (f.getD (f.length - (k + 1)) default) t = true
      · rw [if_pos ⟨by omega, hc⟩, show f.length - (k + 1) + 1 = f.length - k by omega] at h
        obtain ⟨j, h1, h2, h3, h4, h5⟩ := ih fuel (by omega) (by omega)
        refine ⟨j, by rw [loopN_next h, h1], by omega, h3, fun i g1 g2 => ?_, h5⟩
        by_cases hi : i = f.length - (k + 1)
        · rw [hi]; exact hc
        · exact h4 i (by omega) g2
      · rw [if_neg (fun h => hc h.2)] at h
        refine ⟨_, loopN_brk h, by omega, by omega, fun i h1 h2 => by omega, fun _ => ?_⟩
        simpa using hc

theorem mem_sub {f : List Time} {j : Nat} (hj : j ≤ f.length) (t x : Time) : x ∈ (f.take j ++ [t]) ++ f.drop j ↔ x ∈ f ∨ x = t := by
  rw [List.mem_append, List.mem_append, List.mem_singleton]
  have : x ∈ f ↔ x ∈ f.take j ∨ x ∈ f.drop j := by rw [← List.mem_append, List.take_append_drop]
  rw [this]
  constructor
  · rintro ((h | h) | h)
    · exact .inl (.inl h)
    · exact .inr h
    · exact .inl (.inr h)
  · rintro ((h | h) | h)
    · exact .inl (.inl h)
    · exact .inr h
    · exact .inl (.inr h)

theorem ins_sorted {f : List Time} {t : Time} {j : Nat} (hf : f.Pairwise fun x y => ltT x y = true) (hj : j ≤ f.length) (h1 : ∀ i, i < j → ltT (f.getD i default) t = true) (h2 : j < f.length → ltT (f.getD j default) t = false) (hne : ∀ x ∈ f, x ≠ t) :
    ((f.take j ++ [t]) ++ f.drop j).Pairwise fun x y => ltT x y = true := by
  have hall : ∀ x ∈ f.drop j, ltT t x = true := by
    intro x hx
    obtain ⟨i, hi, e⟩ := List.mem_iff_getElem.1 hx
    rw [List.length_drop] at hi
    rw [List.getElem_drop] at e
    have hj2 := h2 (by omega)
    have hjx : ltT t (f.getD j default) = true := lt_or hj2 (fun h => hne _ (getD_mem (by omega)) h.symm)
    rw [List.pairwise_iff_getElem] at hf
    by_cases hi0 : i = 0
    · subst hi0
      rw [List.getD_eq_getElem?_getD, List.getElem?_eq_getElem (by omega)] at hjx
      rw [← e]
      exact hjx
    · have := hf j (j + i) (by omega) (by omega) (by omega)
      rw [e] at this
      rw [List.getD_eq_getElem?_getD, List.getElem?_eq_getElem (by omega)] at hjx
      exact swoT.trans _ _ _ hjx this
  have htk : ∀ x ∈ f.take j, ltT x t = true := by
    intro x hx
    obtain ⟨i, hi, e⟩ := List.mem_iff_getElem.1 hx
    rw [List.length_take] at hi
    rw [List.getElem_take] at e
    have := h1 i (by omega)
    rw [List.getD_eq_getElem?_getD, List.getElem?_eq_getElem (by omega)] at this
    rw [← e]
    exact this
  rw [List.pairwise_append, List.pairwise_append]
  have hp : (f.take j ++ f.drop j).Pairwise fun x y => ltT x y = true := by rw [List.take_append_drop]; exact hf
  rw [List.pairwise_append] at hp
  refine ⟨⟨hp.1, by simp, fun x hx y hy => by rw [List.mem_singleton.1 hy]; exact htk x hx⟩, hp.2.1, fun x hx y hy => ?_⟩
  rcases List.mem_append.1 hx with hx | hx
  · exact hp.2.2 x hx y hy
  · rw [List.mem_singleton.1 hx]; exact hall y hy

theorem outK_inv {S R Q : Type} {B : Nat → S → Option (Ctl S R)} {n : Nat} {s : S} {kn : S → Option Q} {kr : R → Option Q} {q : Option Q} (I : Nat → S → Prop) (h0 : I 0 s) (hs : ∀ i s, i < n → I i s → ∃ s', B i s = some (.next s') ∧ I (i + 1) s') (hk : ∀ s, I n s → kn s = q) : outK (rangeN B n 0 s) kn kr = q := by
  obtain ⟨s', h1, h2⟩ := rangeN_inv I h0 hs
  rw [h1]
  exact hk s' h2

theorem refFront_body {fuel : Nat} {l a : List Time} {t : Time} (ha : a.length + 1 ≤ 274877906944) (hz : a.length + 1 < fuel) :
    ∃ j, j ≤ a.length ∧ (∀ i, i < j → ltT (a.getD i default) t = true) ∧ (j < a.length → ltT (a.getD j default) t = false) ∧ (outK (rangeN (S := Bool) (R := Empty) (fun i4 (a5 : Bool) => jn (fun (a24 : Bool) => bf a24 (some (.next false)) (some (.next a5))) fun j25 => bf (!(eqTime (l.getD i4 default) t)) ((freshetref04_Ahead (l.getD i4 default) t).bind fun r26 => j25 r26) (j25 false)) l.length 0 true) (fun (a6 : Bool) => outK (rangeN (S := Bool) (R := Empty) (fun i7 (a8 : Bool) => need ((0 + i7) < a.length) <| bf (eqTime (a.getD (0 + i7) default) t) (some (.next false)) (some (.next a8))) a.length 0 a6) (fun (a9 : Bool) => bf (!a9) (some (Ctl.next (R := Empty) a)) (outK (loopN (S := Int) (R := Empty) (fun (a10 : Int) => jn (fun (a17 : Bool) => bf a17 (some (.next (IntKind.i64.wrap (a10 + 1)))) (some (.brk a10))) fun j18 => bf (decide (a10 < (a.length : Int))) (need ((0 : Int) ≤ a10 ∧ a10 < (a.length : Int)) <| need ((0 + a10.toNat) < a.length) <| (freshetref04_Compare (a.getD (0 + a10.toNat) default) t).bind fun r22 => j18 (decide (r22 < 0))) (j18 false)) fuel 0) (fun (a11 : Int) => need ((0 : Int) ≤ 0 ∧ (0 : Int) ≤ a11 ∧ a11 ≤ (a.length : Int)) <| need ((Av.sub a (0 : Int) a11).length ≤ 274877906944) <| need ((Av.sub a (0 : Int) a11).length + ([t] : List Time).length ≤ 274877906944) <| need ((0 : Int) ≤ a11 ∧ a11 ≤ (a.length : Int) ∧ (a.length : Int) ≤ (a.length : Int)) <| need (((Av.sub a (0 : Int) a11) ++ ([t] : List Time)).length + (Av.sub a a11 (a.length : Int)).length ≤ 274877906944) <| some (.next (((Av.sub a (0 : Int) a11) ++ ([t] : List Time)) ++ (Av.sub a a11 (a.length : Int))))) (fun (x : Empty) => x.elim))) (fun (x : Empty) => x.elim)) (fun (x : Empty) => x.elim))
    = some (.next (if leastB l t = true ∧ a.any (fun u => eqTime u t) = false then ((a.take j ++ [t]) ++ a.drop j) else a)) := by
  obtain ⟨j, h1, h2, h3, h4, h5⟩ := insAt_loop (f := a) (t := t) (B := (fun (a10 : Int) => jn (fun (a17 : Bool) => bf a17 (some (.next (IntKind.i64.wrap (a10 + 1)))) (some (.brk a10))) fun j18 => bf (decide (a10 < (a.length : Int))) (need ((0 : Int) ≤ a10 ∧ a10 < (a.length : Int)) <| need ((0 + a10.toNat) < a.length) <| (freshetref04_Compare (a.getD (0 + a10.toNat) default) t).bind fun r22 => j18 (decide (r22 < 0))) (j18 false))) (fun i hi => by
    simp only [jn_eq, bf_decide, intlt]
    by_cases hlt : i < a.length
    · rw [if_pos hlt]
      simp (disch := omega) only [Int.toNat_natCast, Nat.zero_add, need_true, refCompare_eq, Option.bind_some, wadd1, hlt, true_and]
      unfold ltT
      by_cases h : cmpT (a.getD i default) t < 0
      · simp [h, need_true trivial]
      · simp [h, need_true trivial]
    · rw [if_neg hlt, if_neg (fun h => hlt h.1), bf_false]) a.length fuel (Nat.le_refl _) (by omega)
  rw [Nat.sub_self] at h1 h2 h4
  rw [show ((0 : Nat) : Int) = 0 from rfl] at h1
  refine ⟨j, h3, fun i h => h4 i (Nat.zero_le _) h, h5, ?_⟩
  rw [rangeN_to (leastB l t) (fun i x => x = leastB (l.take i) t) (fun x h => by rw [h, List.take_of_length_le (Nat.le_refl _)])]
  · simp only [outK_done]
    rw [rangeN_to (leastB l t && !a.any (fun u => eqTime u t)) (fun i x => x = (leastB l t && !(a.take i).any (fun u => eqTime u t))) (fun x h => by rw [h, List.take_of_length_le (Nat.le_refl _)])]
    · simp only [outK_done]
      by_cases hc : leastB l t = true ∧ a.any (fun u => eqTime u t) = false
      · rw [hc.1, hc.2, if_pos (by simp [hc])]
        simp only [Bool.not_false, Bool.and_true, Bool.not_true, bf_false]
        rw [h1]
        simp only [outK_done]
        have s1 : Av.sub a (0 : Int) (j : Int) = a.take j := by unfold Av.sub; simp
        have s2 : Av.sub a (j : Int) (a.length : Int) = a.drop j := by
          unfold Av.sub
          rw [Int.toNat_natCast, Int.toNat_natCast, List.take_of_length_le (by rw [List.length_drop]; exact Nat.le_refl _)]
        rw [s1, s2, need_true (by omega), need_true (by rw [List.length_take]; omega), need_true (by rw [List.length_take, List.length_singleton]; omega), need_true (by omega), need_true (by rw [List.length_append, List.length_take, List.length_singleton, List.length_drop]; omega)]
      · rw [if_neg hc]
        have : (leastB l t && !a.any (fun u => eqTime u t)) = false := by
          cases h1 : leastB l t <;> cases h2 : a.any (fun u => eqTime u t) <;> simp_all
        rw [this, Bool.not_false, bf_true]
    · rintro i x hi rfl
      refine ⟨_, ?_, rfl⟩
      rw [Nat.zero_add, need_true hi, take_succ hi, List.any_append]
      generalize a.getD i default = u
      cases h : eqTime u t <;> simp [h]
    · simp
  · rintro i x hi rfl
    refine ⟨_, ?_, rfl⟩
    simp only [jn_eq, refAhead_eq, Option.bind_some]
    rw [take_succ hi]
    have : leastB (l.take i ++ [l.getD i default]) t = (leastB (l.take i) t && !(!eqTime (l.getD i default) t && leT (l.getD i default) t)) := by
      unfold leastB; simp
    rw [this]
    cases eqTime (l.getD i default) t <;> cases leT (l.getD i default) t <;> simp
  · rfl

theorem refFront_eq {fuel : Nat} {l : List Time} (hz : l.length ≤ 274877906944) (hf : l.length + 2 < fuel) : freshetref04_Front fuel l = some (frontOf l) := by
  unfold freshetref04_Front
  refine outK_inv (fun i (a : List Time) => a.length ≤ i ∧ a.Pairwise (fun x y => ltT x y = true) ∧ ∀ x, x ∈ a ↔ x ∈ l.take i ∧ leastB l x = true) ⟨Nat.le_refl _, .nil, fun x => by simp⟩ ?_ ?_
  · rintro i a hi ⟨h1, h2, h3⟩
    obtain ⟨j, hj2, hj3, hj4, hb⟩ := refFront_body (fuel := fuel) (l := l) (a := a) (t := l.getD i default) (by omega) (by omega)
    refine ⟨_, hb, ?_⟩
    rw [take_succ hi]
    clear hb
    generalize l.getD i default = t at *
    by_cases hc : leastB l t = true ∧ a.any (fun u => eqTime u t) = false
    · rw [if_pos hc]
      have hne : ∀ x ∈ a, x ≠ t := fun x hx e => by
        have : a.any (fun u => eqTime u t) = true := List.any_eq_true.2 ⟨x, hx, eqT_iff.2 e⟩
        rw [hc.2] at this; cases this
      refine ⟨by rw [List.length_append, List.length_append, List.length_take, List.length_singleton, List.length_drop]; omega, ins_sorted h2 hj2 hj3 hj4 hne, fun x => ?_⟩
      rw [mem_sub hj2, h3, List.mem_append, List.mem_singleton]
      constructor
      · rintro (⟨g1, g2⟩ | rfl)
        · exact ⟨.inl g1, g2⟩
        · exact ⟨.inr rfl, hc.1⟩
      · rintro ⟨g1 | rfl, g2⟩
        · exact .inl ⟨g1, g2⟩
        · exact .inr rfl
    · rw [if_neg hc]
      refine ⟨by omega, h2, fun x => ?_⟩
      rw [h3, List.mem_append, List.mem_singleton]
      constructor
      · rintro ⟨g1, g2⟩; exact ⟨.inl g1, g2⟩
      · rintro ⟨g1 | rfl, g2⟩
        · exact ⟨g1, g2⟩
        · have ha : a.any (fun u => eqTime u x) = true := by
            cases e : a.any (fun u => eqTime u x) with
            | true => rfl
            | false => exact absurd ⟨g2, e⟩ hc
          obtain ⟨u, hu, he⟩ := List.any_eq_true.1 ha
          rw [eqT_iff.1 he] at hu
          exact (h3 x).1 hu
  · rintro a ⟨h1, h2, h3⟩
    rw [List.take_of_length_le (Nat.le_refl _)] at h3
    have := frontOf_is l
    congr 1
    refine sorted_ext h2 this.sorted fun x => ?_
    rw [h3, this.mem, leastB_iff]

end Go.Av
