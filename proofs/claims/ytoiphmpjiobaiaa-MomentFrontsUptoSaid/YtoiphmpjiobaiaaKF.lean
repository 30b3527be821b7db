import Derived.Test.YtoiphmpjiobaiaaPQ8
import Derived.Sort.AssemblyPlain
namespace Go.Av
open Go
set_option linter.unusedVariables false
set_option linter.unusedSimpArgs false

theorem refLub_eq (l : List Time) : freshetref04_Lub l = some (lubL l) := by
  unfold freshetref04_Lub
  rw [rangeN_foldl lub2]
  · rfl
  · intro i a hi
    generalize l.getD i default = x
    by_cases h1 : a.epoch < x.epoch <;> by_cases h2 : a.loop.1 < x.loop.1 <;> by_cases h3 : a.loop.2 < x.loop.2 <;> simp [rangeN, lub2, outK, h1, h2, h3]

theorem refGlb_eq (l : List Time) : freshetref04_Glb l = some (glbL l) := by
  unfold freshetref04_Glb
  simp only [bf_decide]
  split
  · rename_i h
    obtain rfl : l = [] := List.eq_nil_of_length_eq_zero (by omega)
    rfl
  · rename_i h
    have hl : 0 < l.length := by omega
    rw [need_true ⟨Int.le_refl _, by omega⟩]
    rw [rangeN_to (glbL l) (fun i a => a = if i = 0 then l.getD 0 default else glbL (l.take i)) (fun s h => by rw [h, List.take_length, if_neg (by omega)])]
    · rfl
    · intro i a hi ha
      refine ⟨_, ?_, rfl⟩
      rw [take_succ_getD hi, if_neg (by omega)]
      rcases Nat.eq_zero_or_pos i with h0 | h0
      · subst h0
        rw [if_pos rfl] at ha
        subst ha
        simp [jn_eq, rangeN, outK, glbL]
      · rw [if_neg (by omega)] at ha
        rw [glbL_append (by intro h; have h2 := congrArg List.length h; rw [List.length_take] at h2; simp only [List.length_nil] at h2; omega), ← ha]
        generalize l.getD i default = x at *
        by_cases h1 : x.epoch < a.epoch <;> by_cases h2 : x.loop.1 < a.loop.1 <;> by_cases h3 : x.loop.2 < a.loop.2 <;> simp [rangeN, glb2, outK, h1, h2, h3]
    · rfl



theorem eqT_iff {x y : Time} : eqTime x y = true ↔ x = y := by
  constructor
  · intro h
    simp only [eqTime, Bool.and_eq_true, decide_eq_true_eq, Bool.and_true] at h
    exact Time.ext' h.1 h.2.1 h.2.2
  · rintro rfl; exact eqTime_self x

theorem le_anti {a b : Time} (h : leT a b = true) (g : leT b a = true) : a = b := eqT_iff.1 (leT_anti h g)

theorem not_lt_of_le {a b : Time} (h : leT a b = true) : ltT b a = false := by
  cases e : ltT b a with
  | false => rfl
  | true => rw [leT_iff] at h; rw [ltT_iff] at e; omega
theorem lt_or {a b : Time} (h : ltT b a = false) (hne : a ≠ b) : ltT a b = true := by
  cases e : ltT a b with
  | true => rfl
  | false =>
    refine absurd ?_ hne
    rw [← Bool.not_eq_true, ltT_iff] at h e
    exact Time.ext' (by omega) (by omega) (by omega)
theorem lt_irr {a : Time} : ltT a a = false := swoT.irrefl a
theorem lt_asymm {a b : Time} (h : ltT a b = true) : ltT b a = false := by
  cases e : ltT b a with
  | false => rfl
  | true => rw [ltT_iff] at h e; omega

structure IsF (l f : List Time) : Prop where
  sorted : f.Pairwise fun x y => ltT x y = true
  sub : ∀ x ∈ f, x ∈ l
  below : ∀ y ∈ l, ∃ u ∈ f, leT u y = true
  least : ∀ x ∈ f, ∀ y ∈ l, leT y x = true → y = x

theorem IsF.mem {l f : List Time} (h : IsF l f) (x : Time) : x ∈ f ↔ x ∈ l ∧ ∀ y ∈ l, leT y x = true → y = x := by
  constructor
  · exact fun hx => ⟨h.sub x hx, h.least x hx⟩
  · rintro ⟨hx, hm⟩
    obtain ⟨u, hu, hle⟩ := h.below x hx
    rw [← hm u (h.sub u hu) hle]
    exact hu

theorem sorted_ext : ∀ {f g : List Time}, f.Pairwise (fun x y => ltT x y = true) → g.Pairwise (fun x y => ltT x y = true) → (∀ x, x ∈ f ↔ x ∈ g) → f = g
  | [], [], _, _, _ => rfl
  | [], y :: g, _, _, h => by have := (h y).2 (List.mem_cons_self ..); cases this
  | x :: f, [], _, _, h => by have := (h x).1 (List.mem_cons_self ..); cases this
  | x :: f, y :: g, hf, hg, h => by
    rw [List.pairwise_cons] at hf hg
    have hxy : x = y := by
      rcases List.mem_cons.1 ((h x).1 (List.mem_cons_self ..)) with e | hx
      · exact e
      · rcases List.mem_cons.1 ((h y).2 (List.mem_cons_self ..)) with e | hy
        · exact e.symm
        · have h1 := hg.1 x hx
          have h2 := hf.1 y hy
          rw [lt_asymm h1] at h2
          cases h2
    subst hxy
    have hr : f = g := sorted_ext hf.2 hg.2 (fun z => by
      constructor
      · intro hz
        rcases List.mem_cons.1 ((h z).1 (List.mem_cons_of_mem _ hz)) with e | hz2
        · subst e
          have := hf.1 z hz
          rw [lt_irr] at this; cases this
        · exact hz2
      · intro hz
        rcases List.mem_cons.1 ((h z).2 (List.mem_cons_of_mem _ hz)) with e | hz2
        · subst e
          have := hg.1 z hz
          rw [lt_irr] at this; cases this
        · exact hz2)
    rw [hr]

theorem IsF.uniq {l f g : List Time} (h : IsF l f) (h2 : IsF l g) : f = g :=
  sorted_ext h.sorted h2.sorted fun x => by rw [h.mem, h2.mem]

theorem IsF.congr {l m f : List Time} (h : IsF l f) (e : ∀ x, x ∈ l ↔ x ∈ m) : IsF m f :=
  ⟨h.sorted, fun x hx => (e x).1 (h.sub x hx), fun y hy => h.below y ((e y).2 hy), fun x hx y hy => h.least x hx y ((e y).2 hy)⟩

theorem IsF.self {l f : List Time} (h : IsF l f) : IsF f f :=
  ⟨h.sorted, fun x hx => hx, fun y hy => ⟨y, hy, leT_refl y⟩, fun x hx y hy hle => h.least x hx y (h.sub y hy) hle⟩

theorem IsF.step {p f : List Time} {t : Time} (h : IsF p f) (hs : ∀ x ∈ p, ltT t x = false) : IsF (p ++ [t]) (if f.any (fun u => leT u t) then f else f ++ [t]) := by
  by_cases hc : f.any (fun u => leT u t) = true
  · rw [if_pos hc]
    obtain ⟨u, hu, hut⟩ := List.any_eq_true.1 hc
    refine ⟨h.sorted, fun x hx => List.mem_append.2 (.inl (h.sub x hx)), ?_, ?_⟩
    · intro y hy
      rcases List.mem_append.1 hy with hy | hy
      · exact h.below y hy
      · rw [List.mem_singleton.1 hy]; exact ⟨u, hu, hut⟩
    · intro x hx y hy hle
      rcases List.mem_append.1 hy with hy | hy
      · exact h.least x hx y hy hle
      · rw [List.mem_singleton.1 hy] at hle ⊢
        have hux := h.least x hx u (h.sub u hu) (leT_trans hut hle)
        subst hux
        exact le_anti hle hut
  · rw [if_neg hc]
    have hno : ∀ u ∈ f, leT u t = false := fun u hu => by
      cases e : leT u t with
      | false => rfl
      | true => exact absurd (List.any_eq_true.2 ⟨u, hu, e⟩) hc
    have hnp : ∀ y ∈ p, leT y t = false := fun y hy => by
      obtain ⟨u, hu, hle⟩ := h.below y hy
      cases e : leT y t with
      | false => rfl
      | true => have := leT_trans hle e; rw [hno u hu] at this; cases this
    refine ⟨?_, ?_, ?_, ?_⟩
    · rw [List.pairwise_append]
      refine ⟨h.sorted, by simp, fun x hx y hy => ?_⟩
      rw [List.mem_singleton.1 hy]
      refine lt_or (hs x (h.sub x hx)) (fun e => ?_)
      subst e
      have := hno x hx
      rw [leT_refl] at this; cases this
    · intro x hx
      rcases List.mem_append.1 hx with hx | hx
      · exact List.mem_append.2 (.inl (h.sub x hx))
      · exact List.mem_append.2 (.inr hx)
    · intro y hy
      rcases List.mem_append.1 hy with hy | hy
      · obtain ⟨u, hu, hle⟩ := h.below y hy
        exact ⟨u, List.mem_append.2 (.inl hu), hle⟩
      · exact ⟨y, List.mem_append.2 (.inr hy), leT_refl y⟩
    · intro x hx y hy hle
      rcases List.mem_append.1 hx with hx | hx
      · rcases List.mem_append.1 hy with hy | hy
        · exact h.least x hx y hy hle
        · rw [List.mem_singleton.1 hy] at hle ⊢
          have h1 := hs x (h.sub x hx)
          have h2 := not_lt_of_le hle
          by_cases e : t = x
          · exact e
          · have := lt_or h1 (fun h => e h.symm); rw [h2] at this; cases this
      · rw [List.mem_singleton.1 hx] at hle ⊢
        rcases List.mem_append.1 hy with hy | hy
        · rw [hnp y hy] at hle; cases hle
        · exact List.mem_singleton.1 hy

def frontS (l : List Time) : List Time := l.foldl (fun f t => if f.any (fun u => leT u t) then f else f ++ [t]) []

theorem frontS_is {l : List Time} (h : l.Pairwise fun x y => ltT y x = false) : IsF l (frontS l) := by
  have key : ∀ (r p f : List Time), IsF p f → (p ++ r).Pairwise (fun x y => ltT y x = false) → IsF (p ++ r) (r.foldl (fun f t => if f.any (fun u => leT u t) then f else f ++ [t]) f) := by
    intro r
    induction r with
    | nil => intro p f hf _; rw [List.append_nil]; exact hf
    | cons t r ih =>
      intro p f hf hp
      rw [List.foldl_cons]
      have e : p ++ t :: r = (p ++ [t]) ++ r := by simp
      rw [e] at hp ⊢
      refine ih (p ++ [t]) _ (hf.step fun x hx => ?_) hp
      rw [List.pairwise_append, List.pairwise_append] at hp
      exact hp.1.2.2 x hx t (List.mem_singleton.2 rfl)
  exact key l [] [] ⟨.nil, (fun x h => nomatch h), (fun y h => nomatch h), (fun x h => nomatch h)⟩ h

def sortT (l : List Time) : List Time := (Sort.sort ltT l.toArray).toList
def frontOf (l : List Time) : List Time := frontS (sortT l)

theorem sortT_perm (l : List Time) : (sortT l).Perm l := by
  have h := (Sort.sort_sorts ltT swoT l.toArray).1
  obtain ⟨h1, _, h3⟩ := h
  have e1 : (Sort.sort ltT l.toArray).extract 0 l.toArray.size = Sort.sort ltT l.toArray := by rw [← h1]; simp
  have e2 : l.toArray.extract 0 l.toArray.size = l.toArray := by simp
  rw [e1, e2] at h3
  exact h3

theorem sortT_sorted (l : List Time) : (sortT l).Pairwise fun x y => ltT y x = false := by
  have h := Sort.sort_sorts ltT swoT l.toArray
  rw [List.pairwise_iff_getElem]
  intro i j hi hj hij
  have hsz : (Sort.sort ltT l.toArray).size = l.toArray.size := h.1.1
  have hj' : j < (Sort.sort ltT l.toArray).size := by unfold sortT at hj; rw [Array.length_toList] at hj; exact hj
  have := h.2 i j (Nat.zero_le _) hij (by omega)
  have ej : (sortT l)[j] = (Sort.sort ltT l.toArray)[j]'hj' := Array.getElem_toList _
  have ei : (sortT l)[i] = (Sort.sort ltT l.toArray)[i]'(by omega) := Array.getElem_toList _
  rw [getElem!_pos _ j hj', getElem!_pos _ i (by omega)] at this
  exact (congr (congrArg ltT ej) ei).trans this

theorem frontOf_is (l : List Time) : IsF l (frontOf l) := (frontS_is (sortT_sorted l)).congr fun x => (sortT_perm l).mem_iff
theorem sortT_length (l : List Time) : (sortT l).length = l.length := (sortT_perm l).length_eq

theorem frontS_length (l : List Time) : (frontS l).length ≤ l.length := by
  have key : ∀ (r f : List Time), (r.foldl (fun f t => if f.any (fun u => leT u t) then f else f ++ [t]) f).length ≤ f.length + r.length := by
    intro r
    induction r with
    | nil => intro f; exact Nat.le_refl _
    | cons t r ih =>
      intro f
      rw [List.foldl_cons]
      refine Nat.le_trans (ih _) ?_
      split
      · rw [List.length_cons]; omega
      · rw [List.length_append, List.length_singleton, List.length_cons]; omega
  have := key l []
  rw [List.length_nil, Nat.zero_add] at this
  exact this
theorem frontOf_length (l : List Time) : (frontOf l).length ≤ l.length := by
  have := frontS_length (sortT l)
  rw [sortT_length] at this
  exact this

end Go.Av
