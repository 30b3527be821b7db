import Derived.Test.YtoiphmpjiobaiaaKM
namespace Go.Av
open Go
set_option linter.unusedVariables false
set_option linter.unusedSimpArgs false


def adv (t : Time) (f : List Time) : Time := if f = [] then t else lub2 t (glbL f)

theorem lub2_glb2 {t a b : Time} : glb2 (lub2 t a) (lub2 t b) = lub2 t (glb2 a b) := by
  refine Time.ext' ?_ ?_ ?_ <;> simp only [lub2, glb2, mx_eq, mn_eq] <;> omega

theorem glbL_map {t : Time} {f : List Time} (h : f ≠ []) : glbL (f.map (lub2 t)) = lub2 t (glbL f) := by
  cases f with
  | nil => exact absurd rfl h
  | cons x f =>
    simp only [List.map_cons, glbL]
    induction f generalizing x with
    | nil => rfl
    | cons y f ih =>
      simp only [List.map_cons, List.foldl_cons]
      rw [lub2_glb2]
      exact ih (glb2 x y) (by simp)

theorem lub_two {t u : Time} (ht : nnTime t) (hu : nnTime u) : moment_Lub [t, u] = some (lub2 t u) := by
  unfold moment_Lub
  rw [foldGreatest_eq (fun x hx => by
    rcases List.mem_cons.1 hx with rfl | hx
    · exact ht
    · rw [List.mem_singleton.1 hx]; exact hu), lubL_two ht]
  rfl

theorem advance_eq {t : Time} {f : List Time} (ht : nnTime t) (hf : NN f) (hl : f.length ≤ 274877906944) : moment_Advance t f = some (adv t f) := by
  unfold moment_Advance adv
  by_cases h0 : f = []
  · rw [if_pos h0, h0]; rfl
  · have hlen : f.length ≠ 0 := fun e => h0 (List.eq_nil_of_length_eq_zero e)
    rw [if_neg h0, decide_eq_false (by omega), bf_false, need_true (by unfold lim; omega)]
    rw [rangeN_to (f.map (lub2 t)) (fun i a => a = (f.take i).map (lub2 t) ++ List.replicate (f.length - i) (⟨0, (0, 0)⟩ : Time)) (fun a h => by rw [h, List.take_of_length_le (Nat.le_refl _), Nat.sub_self]; simp)]
    · simp only [outK_done]
      unfold moment_Glb
      rw [foldLeast_eq, glbL_map h0]; rfl
    · rintro i a hi rfl
      refine ⟨_, ?_, rfl⟩
      have hlen2 : ((f.take i).map (lub2 t) ++ List.replicate (f.length - i) (⟨0, (0, 0)⟩ : Time)).length = f.length := by
        rw [List.length_append, List.length_map, List.length_take, List.length_replicate]; omega
      rw [lub_two ht (hf _ (getD_mem hi)), Option.bind_some, hlen2, Nat.zero_add, need_true (by omega), need_true (by omega), take_succ hi, List.map_append, show f.length - i = (f.length - (i + 1)) + 1 by omega, List.replicate_succ]
      have e := List.set_append_right (s := (f.take i).map (lub2 t)) (t := (⟨0, (0, 0)⟩ : Time) :: List.replicate (f.length - (i + 1)) (⟨0, (0, 0)⟩ : Time)) i (lub2 t (f.getD i default)) (by rw [List.length_map, List.length_take]; omega)
      rw [e, List.length_map, List.length_take, show i - min i f.length = 0 by omega]
      simp
    · simp

theorem refAdvance_eq {t : Time} {f : List Time} (ht : nnTime t) (hf : NN f) (hl : f.length ≤ 274877906944) : freshetref04_Advance t f = some (adv t f) := by
  unfold freshetref04_Advance adv
  by_cases h0 : f = []
  · rw [if_pos h0, h0]; rfl
  · have hlen : f.length ≠ 0 := fun e => h0 (List.eq_nil_of_length_eq_zero e)
    rw [if_neg h0, decide_eq_false (by omega), bf_false]
    rw [rangeN_to (f.map (lub2 t)) (fun i a => a = (f.take i).map (lub2 t)) (fun a h => by rw [h, List.take_of_length_le (Nat.le_refl _)])]
    · simp only [outK_done]
      rw [refGlb_eq, glbL_map h0]; rfl
    · rintro i a hi rfl
      refine ⟨_, ?_, rfl⟩
      rw [refLub_eq, lubL_two ht, Option.bind_some, need_true (by rw [List.length_map, List.length_take, List.length_singleton]; omega), take_succ hi, List.map_append]
      rfl
    · rfl


theorem fronts_ex : frontOf [⟨2, (0, 1)⟩, ⟨1, (0, 2)⟩, ⟨3, (0, 2)⟩] = [⟨1, (0, 2)⟩, ⟨2, (0, 1)⟩] := by
  refine (frontOf_is _).uniq ⟨?_, ?_, ?_, ?_⟩
  · rw [List.pairwise_cons]
    refine ⟨fun x hx => ?_, by simp⟩
    rw [List.mem_singleton.1 hx]; rfl
  · intro x hx
    simp only [List.mem_cons, List.not_mem_nil, or_false] at hx ⊢
    rcases hx with rfl | rfl
    · exact .inr (.inl rfl)
    · exact .inl rfl
  · intro y hy
    simp only [List.mem_cons, List.not_mem_nil, or_false] at hy
    rcases hy with rfl | rfl | rfl
    · exact ⟨_, List.mem_cons_of_mem _ (List.mem_cons_self ..), rfl⟩
    · exact ⟨_, List.mem_cons_self .., rfl⟩
    · exact ⟨_, List.mem_cons_self .., rfl⟩
  · intro x hx y hy hle
    simp only [List.mem_cons, List.not_mem_nil, or_false] at hx hy
    rcases hx with rfl | rfl <;> rcases hy with rfl | rfl | rfl <;> first | rfl | (rw [leT_iff] at hle; simp at hle)

theorem fronts_true {fuel : Nat} (hf : 40 < fuel) : freshetlaw04_fronts fuel = some true := by
  have hnn : NN [⟨2, (0, 1)⟩, ⟨1, (0, 2)⟩, ⟨3, (0, 2)⟩] := fun x hx => by
    simp only [List.mem_cons, List.not_mem_nil, or_false] at hx
    rcases hx with rfl | rfl | rfl <;> simp [nnTime]
  have hnn2 : NN [⟨1, (0, 2)⟩, ⟨2, (0, 1)⟩] := fun x hx => by
    simp only [List.mem_cons, List.not_mem_nil, or_false] at hx
    rcases hx with rfl | rfl <;> simp [nnTime]
  unfold freshetlaw04_fronts freshetlaw04_at
  simp only [Option.bind_some]
  rw [front_eq hnn (by decide) (by simp; omega), fronts_ex]
  simp only [Option.bind_some, jn_eq]
  rw [beyond_eq hnn2 (by simp [nnTime]), beyond_eq hnn2 (by simp [nnTime]), advance_eq (by simp [nnTime]) (fun x hx => by rw [List.mem_singleton.1 hx]; simp [nnTime]) (by decide)]
  rfl

theorem MomentFronts_law {l : List Time} {t : Time} (hl : NN l) (ht : nnTime t) (hz : l.length ≤ 1048576) : freshetlaw04_MomentFronts 2100000 l t = some true := by
  unfold freshetlaw04_MomentFronts
  rw [fronts_true (by omega), front_eq hl (by omega) (by omega), refFront_eq (by omega) (by omega), beyond_eq hl ht, refBeyond_eq, advance_eq ht hl (by omega), refAdvance_eq ht hl (by omega)]
  simp [jn, refSame_self, eqTime_self]

end Go.Av
