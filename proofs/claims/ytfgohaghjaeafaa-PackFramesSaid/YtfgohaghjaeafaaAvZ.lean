/-
  Av, part Z: contracts of the library, as contracts here.
-/
import Derived.Test.YtfgohaghjaeafaaAvY
import Derived.Shelf.Strings.OnBuilder
namespace Go.Av
open Go Go.Shelf Go.RowKit Go.Proofs
set_option linter.unusedVariables false
set_option linter.unusedSimpArgs false

theorem Summ.ofCalls {P : Program} {f : FuncId} {args : List AV} {res : AV} (he : ∀ args w, (callFunc f args).run P w = .ok (.enter f args) w)
    (h : ∀ (G : Nat → Prop) (φ : Nat → Option Loc) (w : World) (vs : List Value), (∀ b, G b → b < w.heap.size) → RelAVs (RelC G (fun b => b < w.heap.size) φ w) args vs →
      Calls P f vs.toArray w fun e w' => ∃ v, e = .returned v ∧ RelAV (RelC G (fun _ => False) φ w') res v ∧ Below w.heap.size w w') : Summ P f args [] res [] := by
  intro G φ w vs hG hsl hargs
  have hb0 : ∀ b, ¬ Blks φ [] b := fun b ⟨k, c, l, hk, _⟩ => by cases hk
  have hV : (fun b => b < w.heap.size ∧ ¬ Blks φ [] b) = (fun b => b < w.heap.size) := by
    funext b; exact propext ⟨fun h => h.1, fun h => ⟨h, hb0 b⟩⟩
  rw [hV] at hargs
  unfold Acts
  rw [he]
  simp only
  refine (h G φ w vs hG hargs).mono fun e w' ⟨v, h1, h2, h3⟩ => ⟨v, G, φ, h1, ?_⟩
  exact
  { up := fun _ h => h
    fr := fun _ h => .inl h
    sz := fun b hb => Nat.lt_of_lt_of_le (hG b hb) h3.size
    rel := h2
    slots := ⟨(fun _ _ h => by cases h), (fun _ _ _ _ _ _ h => by cases h), (fun _ _ _ h => by cases h)⟩
    blk := fun _ _ _ h => by cases h
    kp := ⟨h3.os, h3.tape, h3.output, h3.size, fun b hb _ => h3.block b hb⟩
    fix := fun _ _ _ h => by cases h }

theorem strings_Join_ok {P : Program} {ρ : Ren} (L : Lays.n156 P ρ) (X : Builder.Extra P ρ) {xs : List ByteArray} {sep q : ByteArray} (h : strings_Join xs sep = some q) :
    Summ P (ρ.f 156) [.c (.view 1 xs.length (fun i => encStr (xs.getD i default))), .c (.d (.str sep))] [] (.c (.d (.str q))) [] := by
  unfold strings_Join at h
  obtain ⟨⟨h1, h2⟩, h⟩ := need_elim h
  cases h
  refine Summ.ofCalls (Go.Proofs.enters_of L.f156 (by kernel_rfl) rfl) fun G φ w vs hG hargs => ?_
  match vs, hargs with
  | [a, b], ⟨ha, hb, _⟩ =>
    have hb : RelD G w (.str sep) b := hb.1
    cases hb
    rcases ha.1 with ⟨h0, A, cap, rfl⟩ | ⟨blk, off, cap, hblk, rfl, hc, hm, he⟩
    · obtain rfl := List.eq_nil_of_length_eq_zero h0
      exact (Go.Proofs.Any.strings_Join_none L X A cap sep w).mono fun e w' ⟨h3, h4⟩ => by
        subst h4
        exact ⟨_, h3, ⟨RelD.str _, rfl⟩, Below.refl _ _⟩
    · refine (Go.Proofs.Any.strings_Join L X blk off cap xs sep w (fun j x hj => ?_) ?_ h1 hc h2).mono fun e w' ⟨h3, h4⟩ => ⟨_, h3, ⟨RelD.str _, rfl⟩, h4⟩
      · obtain ⟨hlt, hx⟩ := List.getElem?_eq_some_iff.1 hj
        obtain ⟨g1, g2⟩ := he j hlt
        obtain ⟨u, hu, hr⟩ := g2 0 (by rw [g1]; exact Nat.one_pos)
        rw [Nat.mul_one, Nat.add_zero] at hu
        rw [hu]
        have : xs.getD j default = x := by rw [List.getD_eq_getElem?_getD, hj]; rfl
        have hr : RelD G w (.str (xs.getD j default)) u := hr
        rw [this] at hr
        cases hr
        rfl
      · rcases hblk with h5 | h5
        · exact hG _ h5
        · exact h5

end Go.Av
