import Derived.Test.YtemaompodlpdjaaL10a1
import Derived.ChangeOld
import Derived.ChangeArms
import Derived.Carry
import Derived.OpenShut
import Derived.WalkKit
import Derived.ProofKit
import Derived.SizedLaws
import Derived.JoinedCond
import Derived.Laws.Externs
import Derived.Lib.Join
import Derived.Sort.LotD3
import Derived.Sort.LotD4
import Derived.Sort.LotA
import Derived.Sort.LotB
import Derived.Sort.LotC
import Derived.Sort.AssemblyPlain
/-
  Av, part R: a region whose order is open.
-/
namespace Go.Av
open Go
set_option linter.unusedVariables false
set_option linter.unusedSimpArgs false
structure DOp where
  need : St
  eff : St
  mks : List Nat
  dead : List Nat
  hid : List Nat
def St.app (x s : St) : St := ⟨x.tm ++ s.tm, x.sl ++ s.sl⟩
def stD (D : Nat → Bool) : Nat → List DOp → St → St
  | _, [], s => s
  | i, x :: xs, s => match D i with
    | true => stD D (i + 1) xs (x.eff.app s)
    | false => stD D (i + 1) xs s
def hasKey {α : Type} (t : Nat) : List (Nat × α) → Bool
  | [] => false
  | (k, _) :: r => match Nat.beq k t with | true => true | false => hasKey t r
def memB (i : Nat) : List Nat → Bool
  | [] => false
  | k :: r => match Nat.beq k i with | true => true | false => memB i r
def nth (l : List (List Nat)) (j : Nat) : List Nat := l.getD j []
def allB {α : Type} (f : α → Bool) : List α → Bool
  | [] => true
  | x :: r => match f x with | true => allB f r | false => false
def okBef (ops : Array Oper) (bef : List (List Nat)) : Bool :=
  allB (fun j => allB (fun i => match ops[j]? with
    | some o => anyB (fun e : Edge => match Region.binds .any e with
      | true => match Nat.blt e.on j with
        | true => match Nat.beq e.on i with | true => true | false => memB i (nth bef e.on)
        | false => false
      | false => false) o.after.toList
    | none => false) (nth bef j)) (List.range ops.size)
def writes (x : DOp) (r : DOp) : Bool :=
  match anyB (fun e : Nat × AV => match hasKey e.1 r.need.tm with | true => true | false => hasKey e.1 r.eff.tm) x.eff.tm with
  | true => true
  | false => anyB (fun e : Nat × Slot => match hasKey e.1 r.need.sl with | true => true | false => hasKey e.1 r.eff.sl) x.eff.sl
def ordOk (specs : List DOp) (bef : List (List Nat)) : Bool :=
  allB (fun r => allB (fun i => match Nat.beq i r with
    | true => true
    | false => match specs[i]?, specs[r]? with
      | some x, some y => match writes x y with
        | true => match memB i (nth bef r) with | true => true | false => memB r (nth bef i)
        | false => true
      | _, _ => true) (List.range specs.length)) (List.range specs.length)
def lessK {α : Type} (dead : List Nat) : List (Nat × α) → List (Nat × α)
  | [] => []
  | (k, x) :: r => match memB k dead with | true => lessK dead r | false => (k, x) :: lessK dead r
def St.less (x : DOp) (r : St) : St := ⟨lessK x.dead r.tm, lessK (x.mks ++ x.hid) r.sl⟩
def effRef (d : Nat) (z x : DOp) : Bool :=
  match anyB (fun e : Nat × AV => AV.refs d e.2) (x.eff.less z).tm with | true => true | false => anyB (slotRef d) (x.eff.less z).sl
def freshOk (specs : List DOp) (bef : List (List Nat)) (s0 : St) : Bool :=
  allB (fun r => match specs[r]? with
    | some x => match allB (fun t => hasKey t x.eff.tm) x.dead, allB (fun k => hasKey k x.eff.sl) (x.mks ++ x.hid) with
     | true, true => allB (fun d => match (s0.less x).noRef d with
      | true => allB (fun i => match Nat.beq i r with
        | true => true
        | false => match specs[i]? with
          | some y => match effRef d x y with
            | true => memB r (nth bef i)
            | false => true
          | none => true) (List.range specs.length)
      | false => false) x.mks
     | _, _ => false
    | none => true) (List.range specs.length)
def keysOf {α : Type} (l : List (Nat × α)) : List Nat := l.map (·.1)
def needsOk (all : List DOp) (bef : List (List Nat)) (s0 : St) : Nat → List DOp → List (Option St)
  | _, [] => []
  | r, x :: xs => keep (keysOf x.need.tm) (keysOf x.need.sl) (stD (fun i => memB i (nth bef r)) 0 all s0) :: needsOk all bef s0 (r + 1) xs
def needsOf : List DOp → List (Option St)
  | [] => []
  | x :: xs => some x.need :: needsOf xs
theorem memB_iff {i : Nat} {l : List Nat} : memB i l = true ↔ i ∈ l := by
  induction l with
  | nil => simp [memB]
  | cons k r ih =>
    simp only [memB]
    cases hb : Nat.beq k i with
    | true => have := Nat.eq_of_beq_eq_true hb; subst this; simp
    | false =>
      have : k ≠ i := fun e => by rw [e] at hb; simp at hb
      simp only [ih, List.mem_cons]
      constructor
      · exact fun h => .inr h
      · rintro (e | h)
        · exact absurd e.symm this
        · exact h
theorem allB_iff {α : Type} {f : α → Bool} {l : List α} : allB f l = true ↔ ∀ x ∈ l, f x = true := by
  induction l with
  | nil => simp [allB]
  | cons x r ih =>
    simp only [allB]
    cases hx : f x with
    | true => simp [ih, hx]
    | false => simp [hx]
theorem anyB_iff {α : Type} {f : α → Bool} {l : List α} : anyB f l = true ↔ ∃ x ∈ l, f x = true := by
  induction l with
  | nil => simp [anyB]
  | cons x r ih =>
    simp only [anyB]
    cases hx : f x with
    | true => simp [hx]
    | false => simp [ih, hx]
theorem hasKey_iff {α : Type} {t : Nat} {l : List (Nat × α)} : hasKey t l = true ↔ ∃ x, look l t = some x := by
  induction l with
  | nil => simp [hasKey, look]
  | cons e r ih =>
    rcases e with ⟨k, v⟩
    simp only [hasKey, look_cons]
    cases hb : Nat.beq k t with
    | true => have := Nat.eq_of_beq_eq_true hb; subst this; simp
    | false =>
      have : k ≠ t := fun e => by rw [e] at hb; simp at hb
      simp [this, ih]
theorem look_append {α : Type} (l r : List (Nat × α)) (t : Nat) : look (l ++ r) t = match look l t with | some x => some x | none => look r t := by
  induction l with
  | nil => simp [look]
  | cons e l ih =>
    rcases e with ⟨k, v⟩
    simp only [List.cons_append, look_cons, ih]
    by_cases e : k = t <;> simp [e]
theorem stD_congr {D D' : Nat → Bool} (t : Nat) : ∀ (xs : List DOp) (i : Nat) (s s' : St), look s.tm t = look s'.tm t → (∀ j x, xs[j]? = some x → hasKey t x.eff.tm = true → D (i + j) = D' (i + j)) →
    look (stD D i xs s).tm t = look (stD D' i xs s').tm t
  | [], i, s, s', h, _ => h
  | x :: xs, i, s, s', h, hw => by
    have hrest : ∀ j y, xs[j]? = some y → hasKey t y.eff.tm = true → D (i + 1 + j) = D' (i + 1 + j) := fun j y hy hk => by
      have := hw (j + 1) y (by simpa using hy) hk
      rwa [show i + (j + 1) = i + 1 + j by omega] at this
    have h1 : look (x.eff.app s).tm t = look (x.eff.app s').tm t := by simp only [St.app, look_append, h]
    simp only [stD]
    cases hk : hasKey t x.eff.tm with
    | true =>
      have e := hw 0 x rfl hk
      simp only [Nat.add_zero] at e
      rw [e]
      cases D' i with
      | true => exact stD_congr t xs (i + 1) _ _ h1 hrest
      | false => exact stD_congr t xs (i + 1) _ _ h hrest
    | false =>
      have hn : look x.eff.tm t = none := by
        cases hl : look x.eff.tm t with
        | none => rfl
        | some y => rw [hasKey_iff.2 ⟨y, hl⟩] at hk; cases hk
      have g1 : look (x.eff.app s).tm t = look s.tm t := by simp only [St.app, look_append, hn]
      have g2 : look (x.eff.app s').tm t = look s'.tm t := by simp only [St.app, look_append, hn]
      cases D i <;> cases D' i
      · exact stD_congr t xs (i + 1) _ _ h hrest
      · exact stD_congr t xs (i + 1) _ _ (h.trans g2.symm) hrest
      · exact stD_congr t xs (i + 1) _ _ (g1.trans h) hrest
      · exact stD_congr t xs (i + 1) _ _ h1 hrest
theorem stD_congrS {D D' : Nat → Bool} (t : Nat) : ∀ (xs : List DOp) (i : Nat) (s s' : St), look s.sl t = look s'.sl t → (∀ j x, xs[j]? = some x → hasKey t x.eff.sl = true → D (i + j) = D' (i + j)) →
    look (stD D i xs s).sl t = look (stD D' i xs s').sl t
  | [], i, s, s', h, _ => h
  | x :: xs, i, s, s', h, hw => by
    have hrest : ∀ j y, xs[j]? = some y → hasKey t y.eff.sl = true → D (i + 1 + j) = D' (i + 1 + j) := fun j y hy hk => by
      have := hw (j + 1) y (by simpa using hy) hk
      rwa [show i + (j + 1) = i + 1 + j by omega] at this
    have h1 : look (x.eff.app s).sl t = look (x.eff.app s').sl t := by simp only [St.app, look_append, h]
    simp only [stD]
    cases hk : hasKey t x.eff.sl with
    | true =>
      have e := hw 0 x rfl hk
      simp only [Nat.add_zero] at e
      rw [e]
      cases D' i with
      | true => exact stD_congrS t xs (i + 1) _ _ h1 hrest
      | false => exact stD_congrS t xs (i + 1) _ _ h hrest
    | false =>
      have hn : look x.eff.sl t = none := by
        cases hl : look x.eff.sl t with
        | none => rfl
        | some y => rw [hasKey_iff.2 ⟨y, hl⟩] at hk; cases hk
      have g1 : look (x.eff.app s).sl t = look s.sl t := by simp only [St.app, look_append, hn]
      have g2 : look (x.eff.app s').sl t = look s'.sl t := by simp only [St.app, look_append, hn]
      cases D i <;> cases D' i
      · exact stD_congrS t xs (i + 1) _ _ h hrest
      · exact stD_congrS t xs (i + 1) _ _ (h.trans g2.symm) hrest
      · exact stD_congrS t xs (i + 1) _ _ (g1.trans h) hrest
      · exact stD_congrS t xs (i + 1) _ _ h1 hrest
theorem stD_last {D : Nat → Bool} (t : Nat) : ∀ (xs : List DOp) (i r : Nat) (x : DOp) (y : AV) (s : St), xs[r]? = some x → D (i + r) = true → look x.eff.tm t = some y →
    (∀ j z, r < j → xs[j]? = some z → hasKey t z.eff.tm = true → D (i + j) = false) → look (stD D i xs s).tm t = some y
  | [], i, r, x, y, s, h, _, _, _ => by simp at h
  | z :: xs, i, 0, x, y, s, h, hD, hl, hw => by
    simp at h; subst h
    simp only [stD]
    rw [Nat.add_zero] at hD
    rw [hD]
    have : look (stD D (i + 1) xs (z.eff.app s)).tm t = look (stD (fun _ => false) (i + 1) xs (z.eff.app s)).tm t :=
      stD_congr t xs (i + 1) _ _ rfl fun j x hx hk => by
        have := hw (j + 1) x (by omega) (by simpa using hx) hk
        rwa [show i + (j + 1) = i + 1 + j by omega] at this
    rw [this]
    have key : ∀ (xs : List DOp) (i : Nat) (s : St), stD (fun _ => false) i xs s = s := by
      intro xs
      induction xs with
      | nil => intro i s; rfl
      | cons x xs ih => intro i s; simp only [stD]; exact ih _ _
    rw [key]
    simp only [St.app, look_append, hl]
  | z :: xs, i, r + 1, x, y, s, h, hD, hl, hw => by
    simp only [stD]
    have h' : xs[r]? = some x := by simpa using h
    have hD' : D (i + 1 + r) = true := by rwa [show i + (r + 1) = i + 1 + r by omega] at hD
    have hw' : ∀ j z, r < j → xs[j]? = some z → hasKey t z.eff.tm = true → D (i + 1 + j) = false := fun j z hj hz hk => by
      have := hw (j + 1) z (by omega) (by simpa using hz) hk
      rwa [show i + (j + 1) = i + 1 + j by omega] at this
    cases D i with
    | true => exact stD_last t xs (i + 1) r x y _ h' hD' hl hw'
    | false => exact stD_last t xs (i + 1) r x y _ h' hD' hl hw'
theorem stD_lastS {D : Nat → Bool} (t : Nat) : ∀ (xs : List DOp) (i r : Nat) (x : DOp) (y : Slot) (s : St), xs[r]? = some x → D (i + r) = true → look x.eff.sl t = some y →
    (∀ j z, r < j → xs[j]? = some z → hasKey t z.eff.sl = true → D (i + j) = false) → look (stD D i xs s).sl t = some y
  | [], i, r, x, y, s, h, _, _, _ => by simp at h
  | z :: xs, i, 0, x, y, s, h, hD, hl, hw => by
    simp at h; subst h
    simp only [stD]
    rw [Nat.add_zero] at hD
    rw [hD]
    have : look (stD D (i + 1) xs (z.eff.app s)).sl t = look (stD (fun _ => false) (i + 1) xs (z.eff.app s)).sl t :=
      stD_congrS t xs (i + 1) _ _ rfl fun j x hx hk => by
        have := hw (j + 1) x (by omega) (by simpa using hx) hk
        rwa [show i + (j + 1) = i + 1 + j by omega] at this
    rw [this]
    have key : ∀ (xs : List DOp) (i : Nat) (s : St), stD (fun _ => false) i xs s = s := by
      intro xs
      induction xs with
      | nil => intro i s; rfl
      | cons x xs ih => intro i s; simp only [stD]; exact ih _ _
    rw [key]
    simp only [St.app, look_append, hl]
  | z :: xs, i, r + 1, x, y, s, h, hD, hl, hw => by
    simp only [stD]
    have h' : xs[r]? = some x := by simpa using h
    have hD' : D (i + 1 + r) = true := by rwa [show i + (r + 1) = i + 1 + r by omega] at hD
    have hw' : ∀ j z, r < j → xs[j]? = some z → hasKey t z.eff.sl = true → D (i + 1 + j) = false := fun j z hj hz hk => by
      have := hw (j + 1) z (by omega) (by simpa using hz) hk
      rwa [show i + (j + 1) = i + 1 + j by omega] at this
    cases D i with
    | true => exact stD_lastS t xs (i + 1) r x y _ h' hD' hl hw'
    | false => exact stD_lastS t xs (i + 1) r x y _ h' hD' hl hw'
theorem look_less {α : Type} (dead : List Nat) (l : List (Nat × α)) (t : Nat) : look (lessK dead l) t = match memB t dead with | true => none | false => look l t := by
  induction l with
  | nil => cases memB t dead <;> rfl
  | cons e l ih =>
    rcases e with ⟨k, v⟩
    simp only [lessK]
    by_cases hk : k = t
    · subst hk
      cases hm : memB k dead with
      | true => simp only [hm] at ih ⊢; exact ih
      | false => simp [look_cons]
    · cases hm : memB k dead with
      | true => simp only [ih, look_cons, hk, if_false]
      | false => simp only [look_cons, hk, if_false, ih]
theorem lessK_append {α : Type} (dead : List Nat) (l r : List (Nat × α)) : lessK dead (l ++ r) = lessK dead l ++ lessK dead r := by
  induction l with
  | nil => rfl
  | cons e l ih =>
    rcases e with ⟨k, v⟩
    simp only [List.cons_append, lessK]
    cases memB k dead <;> simp [ih]
theorem stD_noRef {D : Nat → Bool} {d : Nat} {z : DOp} : ∀ (xs : List DOp) (i : Nat) (s : St), (s.less z).noRef d = true → (∀ j x, xs[j]? = some x → D (i + j) = true → effRef d z x = false) → ((stD D i xs s).less z).noRef d = true
  | [], i, s, h, _ => h
  | x :: xs, i, s, h, hw => by
    have hrest : ∀ j y, xs[j]? = some y → D (i + 1 + j) = true → effRef d z y = false := fun j y hy hk => by
      refine hw (j + 1) y (by simpa using hy) ?_
      rwa [show i + (j + 1) = i + 1 + j by omega]
    simp only [stD]
    cases hD : D i with
    | false => exact stD_noRef xs (i + 1) s h hrest
    | true =>
      refine stD_noRef xs (i + 1) _ ?_ hrest
      have he := hw 0 x rfl (by simpa using hD)
      unfold effRef at he
      cases h1 : anyB (fun e : Nat × AV => AV.refs d e.2) (x.eff.less z).tm with
      | true => simp [h1] at he
      | false =>
        simp only [h1] at he
        have app : ∀ {α : Type} (f : α → Bool) (l r : List α), anyB f l = false → anyB f r = false → anyB f (l ++ r) = false := fun f l r hl hr => by
          induction l with
          | nil => exact hr
          | cons y l ih =>
            simp only [anyB] at hl
            cases hy : f y with
            | true => simp [hy] at hl
            | false => simp only [hy] at hl; simp only [List.cons_append, anyB, hy]; exact ih hl
        unfold St.noRef at h ⊢
        cases g1 : anyB (fun e : Nat × AV => AV.refs d e.2) (s.less z).tm with
        | true => simp [g1] at h
        | false =>
          simp only [g1] at h
          cases g2 : anyB (slotRef d) (s.less z).sl with
          | true => simp [g2] at h
          | false =>
            have e1 : ((x.eff.app s).less z).tm = (x.eff.less z).tm ++ (s.less z).tm := lessK_append _ _ _
            have e2 : ((x.eff.app s).less z).sl = (x.eff.less z).sl ++ (s.less z).sl := lessK_append _ _ _
            simp only [e1, e2, app _ _ _ h1 g1, app _ _ _ he g2]
section
variable {E : Env} {s : St} {a : Act} {w : World}
def OneW (E : Env) (ops : Array Oper) (o : Oper) (s s' : St) : Prop :=
  ∀ a w, SimE E s a w → ∀ (next : Act → World → Prop) (Q : Exit → Act → World → Prop), (∀ a' w', SimE E s' a' w' → next a' w') →
    if Region.wanted o (yielded ops a.tmps) then o.wp E.P a w next Q else next (a.put o.dst undef) w
theorem One.toW {ops : Array Oper} {o : Oper} {s' : St} (h : One E ops o s s') : OneW E ops o s s' := fun a w hs next Q hn => by
  obtain ⟨h1, h2⟩ := h a w hs
  rw [if_pos h1]
  exact h2 next Q hn
theorem OneW.skip {ops : Array Oper} {o : Oper} {d : Nat} (hw : wantedB ops s o = some false) (hd : o.dst = some d) (hlt : Nat.blt d E.N = true) : OneW E ops o s (s.put d (.tup [])) := fun a w hs next Q hn => by
  obtain ⟨G, φ, h⟩ := hs
  rw [if_neg (by rw [wantedB_spec h hw]; simp), hd]
  exact hn _ _ ⟨G, φ, h.put (Nat.blt_eq.mp hlt) ⟨#[], rfl, trivial⟩⟩
def DOk (E : Env) (ops : Array Oper) (o : Oper) (x : DOp) : Prop :=
  ∀ r : St, (∀ d ∈ x.mks, (r.less x).noRef d = true) → OneW E ops o (x.need.app (r.less x)) (x.eff.app (x.need.app (r.less x)))
theorem okBef_spec {ops : Array Oper} {bef : List (List Nat)} (h : okBef ops bef = true) {j i : Nat} (hj : j < ops.size) (hi : i ∈ nth bef j) :
    ∃ o e, ops[j]? = some o ∧ e ∈ o.after.toList ∧ Region.binds .any e = true ∧ e.on < j ∧ (e.on = i ∨ i ∈ nth bef e.on) := by
  have h1 := allB_iff.1 h j (by simpa using hj)
  have h2 := allB_iff.1 h1 i hi
  cases ho : ops[j]? with
  | none => rw [ho] at h2; cases h2
  | some o =>
    rw [ho] at h2
    obtain ⟨e, he, h3⟩ := anyB_iff.1 h2
    cases hb : Region.binds .any e with
    | false => rw [hb] at h3; cases h3
    | true =>
      rw [hb] at h3
      simp only at h3
      cases hlt : Nat.blt e.on j with
      | false => rw [hlt] at h3; cases h3
      | true =>
        rw [hlt] at h3
        simp only at h3
        refine ⟨o, e, rfl, he, hb, Nat.blt_eq.mp hlt, ?_⟩
        cases hq : Nat.beq e.on i with
        | true => exact .inl (Nat.eq_of_beq_eq_true hq)
        | false => rw [hq] at h3; exact .inr (memB_iff.1 h3)
def Closed (ops : Array Oper) (D : Nat → Bool) : Prop := ∀ j o, ops[j]? = some o → D j = true → ∀ e ∈ o.after.toList, Region.binds .any e = true → D e.on = true
theorem bef_in {ops : Array Oper} {bef : List (List Nat)} (h : okBef ops bef = true) {D : Nat → Bool} (hD : Closed ops D) : ∀ j, j < ops.size → (∀ o, ops[j]? = some o → ∀ e ∈ o.after.toList, Region.binds .any e = true → D e.on = true) →
    ∀ i ∈ nth bef j, D i = true ∧ i < j := by
  intro j
  induction j using Nat.strongRecOn with
  | _ j ih =>
    intro hj hd i hi
    obtain ⟨o, e, ho, he, hb, hlt, hor⟩ := okBef_spec h hj hi
    have hin := hd o ho e he hb
    rcases hor with rfl | hor
    · exact ⟨hin, hlt⟩
    · obtain ⟨h1, h2⟩ := ih e.on hlt (by omega) (fun o' ho' e' he' hb' => hD e.on o' ho' hin e' he' hb') i hor
      exact ⟨h1, by omega⟩
def edgesBack (ops : Array Oper) : Bool :=
  allB (fun j => match ops[j]? with
    | some o => allB (fun e : Edge => match Region.binds .any e with | true => Nat.blt e.on j | false => true) o.after.toList
    | none => true) (List.range ops.size)
theorem edgesBack_spec {ops : Array Oper} (h : edgesBack ops = true) {j : Nat} {o : Oper} (hj : ops[j]? = some o) {e : Edge} (he : e ∈ o.after.toList) (hb : Region.binds .any e = true) : e.on < j := by
  have hlt := (Array.getElem?_eq_some_iff.1 hj).1
  have h1 := allB_iff.1 h j (by simpa using hlt)
  rw [hj] at h1
  have h2 := allB_iff.1 h1 e he
  rw [hb] at h2
  exact Nat.blt_eq.mp h2
theorem bef_lt {ops : Array Oper} {bef : List (List Nat)} (h : okBef ops bef = true) {j i : Nat} (hj : j < ops.size) (hi : i ∈ nth bef j) : i < j :=
  (bef_in h (D := fun _ => true) (fun _ _ _ _ _ _ _ => rfl) j hj (fun _ _ _ _ _ => rfl) i hi).2
theorem stD_ext {D D' : Nat → Bool} : ∀ (xs : List DOp) (i : Nat) (s : St), (∀ j, j < xs.length → D (i + j) = D' (i + j)) → stD D i xs s = stD D' i xs s
  | [], i, s, _ => rfl
  | x :: xs, i, s, h => by
    have h0 := h 0 (by simp)
    rw [Nat.add_zero] at h0
    have hr : ∀ j, j < xs.length → D (i + 1 + j) = D' (i + 1 + j) := fun j hj => by
      have := h (j + 1) (by simp; omega)
      rwa [show i + (j + 1) = i + 1 + j by omega] at this
    simp only [stD, h0]
    cases D' i
    · exact stD_ext xs _ _ hr
    · exact stD_ext xs _ _ hr
theorem needsOk_spec {all : List DOp} {bef : List (List Nat)} {s0 : St} : ∀ (xs : List DOp) (r : Nat), needsOk all bef s0 r xs = needsOf xs → ∀ j x, xs[j]? = some x →
    keep (keysOf x.need.tm) (keysOf x.need.sl) (stD (fun i => memB i (nth bef (r + j))) 0 all s0) = some x.need
  | [], r, h, j, x, hx => by simp at hx
  | y :: xs, r, h, j, x, hx => by
    simp only [needsOk, needsOf, List.cons.injEq] at h
    cases j with
    | zero => simp at hx; subst hx; exact h.1
    | succ j =>
      have := needsOk_spec xs (r + 1) h.2 j x (by simpa using hx)
      rwa [show r + 1 + j = r + (j + 1) by omega] at this
theorem ordOk_spec {specs : List DOp} {bef : List (List Nat)} (h : ordOk specs bef = true) {i r : Nat} {x y : DOp} (hx : specs[i]? = some x) (hy : specs[r]? = some y) (hne : i ≠ r) (hw : writes x y = true) :
    i ∈ nth bef r ∨ r ∈ nth bef i := by
  have h1 := allB_iff.1 h r (by simpa using (List.getElem?_eq_some_iff.1 hy).1)
  have h2 := allB_iff.1 h1 i (by simpa using (List.getElem?_eq_some_iff.1 hx).1)
  have hb : Nat.beq i r = false := by
    cases hb : Nat.beq i r with
    | false => rfl
    | true => exact absurd (Nat.eq_of_beq_eq_true hb) hne
  rw [hb, hx, hy] at h2
  simp only [hw] at h2
  cases hm : memB i (nth bef r) with
  | true => exact .inl (memB_iff.1 hm)
  | false => rw [hm] at h2; exact .inr (memB_iff.1 h2)
theorem freshOk_spec {specs : List DOp} {bef : List (List Nat)} {s0 : St} (h : freshOk specs bef s0 = true) {r : Nat} {x : DOp} (hx : specs[r]? = some x) :
    (∀ t ∈ x.dead, hasKey t x.eff.tm = true) ∧ (∀ k ∈ x.mks ++ x.hid, hasKey k x.eff.sl = true) ∧
    ∀ d ∈ x.mks, (s0.less x).noRef d = true ∧ ∀ i y, i ≠ r → specs[i]? = some y → effRef d x y = true → r ∈ nth bef i := by
  have h1 := allB_iff.1 h r (by simpa using (List.getElem?_eq_some_iff.1 hx).1)
  rw [hx] at h1
  simp only at h1
  split at h1
  · rename_i g1 g2
    refine ⟨allB_iff.1 g1, allB_iff.1 g2, fun d hd => ?_⟩
    have h2 := allB_iff.1 h1 d hd
    cases hn : (s0.less x).noRef d with
    | false => rw [hn] at h2; cases h2
    | true =>
      rw [hn] at h2
      refine ⟨rfl, fun i y hne hy he => ?_⟩
      have h3 := allB_iff.1 h2 i (by simpa using (List.getElem?_eq_some_iff.1 hy).1)
      have hb : Nat.beq i r = false := by
        cases hb : Nat.beq i r with
        | false => rfl
        | true => exact absurd (Nat.eq_of_beq_eq_true hb) hne
      rw [hb, hy] at h3
      simp only [he] at h3
      exact memB_iff.1 h3
  · cases h1
theorem look_hasKey {α : Type} {l : List (Nat × α)} {t : Nat} {x : α} (h : look l t = some x) : hasKey t l = true := hasKey_iff.2 ⟨x, h⟩
theorem writes_of {x y : DOp} {t : Nat} (hx : hasKey t x.eff.tm = true) (hy : hasKey t y.need.tm = true ∨ hasKey t y.eff.tm = true) : writes x y = true := by
  unfold writes
  obtain ⟨v, hv⟩ := hasKey_iff.1 hx
  have : anyB (fun e : Nat × AV => match hasKey e.1 y.need.tm with | true => true | false => hasKey e.1 y.eff.tm) x.eff.tm = true := by
    refine anyB_iff.2 ⟨(t, v), look_mem hv, ?_⟩
    rcases hy with hy | hy
    · simp [hy]
    · cases hasKey t y.need.tm <;> simp [hy]
  rw [this]
theorem writes_ofS {x y : DOp} {t : Nat} (hx : hasKey t x.eff.sl = true) (hy : hasKey t y.need.sl = true ∨ hasKey t y.eff.sl = true) : writes x y = true := by
  unfold writes
  obtain ⟨v, hv⟩ := hasKey_iff.1 hx
  have : anyB (fun e : Nat × Slot => match hasKey e.1 y.need.sl with | true => true | false => hasKey e.1 y.eff.sl) x.eff.sl = true := by
    refine anyB_iff.2 ⟨(t, v), look_mem hv, ?_⟩
    rcases hy with hy | hy
    · simp [hy]
    · cases hasKey t y.need.sl <;> simp [hy]
  rw [this]
  split <;> rfl
structure DrawOk (E : Env) (ops : Array Oper) (specs : List DOp) (bef : List (List Nat)) (s0 : St) : Prop where
  len : Nat.beq specs.length ops.size = true
  back : edgesBack ops = true
  befs : okBef ops bef = true
  ord : ordOk specs bef = true
  fresh : freshOk specs bef s0 = true
  needs : needsOk specs bef s0 0 specs = needsOf specs
  each : ∀ (i : Nat) (o : Oper) (x : DOp), ops[i]? = some o → specs[i]? = some x → DOk E ops o x
theorem DrawOk.next {ops : Array Oper} {specs : List DOp} {bef : List (List Nat)} {s0 : St} (h : DrawOk E ops specs bef s0) {D D' : Nat → Bool} (hD : Closed ops D) {i : Nat} {o : Oper} {x : DOp} (ho : ops[i]? = some o)
    (hx : specs[i]? = some x) (hi : D i = false) (hedge : ∀ e ∈ o.after.toList, Region.binds .any e = true → D e.on = true) (hD' : ∀ j, D' j = if j = i then true else D j) (hs : SimE E (stD D 0 specs s0) a w)
    {K : Act → World → Prop} {Q : Exit → Act → World → Prop} (hK : ∀ a' w', SimE E (stD D' 0 specs s0) a' w' → K a' w') : wpOp E.P ops Q i K a w := by
  have hlen := Nat.eq_of_beq_eq_true h.len
  have hilt : i < ops.size := (Array.getElem?_eq_some_iff.1 ho).1
  have hjlt : ∀ {j : Nat} {y : DOp}, specs[j]? = some y → j < ops.size := fun hy => by rw [← hlen]; exact (List.getElem?_eq_some_iff.1 hy).1
  have hbef : ∀ j ∈ nth bef i, D j = true ∧ j < i := bef_in h.befs hD i hilt fun o' ho' e he hb => by rw [ho] at ho'; cases ho'; exact hedge e he hb
  have hafter : ∀ j y, specs[j]? = some y → i ∈ nth bef j → D j = false := fun j y hy hij => by
    cases hj : D j with
    | false => rfl
    | true =>
      have := (bef_in h.befs hD j (hjlt hy) (fun o' ho' e he hb => hD j o' ho' hj e he hb) i hij).1
      rw [hi] at this; cases this
  have hown : memB i (nth bef i) = false := by
    cases hm : memB i (nth bef i) with
    | false => rfl
    | true => exact absurd (bef_lt h.befs hilt (memB_iff.1 hm)) (Nat.lt_irrefl _)
  have hsame : ∀ j y, specs[j]? = some y → writes y x = true → D j = memB j (nth bef i) := fun j y hy hw => by
    by_cases e : j = i
    · subst e; rw [hi, hown]
    · rcases ordOk_spec h.ord hy hx e hw with hm | hm
      · rw [(hbef j hm).1, memB_iff.2 hm]
      · rw [hafter j y hy hm]
        cases hm' : memB j (nth bef i) with
        | false => rfl
        | true =>
          have h1 := bef_lt h.befs hilt (memB_iff.1 hm')
          have h2 := bef_lt h.befs (hjlt hy) hm
          omega
  have hkeep := needsOk_spec specs 0 h.needs i x hx
  rw [Nat.zero_add] at hkeep
  unfold keep at hkeep
  split at hkeep
  case h_2 => cases hkeep
  rename_i tm htm
  split at hkeep
  case h_2 => cases hkeep
  rename_i sl hsl
  have etm : x.need.tm = tm := by rw [← Option.some.inj hkeep]
  have esl : x.need.sl = sl := by rw [← Option.some.inj hkeep]
  have needT : ∀ t y, look x.need.tm t = some y → look (stD D 0 specs s0).tm t = some y := fun t y hy => by
    have h1 := pickK_look htm t y (etm ▸ hy)
    rw [← h1]
    refine stD_congr t specs 0 s0 s0 rfl fun j z hz hk => ?_
    rw [Nat.zero_add]
    exact hsame j z hz (writes_of hk (.inl (look_hasKey hy)))
  have needS : ∀ t y, look x.need.sl t = some y → look (stD D 0 specs s0).sl t = some y := fun t y hy => by
    have h1 := pickK_look hsl t y (esl ▸ hy)
    rw [← h1]
    refine stD_congrS t specs 0 s0 s0 rfl fun j z hz hk => ?_
    rw [Nat.zero_add]
    exact hsame j z hz (writes_ofS hk (.inl (look_hasKey hy)))
  obtain ⟨fd, fm, ff⟩ := freshOk_spec h.fresh hx
  have lessT : ∀ t y, look ((stD D 0 specs s0).less x).tm t = some y → look (stD D 0 specs s0).tm t = some y := fun t y hy => by
    have hy : look (lessK x.dead _) t = some y := hy
    rw [look_less] at hy
    cases hm : memB t x.dead with
    | true => rw [hm] at hy; cases hy
    | false => rw [hm] at hy; exact hy
  have lessS : ∀ t y, look ((stD D 0 specs s0).less x).sl t = some y → look (stD D 0 specs s0).sl t = some y := fun t y hy => by
    have hy : look (lessK (x.mks ++ x.hid) _) t = some y := hy
    rw [look_less] at hy
    cases hm : memB t (x.mks ++ x.hid) with
    | true => rw [hm] at hy; cases hy
    | false => rw [hm] at hy; exact hy
  have hs1 : SimE E (x.need.app ((stD D 0 specs s0).less x)) a w := hs.weaken (fun t y hy => by
      simp only [St.app, look_append] at hy
      cases hn : look x.need.tm t with
      | none => rw [hn] at hy; exact lessT t y hy
      | some z => rw [hn] at hy; cases hy; exact needT t _ hn) fun t y hy => by
      simp only [St.app, look_append] at hy
      cases hn : look x.need.sl t with
      | none => rw [hn] at hy; exact lessS t y hy
      | some z => rw [hn] at hy; cases hy; exact needS t _ hn
  have hfr : ∀ d ∈ x.mks, ((stD D 0 specs s0).less x).noRef d = true := fun d hd => by
    obtain ⟨f1, f2⟩ := ff d hd
    refine stD_noRef specs 0 s0 f1 fun j y hy hDj => ?_
    rw [Nat.zero_add] at hDj
    cases he : effRef d x y with
    | false => rfl
    | true =>
      have hne : j ≠ i := fun e => by rw [e, hi] at hDj; cases hDj
      have := hafter j y hy (f2 j y hne hy he)
      rw [this] at hDj; cases hDj
  have hone := h.each i o x ho hx (stD D 0 specs s0) hfr a w hs1
  have hD0 : D' i = true := by rw [hD']; simp
  have hlast : ∀ j y, i < j → specs[j]? = some y → writes y x = true → D' j = false := fun j y hlt hy hw => by
    rw [hD', if_neg (by omega)]
    rcases ordOk_spec h.ord hy hx (by omega) hw with hm | hm
    · have := bef_lt h.befs hilt hm; omega
    · exact hafter j y hy hm
  have hs2 : ∀ a' w', SimE E (x.eff.app (x.need.app ((stD D 0 specs s0).less x))) a' w' → SimE E (stD D' 0 specs s0) a' w' := fun a' w' hs' => by
    refine hs'.weaken (fun t y hy => ?_) fun t y hy => ?_
    · simp only [St.app, look_append]
      cases he : look x.eff.tm t with
      | some z =>
        have := stD_last (D := D') t specs 0 i x z s0 hx (by rw [Nat.zero_add]; exact hD0) he fun j z' hlt hz hk => by
          rw [Nat.zero_add]; exact hlast j z' hlt hz (writes_of hk (.inr (look_hasKey he)))
        rw [this] at hy; cases hy; rfl
      | none =>
        have e : look (stD D' 0 specs s0).tm t = look (stD D 0 specs s0).tm t := stD_congr t specs 0 s0 s0 rfl fun j z hz hk => by
          rw [Nat.zero_add, hD', if_neg]
          intro e
          subst e
          rw [hx] at hz; cases hz
          obtain ⟨v, hv⟩ := hasKey_iff.1 hk
          rw [he] at hv; cases hv
        rw [e] at hy
        cases hn : look x.need.tm t with
        | none =>
          show look (lessK x.dead _) t = some y
          rw [look_less]
          cases hm : memB t x.dead with
          | true => have := fd t (memB_iff.1 hm); obtain ⟨v, hv⟩ := hasKey_iff.1 this; rw [he] at hv; cases hv
          | false => exact hy
        | some z => rw [needT t z hn] at hy; exact hy
    · simp only [St.app, look_append]
      cases he : look x.eff.sl t with
      | some z =>
        have := stD_lastS (D := D') t specs 0 i x z s0 hx (by rw [Nat.zero_add]; exact hD0) he fun j z' hlt hz hk => by
          rw [Nat.zero_add]; exact hlast j z' hlt hz (writes_ofS hk (.inr (look_hasKey he)))
        rw [this] at hy; cases hy; rfl
      | none =>
        have e : look (stD D' 0 specs s0).sl t = look (stD D 0 specs s0).sl t := stD_congrS t specs 0 s0 s0 rfl fun j z hz hk => by
          rw [Nat.zero_add, hD', if_neg]
          intro e
          subst e
          rw [hx] at hz; cases hz
          obtain ⟨v, hv⟩ := hasKey_iff.1 hk
          rw [he] at hv; cases hv
        rw [e] at hy
        cases hn : look x.need.sl t with
        | none =>
          show look (lessK (x.mks ++ x.hid) _) t = some y
          rw [look_less]
          cases hm : memB t (x.mks ++ x.hid) with
          | true => have := fm t (memB_iff.1 hm); obtain ⟨v, hv⟩ := hasKey_iff.1 this; rw [he] at hv; cases hv
          | false => exact hy
        | some z => rw [needS t z hn] at hy; exact hy
  have hfin := hone K Q fun a' w' hs' => hK a' w' (hs2 a' w' hs')
  unfold wpOp
  rw [ho]
  simp only
  split
  · rename_i hw; rw [if_pos hw] at hfin; exact .inl hfin
  · rename_i hw; rw [if_neg hw] at hfin; exact hfin
end
def cnt (l : Array Bool) : Nat := (l.toList.filter fun b => !b).length
theorem cnt_set {l : Array Bool} {i : Nat} (hi : l[i]? = some false) : cnt (l.setIfInBounds i true) + 1 = cnt l := by
  unfold cnt
  obtain ⟨hlt, he⟩ := Array.getElem?_eq_some_iff.1 hi
  have key : ∀ (l : List Bool) (i : Nat), l[i]? = some false → ((l.set i true).filter fun b => !b).length + 1 = (l.filter fun b => !b).length := by
    intro l
    induction l with
    | nil => intro i h; simp at h
    | cons b l ih =>
      intro i h
      cases i with
      | zero => simp at h; subst h; simp
      | succ i =>
        have := ih i (by simpa using h)
        cases b <;> simp [List.set, List.filter] at this ⊢ <;> omega
  rw [Array.toList_setIfInBounds]
  exact key l.toList i (by simpa using hi)
theorem cnt_zero {l : Array Bool} (h : cnt l = 0) (i : Nat) (hi : i < l.size) : l[i]? = some true := by
  unfold cnt at h
  have h1 : l.toList.filter (fun b => !b) = [] := List.length_eq_zero_iff.1 h
  have h2 := List.filter_eq_nil_iff.1 h1 l[i] (by simp)
  rw [Array.getElem?_eq_getElem hi]
  simpa using h2
theorem cnt_pos {l : Array Bool} (h : 0 < cnt l) : ∃ i : Nat, l[i]? = some false ∧ ∀ j : Nat, j < i → l[j]? = some true := by
  unfold cnt at h
  have key : ∀ (l : List Bool), 0 < (l.filter fun b => !b).length → ∃ i : Nat, l[i]? = some false ∧ ∀ j : Nat, j < i → l[j]? = some true := by
    intro l
    induction l with
    | nil => intro h; simp at h
    | cons b l ih =>
      intro h
      cases b with
      | false => exact ⟨0, rfl, fun j hj => by omega⟩
      | true =>
        obtain ⟨i, h1, h2⟩ := ih (by simpa [List.filter] using h)
        refine ⟨i + 1, by simpa using h1, fun j hj => ?_⟩
        cases j with
        | zero => rfl
        | succ j => simpa using h2 j (by omega)
  obtain ⟨i, h1, h2⟩ := key l.toList h
  exact ⟨i, by simpa using h1, fun j hj => by simpa using h2 j hj⟩
def inD (l : Array Bool) (i : Nat) : Bool := l.getD i false
section
variable {E : Env} {s : St} {a : Act} {w : World}
theorem DrawOk.any {ops : Array Oper} {specs : List DOp} {bef : List (List Nat)} {s0 : St} (h : DrawOk E ops specs bef s0) {Q : Exit → Act → World → Prop}
    (hQ : ∀ a' w', SimE E (stD (fun _ => true) 0 specs s0) a' w' → Q .normal a' w') : ∀ (fuel : Nat) (listed : Array Bool) (a : Act) (w : World), cnt listed = fuel → listed.size = ops.size → Closed ops (inD listed) →
    SimE E (stD (inD listed) 0 specs s0) a w → wpAny E.P .any ops Q fuel listed a w := by
  have hlen := Nat.eq_of_beq_eq_true h.len
  intro fuel
  induction fuel with
  | zero =>
    intro listed a w hc hz hD hs
    refine ⟨List.filter_eq_nil_iff.2 fun i hi => ?_, hQ a w ?_⟩
    · have := cnt_zero hc i (by rw [hz]; simpa using hi)
      simp [Array.getD_eq_getD_getElem?, this]
    · rw [stD_ext (D' := inD listed)]
      · exact hs
      · intro j hj
        have := cnt_zero hc j (by omega)
        simp [inD, Array.getD_eq_getD_getElem?, this]
  | succ fuel ih =>
    intro listed a w hc hz hD hs
    refine ⟨fun h0 => ?_, fun i hi => ?_⟩
    · obtain ⟨i, h1, h2⟩ := cnt_pos (l := listed) (by omega)
      have hilt : i < ops.size := by rw [← hz]; exact (Array.getElem?_eq_some_iff.1 h1).1
      have hmem : i ∈ Region.ready .any ops listed := by
        unfold Region.ready
        refine List.mem_filter.2 ⟨by simpa using hilt, ?_⟩
        have ho : ops[i]? = some ops[i] := Array.getElem?_eq_getElem hilt
        simp only [Array.getD_eq_getD_getElem?, h1, ho, Option.getD_some, Bool.not_false, Bool.true_and, Option.map_some, Array.all_eq_true']
        intro e he
        cases hb : Region.binds .any e with
        | false => rfl
        | true =>
          have := h2 e.on (edgesBack_spec h.back ho (by simpa using he) hb)
          simp [this]
      rw [h0] at hmem; cases hmem
    · unfold Region.ready at hi
      obtain ⟨hi1, hi2⟩ := List.mem_filter.1 hi
      have hilt : i < ops.size := by simpa using hi1
      have ho : ops[i]? = some ops[i] := Array.getElem?_eq_getElem hilt
      simp only [ho, Option.map_some, Option.getD_some, Bool.and_eq_true, Array.all_eq_true'] at hi2
      obtain ⟨hn, hall⟩ := hi2
      have hli : listed[i]? = some false := by
        rw [Array.getElem?_eq_getElem (by omega)]
        simp [Array.getD_eq_getD_getElem?, Array.getElem?_eq_getElem (show i < listed.size by omega)] at hn
        rw [hn]
      have hedge : ∀ e ∈ ops[i].after.toList, Region.binds .any e = true → inD listed e.on = true := fun e he hb => by
        have := hall e (by simpa using he)
        rw [hb] at this
        simpa [inD] using this
      have hset : ∀ j, inD (listed.setIfInBounds i true) j = if j = i then true else inD listed j := fun j => by
        unfold inD
        simp only [Array.getD_eq_getD_getElem?, Array.getElem?_setIfInBounds]
        by_cases e : i = j
        · subst e; simp [show i < listed.size by omega]
        · rw [if_neg e, if_neg (fun x => e x.symm)]
      obtain ⟨x, hx⟩ : ∃ x, specs[i]? = some x := ⟨specs[i]'(by omega), List.getElem?_eq_getElem _⟩
      refine h.next hD ho hx (by simp [inD, Array.getD_eq_getD_getElem?, hli]) hedge hset hs fun a' w' hs' => ?_
      refine ih _ a' w' (by have := cnt_set hli; omega) (by simpa using hz) (fun j o hj hDj e he hb => ?_) hs'
      rw [hset] at hDj ⊢
      by_cases e1 : e.on = i
      · rw [if_pos e1]
      · rw [if_neg e1]
        by_cases e2 : j = i
        · subst e2
          rw [ho] at hj; cases hj
          exact hedge e he hb
        · rw [if_neg e2] at hDj
          exact hD j o hj hDj e he hb
theorem Tri.draw {post : Exit → St → Prop} {id : Nat} {l : List Oper} {specs : List DOp} {bef : List (List Nat)} {s' : St} {tk sk : List Nat} (hm : E.P.follows .mixedOrders = true)
    (h : DrawOk E l.toArray specs bef s) (hk : keep tk sk (stD (fun _ => true) 0 specs s) = some s') (hp : post .normal s') : Tri E (.region id l.toArray true) s post := fun a w hs => by
  refine wp_region_any hm (h.any (fun a' w' hs' => ⟨s', hp, keep_sim hk hs'⟩) _ _ a _ ?_ (by simp) ?_ ?_)
  · simp only [cnt, Array.toList_replicate]
    rw [List.filter_eq_self.2 (by intro b hb; rw [(List.mem_replicate.1 hb).2]; rfl)]
    simp
  · intro j o _ hD
    simp only [inD, Array.getD_eq_getD_getElem?, Array.getElem?_replicate] at hD
    split at hD <;> cases hD
  · rw [stD_ext (D' := fun _ => false)]
    · have key : ∀ (xs : List DOp) (i : Nat) (s : St), stD (fun _ => false) i xs s = s := by
        intro xs
        induction xs with
        | nil => intro i s; rfl
        | cons x xs ih => intro i s; simp only [stD]; exact ih _ _
      rw [key]
      obtain ⟨G, φ, hs⟩ := hs
      exact ⟨G, φ, hs.world rfl rfl rfl rfl⟩
    · intro j _
      simp only [inD, Array.getD_eq_getD_getElem?, Array.getElem?_replicate]
      split <;> rfl
def EachOk (E : Env) (ops : Array Oper) : List Oper → List DOp → Prop
  | [], [] => True
  | o :: os, x :: xs => DOk E ops o x ∧ EachOk E ops os xs
  | _, _ => False
theorem EachOk.get {ops : Array Oper} : ∀ {os : List Oper} {xs : List DOp}, EachOk E ops os xs → ∀ (i : Nat) (o : Oper) (x : DOp), os[i]? = some o → xs[i]? = some x → DOk E ops o x
  | [], [], _, i, o, x, h, _ => by simp at h
  | o :: os, y :: xs, h, i, o', x, ho, hx => by
    cases i with
    | zero => simp at ho hx; subst ho hx; exact h.1
    | succ i => exact EachOk.get h.2 i o' x (by simpa using ho) (by simpa using hx)
  | [], _ :: _, h, _, _, _, _, _ => h.elim
  | _ :: _, [], h, _, _, _, _, _ => h.elim
def drawB (l : List Oper) (specs : List DOp) (bef : List (List Nat)) (s : St) : Bool :=
  match Nat.beq specs.length l.length with
  | false => false
  | true => match edgesBack l.toArray with
    | false => false
    | true => match okBef l.toArray bef with
      | false => false
      | true => match ordOk specs bef with
        | false => false
        | true => freshOk specs bef s
theorem Tri.drawn {post : Exit → St → Prop} {id : Nat} {l : List Oper} {specs : List DOp} {bef : List (List Nat)} {s' : St} {tk sk : List Nat} (hm : E.P.follows .mixedOrders = true)
    (h : drawB l specs bef s = true)
    (hn : needsOk specs bef s 0 specs = needsOf specs) (he : EachOk E l.toArray l specs) (hk : keep tk sk (stD (fun _ => true) 0 specs s) = some s') (hp : post .normal s') : Tri E (.region id l.toArray true) s post := by
  refine Tri.draw (bef := bef) hm ?_ hk hp
  unfold drawB at h
  split at h
  case h_1 => cases h
  rename_i h1
  split at h
  case h_1 => cases h
  rename_i h2
  split at h
  case h_1 => cases h
  rename_i h3
  split at h
  case h_1 => cases h
  rename_i h4
  exact ⟨by simpa using h1, h2, h3, h4, h, hn, fun i o x ho hx => he.get i o x (by simpa using ho) hx⟩
theorem St.noRef_app {n r : St} {d : Nat} (hn : n.noRef d = true) (hr : r.noRef d = true) : (n.app r).noRef d = true := by
  have app : ∀ {α : Type} (f : α → Bool) (l r : List α), anyB f l = false → anyB f r = false → anyB f (l ++ r) = false := fun f l r hl hr => by
    induction l with
    | nil => exact hr
    | cons y l ih =>
      simp only [anyB] at hl
      cases hy : f y with
      | true => simp [hy] at hl
      | false => simp only [hy] at hl; simp only [List.cons_append, anyB, hy]; exact ih hl
  unfold St.noRef at hn hr ⊢
  cases h1 : anyB (fun e : Nat × AV => AV.refs d e.2) n.tm with
  | true => simp [h1] at hn
  | false =>
    cases g1 : anyB (fun e : Nat × AV => AV.refs d e.2) r.tm with
    | true => simp [g1] at hr
    | false =>
      simp only [h1] at hn
      simp only [g1] at hr
      cases h2 : anyB (slotRef d) n.sl with
      | true => simp [h2] at hn
      | false =>
        cases g2 : anyB (slotRef d) r.sl with
        | true => simp [g2] at hr
        | false => simp only [St.app, app _ _ _ h1 g1, app _ _ _ h2 g2]
def mksOk (mks : List Nat) (st : Step) (dst : Option Nat) : Bool :=
  match st with
  | .new _ _ => match dst with | some d => memB d mks | none => true
  | _ => true
theorem okDst_app {N : Nat} {n r : St} {dst : Option Nat} {st : Step} {mks : List Nat} (hr : ∀ d ∈ mks, r.noRef d = true) (hm : mksOk mks st dst = true)
    (hn : okDst N n dst st = true) : okDst N (n.app r) dst st = true := by
  cases dst with
  | none => rfl
  | some d =>
    simp only [okDst] at hn ⊢
    cases hb : Nat.blt d N with
    | false => rw [hb] at hn; cases hn
    | true =>
      rw [hb] at hn
      simp only at hn ⊢
      cases st with
      | new c x => exact St.noRef_app hn (hr d (memB_iff.1 hm))
      | _ => exact hn
theorem DOk.one {ops : Array Oper} {o : Oper} {x : DOp} (h : ∀ r : St, (∀ d ∈ x.mks, r.noRef d = true) → One E ops o (x.need.app r) (x.eff.app (x.need.app r))) : DOk E ops o x := fun r hr => One.toW (h _ hr)
theorem DOk.step {ops : Array Oper} {o : Oper} {x : DOp} (st : Step) (hw : ∀ r, wantedB ops (x.need.app r) o = some true) (he : ∀ r, evStep E.P (x.need.app r) o.dst o.op = some st) (hc : st.cond)
    (hok : okDst E.N x.need o.dst st = true) (hm : mksOk x.mks st o.dst = true)
    (heff : ∀ r, stepSt (x.need.app r) o.dst st = x.eff.app (x.need.app r)) : DOk E ops o x := DOk.one fun r hr => by
  rw [← heff r]
  exact One.step (hw r) (he r) hc (okDst_app hr hm hok)
theorem DOk.skip {ops : Array Oper} {o : Oper} {x : DOp} {d : Nat} (hw : ∀ r, wantedB ops (x.need.app r) o = some false) (hd : o.dst = some d) (hlt : Nat.blt d E.N = true)
    (heff : ∀ r, (x.need.app r).put d (.tup []) = x.eff.app (x.need.app r)) : DOk E ops o x := fun r hr => by
  rw [← heff]
  exact OneW.skip (hw _) hd hlt
theorem DOk.call {ops : Array Oper} {o : Oper} {x : DOp} {cl : Call} {f : FuncId} {caps : List D} {args : List AV} {res : AV} (hS : Summ E.P f args [] res [])
    (hop : o.op = .call cl) (hw : ∀ r, wantedB ops (x.need.app r) o = some true) (hd : dstOk E.N o.dst = true) (hc : ∀ r, calleeOf (x.need.app r) cl = some (f, caps)) (hx : ∀ r, argsOf (x.need.app r) cl caps = some args)
    (hfl : allFlat args = true) (hsol : res.solid = true) (heff : ∀ r, putO (x.need.app r) o.dst res = x.eff.app (x.need.app r)) : DOk E ops o x := DOk.one fun r _ => by
  rw [← heff r]
  exact One.call hop (hw r) hd (hc r) (hx r) (AVsArg.refl _ _) hfl hsol hS
theorem One.weaken {ops : Array Oper} {o : Oper} {s' s'' : St} (h : One E ops o s s') (hw : ∀ a w, SimE E s' a w → SimE E s'' a w) : One E ops o s s'' := fun a w hs => by
  obtain ⟨h1, h2⟩ := h a w hs
  exact ⟨h1, fun next Q hn => h2 next Q fun a' w' hs' => hn a' w' (hw a' w' hs')⟩
theorem cover {α : Type} {l l' r : List (Nat × α)} (h1 : (keysOf l).map (look l) = (keysOf l).map (look l')) (h2 : allB (fun k => hasKey k l) (keysOf l') = true) (t : Nat) : look (l ++ r) t = look (l' ++ r) t := by
  rw [look_append, look_append]
  cases hl : look l t with
  | some x =>
    have hm : t ∈ keysOf l := List.mem_map.2 ⟨(t, x), look_mem hl, rfl⟩
    have : look l t = look l' t := by
      have key : ∀ ks : List Nat, ks.map (look l) = ks.map (look l') → ∀ k ∈ ks, look l k = look l' k := by
        intro ks
        induction ks with
        | nil => intro _ k hk; cases hk
        | cons a ks ih =>
          intro h k hk
          simp only [List.map_cons, List.cons.injEq] at h
          rcases List.mem_cons.1 hk with rfl | hk
          · exact h.1
          · exact ih h.2 k hk
      exact key _ h1 t hm
    rw [← this, hl]
  | none =>
    cases hl' : look l' t with
    | none => rfl
    | some x =>
      have hm : t ∈ keysOf l' := List.mem_map.2 ⟨(t, x), look_mem hl', rfl⟩
      obtain ⟨v, hv⟩ := hasKey_iff.1 (allB_iff.1 h2 t hm)
      rw [hl] at hv; cases hv
end
end Go.Av
/-
  Av, part S: what an argument reads as.
-/
namespace Go.Av
open Go
set_option linter.unusedVariables false
set_option linter.unusedSimpArgs false
def RelDs (G : Nat → Prop) (w : World) : List D → List Value → Prop
  | [], [] => True
  | x :: xs, v :: vs => RelD G w x v ∧ RelDs G w xs vs
  | _, _ => False
theorem RelDs.length {G : Nat → Prop} {w : World} : ∀ {xs : List D} {vs : List Value}, RelDs G w xs vs → xs.length = vs.length
  | [], [], _ => rfl
  | _ :: _, _ :: _, h => by simp [RelDs.length h.2]
  | [], _ :: _, h => h.elim
  | _ :: _, [], h => h.elim
theorem RelDs.append {G : Nat → Prop} {w : World} : ∀ {xs : List D} {vs : List Value} {ys : List D} {us : List Value}, RelDs G w xs vs → RelDs G w ys us → RelDs G w (xs ++ ys) (vs ++ us)
  | [], [], _, _, _, h => h
  | _ :: _, _ :: _, _, _, h, h' => ⟨h.1, RelDs.append h.2 h'⟩
  | [], _ :: _, _, _, h, _ => h.elim
  | _ :: _, [], _, _, h, _ => h.elim
theorem RelDs.get {G : Nat → Prop} {w : World} : ∀ {xs : List D} {vs : List Value}, RelDs G w xs vs → ∀ j, j < xs.length → ∃ v, vs[j]? = some v ∧ RelD G w (D.at xs j) v
  | [], [], _, j, h => by simp at h
  | x :: xs, v :: vs, h, j, hj => by
    cases j with
    | zero => exact ⟨v, rfl, h.1⟩
    | succ j =>
      obtain ⟨u, h1, h2⟩ := RelDs.get h.2 j (by simpa using hj)
      exact ⟨u, by simpa using h1, by simpa [D.at] using h2⟩
  | [], _ :: _, h, _, _ => h.elim
  | _ :: _, [], h, _, _ => h.elim
theorem RelDs.cells {G V : Nat → Prop} {φ : Nat → Option Loc} {w : World} : ∀ {xs : List D} {vs : List Value}, RelDs G w xs vs → RelCs (RelC G V φ w) (xs.map .d) vs ∧ ∀ u ∈ vs, u.oneCell' = true
  | [], [], _ => ⟨trivial, fun _ h => by cases h⟩
  | x :: xs, v :: vs, h => ⟨⟨h.1, (RelDs.cells h.2).1⟩, fun u hu => by
    rcases List.mem_cons.1 hu with rfl | hu
    · exact h.1.one
    · exact (RelDs.cells (V := V) (φ := φ) h.2).2 u hu⟩
  | [], _ :: _, h => h.elim
  | _ :: _, [], h => h.elim
structure BulkOk {H : Type} (B : DataW H → Nat) : Prop where
  one : ∀ d, 1 ≤ B d
  str : ∀ s, B (.lit (.string s)) = s.length + 1
  slice : ∀ es rest, (es.map B).sum + 1 ≤ B (.slice es rest)
  agg : ∀ ps, (ps.map B).sum + 1 ≤ B (.agg ps)
structure Fine {H : Type} (P : Program) (Z : TypeId → DataW H → Prop) : Prop where
  str : ∀ t s, Z t (.lit (.string s)) → s.length ≤ maxN
  slice : ∀ t e es rest, P.underlying t = some (.slice e) → 0 < P.bytesOf e → Z t (.slice es rest) → es.length ≤ maxN ∧ ∀ x ∈ es, Z e x
  struct : ∀ t fs ps, P.underlying t = some (.struct fs) → Z t (.agg ps) → ∀ (i : Nat) f d, fs.toList[i]? = some f → ps[i]? = some d → Z f.type d
  array : ∀ t n e ps, P.underlying t = some (.array n e) → Z t (.agg ps) → ∀ d ∈ ps, Z e d
theorem sum_mem {X : Type} {f : X → Nat} : ∀ {l : List X} {x : X}, x ∈ l → f x ≤ (l.map f).sum
  | y :: l, x, h => by
    simp only [List.map_cons, List.sum_cons]
    rcases List.mem_cons.1 h with rfl | h
    · omega
    · have := sum_mem (f := f) h; omega
theorem length_le_sum {X : Type} {f : X → Nat} (h1 : ∀ x, 1 ≤ f x) : ∀ l : List X, l.length ≤ (l.map f).sum
  | [] => by simp
  | x :: l => by have := length_le_sum h1 l; have := h1 x; simp only [List.map_cons, List.sum_cons, List.length_cons]; omega
theorem Fine.bulk {H : Type} {P : Program} {B : DataW H → Nat} (hB : BulkOk B) : Fine P (fun _ d => B d ≤ maxN) where
  str := fun t s h => by rw [hB.str] at h; omega
  slice := fun t e es rest _ _ h => by
    have h1 := hB.slice es rest
    have h2 := length_le_sum hB.one es
    exact ⟨by omega, fun x hx => by have := sum_mem (f := B) hx; omega⟩
  struct := fun t fs ps _ h i f d _ hd => by
    have h1 := hB.agg ps
    have := sum_mem (f := B) (List.mem_of_getElem? hd)
    omega
  array := fun t n e ps _ h d hd => by
    have h1 := hB.agg ps
    have := sum_mem (f := B) hd
    omega
def allG (W : World) : Nat → Prop := fun b => b < W.heap.size
section
variable {H : Type} {enc : TypeId × Value → H} {P : Program} {W : World} {Z : TypeId → DataW H → Prop} {B : DataW H → Nat}
def ReadsAt {X : Type} (enc : TypeId × Value → H) (P : Program) (W : World) (Z : TypeId → DataW H → Prop) (B : DataW H → Nat) (n : Nat) (t : TypeId) (e : X → List D) (ok : X → Prop) (bulk : X → Nat) : Prop :=
  ∀ cs d ps, DataW.trod enc P W 0 (fun _ => true) true n t cs = some (d, ps) → Z t d → ∃ x, ok x ∧ bulk x ≤ B d ∧ RelDs (allG W) W (e x) cs
def Reads {X : Type} (enc : TypeId × Value → H) (P : Program) (W : World) (Z : TypeId → DataW H → Prop) (B : DataW H → Nat) (t : TypeId) (e : X → List D) (ok : X → Prop) (bulk : X → Nat) : Prop :=
  ∀ n, ReadsAt enc P W Z B n t e ok bulk
def okInt (k : IntKind) (n : Int) : Prop := (Lit.int k n).wf = true
theorem ReadsAt.zero {X : Type} {t : TypeId} {e : X → List D} {ok : X → Prop} {bulk : X → Nat} : ReadsAt enc P W Z B 0 t e ok bulk := fun cs d ps h hN => by
  simp [DataW.trod] at h
theorem ReadsAt.bool {n : Nat} {t : TypeId} (hB : BulkOk B) (ht : P.underlying t = some .bool) : ReadsAt enc P W Z B n t (fun b : Bool => [.bool b]) (fun _ => True) (fun _ => 1) := fun cs d ps h hN => by
  cases n with
  | zero => simp [DataW.trod] at h
  | succ n =>
    unfold DataW.trod at h
    rw [ht] at h
    split at h <;> simp_all
    obtain ⟨rfl, rfl⟩ := h
    rename_i b
    cases b
    · exact ⟨hB.one _, .inl ⟨.bool _, trivial⟩⟩
    · exact ⟨hB.one _, .inr ⟨.bool _, trivial⟩⟩
theorem ReadsAt.int {n : Nat} {t : TypeId} {k : IntKind} (hB : BulkOk B) (ht : P.underlying t = some (.int k)) : ReadsAt enc P W Z B n t (fun i : Int => [.int k i]) (okInt k) (fun _ => 1) := fun cs d ps h hN => by
  cases n with
  | zero => simp [DataW.trod] at h
  | succ n =>
    unfold DataW.trod at h
    rw [ht] at h
    split at h <;> simp_all
    obtain ⟨⟨rfl, h2⟩, rfl, rfl⟩ := h
    exact ⟨_, h2, hB.one _, .int _ _, trivial⟩
theorem ReadsAt.string {n : Nat} {t : TypeId} (hZ : Fine P Z) (hB : BulkOk B) (ht : P.underlying t = some .string) : ReadsAt enc P W Z B n t (fun s : ByteArray => [.str s]) (fun s => s.size ≤ maxN) (fun s => s.size + 1) := fun cs d ps h hN => by
  cases n with
  | zero => simp [DataW.trod] at h
  | succ n =>
    unfold DataW.trod at h
    rw [ht] at h
    split at h <;> simp_all
    obtain ⟨h2, rfl, rfl⟩ := h
    refine ⟨_, hZ.str _ _ hN, ?_, .str _, trivial⟩
    rw [hB.str]
    exact Nat.le_refl _
theorem ReadsAt.map {X Y : Type} {n : Nat} {t : TypeId} {e : X → List D} {ok : X → Prop} {bulk : X → Nat} {e' : Y → List D} {ok' : Y → Prop} {bulk' : Y → Nat} (f : X → Y)
    (h : ReadsAt enc P W Z B n t e ok bulk) (he : ∀ x, ok x → e' (f x) = e x) (hok : ∀ x, ok x → ok' (f x)) (hb : ∀ x, ok x → bulk' (f x) ≤ bulk x) : ReadsAt enc P W Z B n t e' ok' bulk' := fun cs d ps hd hN => by
  obtain ⟨x, h1, h2, h3⟩ := h cs d ps hd hN
  exact ⟨f x, hok x h1, Nat.le_trans (hb x h1) h2, by rw [he x h1]; exact h3⟩
theorem choose_list {X : Type} [Inhabited X] {p : Nat → X → Prop} : ∀ n, (∀ i, i < n → ∃ x, p i x) → ∃ xs : List X, xs.length = n ∧ ∀ i, i < n → p i (xs.getD i default)
  | 0, _ => ⟨[], rfl, fun i hi => by omega⟩
  | n + 1, h => by
    obtain ⟨xs, h1, h2⟩ := choose_list n fun i hi => h i (by omega)
    obtain ⟨x, hx⟩ := h n (by omega)
    refine ⟨xs ++ [x], by simp [h1], fun i hi => ?_⟩
    rcases Nat.lt_or_ge i n with hlt | hge
    · have := h2 i hlt
      rwa [List.getD_eq_getElem?_getD, List.getElem?_append_left (by omega), ← List.getD_eq_getElem?_getD]
    · have e : i = n := by omega
      subst e
      rw [List.getD_eq_getElem?_getD, List.getElem?_append_right (by omega)]
      simpa [h1] using hx
theorem sum_le_of {X Y : Type} [Inhabited X] {f : X → Nat} {g : Y → Nat} : ∀ (xs : List X) (ys : List Y), xs.length = ys.length → (∀ (i : Nat) y, ys[i]? = some y → f (xs.getD i default) ≤ g y) → (xs.map f).sum ≤ (ys.map g).sum
  | [], [], _, _ => Nat.le_refl _
  | x :: xs, y :: ys, h, hf => by
    have h0 := hf 0 y rfl
    have := sum_le_of xs ys (by simpa using h) fun i z hz => by simpa using hf (i + 1) z (by simpa using hz)
    simp only [List.map_cons, List.sum_cons]
    simp at h0
    omega
  | [], _ :: _, h, _ => by simp at h
  | _ :: _, [], h, _ => by simp at h
def encL {X : Type} [Inhabited X] (es : Nat) (e : X → List D) (xs : List X) : D := .list es xs.length (fun i => e (xs.getD i default))
theorem cells?_get {w : World} {base : Nat} {a : Addr} {n : Nat} {cs : List Value} (h : w.cells? base a n = some cs) : cs.length = n ∧ ∀ j, j < n → w.cell? (a.add j) = cs[j]? := by
  unfold World.cells? at h
  split at h
  · have key : ∀ (l : List Nat) (cs : List Value), (l.mapM fun i => w.cell? (a.add i)) = some cs → cs.length = l.length ∧ ∀ (j x : Nat), l[j]? = some x → w.cell? (a.add x) = cs[j]? := by
      intro l
      induction l with
      | nil => intro cs h; simp at h; subst h; exact ⟨rfl, fun j x hx => by simp at hx⟩
      | cons y l ih =>
        intro cs h
        rw [List.mapM_cons] at h
        simp only [Option.bind_eq_bind, Option.bind_eq_some_iff, Option.pure_def, Option.some.injEq] at h
        obtain ⟨u, hu, us, hus, rfl⟩ := h
        obtain ⟨h1, h2⟩ := ih us hus
        refine ⟨by simp [h1], fun j x hx => ?_⟩
        cases j with
        | zero => simp at hx; subst hx; simpa using hu
        | succ j => simpa using h2 j x (by simpa using hx)
    obtain ⟨h1, h2⟩ := key _ _ h
    refine ⟨by simpa using h1, fun j hj => h2 j j ?_⟩
    simp [List.getElem?_range, hj]
  · cases h
theorem Addr.add_add (b o i j : Nat) : ((⟨b, o, none⟩ : Addr).add i).add j = ⟨b, o + i + j, none⟩ := by
  unfold Addr.add
  by_cases hi : i = 0 <;> by_cases hj : j = 0 <;> simp [hi, hj]
theorem ReadsAt.slice {X : Type} [Inhabited X] {n es : Nat} {t te : TypeId} {e : X → List D} {ok : X → Prop} {bulk : X → Nat} (hZ : Fine P Z) (hB : BulkOk B) (ht : P.underlying t = some (.slice te)) (hby : Nat.blt 0 (P.bytesOf te) = true) (hes : P.cellsOf te = es) (hpos : Nat.blt 0 es = true)
    (hlen : ∀ x, ok x → (e x).length = es) (h : ∀ m, m < n → ReadsAt enc P W Z B m te e ok bulk) :
    ReadsAt enc P W Z B n t (fun xs : List X => [encL es e xs]) (fun xs => xs.length ≤ maxN ∧ ∀ x ∈ xs, ok x) (fun xs => (xs.map bulk).sum + 1) := fun cs d ps hd hN => by
  have hpos := Nat.blt_eq.mp hpos
  rcases DataW.trod_slice ht hd with ⟨rfl, hx⟩ | ⟨a, len, cap, elems, rest, m, rfl, rfl, hx, hb, hl, hm, hlen', hel, _, _⟩
  · cases hx
    exact ⟨[], ⟨by simp, fun x hx => by cases hx⟩, by simpa using hB.one _, .empty _ _ _ _, trivial⟩
  · cases hx
    obtain ⟨hlenN, hall⟩ := hZ.slice _ _ _ _ ht (Nat.blt_eq.mp hby) hN
    rw [List.length_map] at hlenN
    have each : ∀ i, i < len → ∃ x, ok x ∧ (∃ y, elems[i]? = some y ∧ bulk x ≤ B y.1) ∧ ∃ us, us.length = es ∧ (∀ j, j < es → W.cell? ((a.add (i * es)).add j) = us[j]?) ∧ RelDs (allG W) W (e x) us := fun i hi => by
      have h1 := hel i hi
      rw [hes] at h1
      obtain ⟨y, hy⟩ : ∃ y, elems[i]? = some y := ⟨elems[i]'(by omega), List.getElem?_eq_getElem _⟩
      rw [hy] at h1
      obtain ⟨us, hus, htr⟩ := Option.bind_eq_some_iff.1 h1
      obtain ⟨x, x1, x2, x3⟩ := h m (by omega) us y.1 y.2 htr (hall _ (List.mem_map.2 ⟨y, List.mem_of_getElem? hy, rfl⟩))
      obtain ⟨c1, c2⟩ := cells?_get hus
      exact ⟨x, x1, ⟨y, hy, x2⟩, us, c1, c2, x3⟩
    obtain ⟨xs, hxs, hp⟩ := choose_list len each
    refine ⟨xs, ⟨by omega, fun x hx => ?_⟩, ?_, ?_, trivial⟩
    · obtain ⟨i, hi, rfl⟩ := List.getElem_of_mem hx
      have := (hp i (by omega)).1
      rwa [List.getD_eq_getElem?_getD, List.getElem?_eq_getElem hi] at this
    · refine Nat.le_trans ?_ (hB.slice _ _)
      rw [List.map_map]
      have := sum_le_of (f := bulk) (g := fun y : DataW H × List MemPlace => B y.1) xs elems (by omega) fun i y hy => by
        obtain ⟨y', hy', hle⟩ := (hp i (by have := (List.getElem?_eq_some_iff.1 hy).1; omega)).2.1
        rw [hy] at hy'; cases hy'; exact hle
      show (xs.map bulk).sum + 1 ≤ _
      exact Nat.add_le_add_right this 1
    · rcases Nat.eq_zero_or_pos len with h0 | hp0
      · subst h0
        rw [encL, hxs]
        exact .empty _ _ _ _
      · have hcell : ∀ i, i < len → ∀ j, j < es → ∃ v, W.cell? ((a.add (i * es)).add j) = some v ∧ RelD (allG W) W (D.at (e (xs.getD i default)) j) v := fun i hi j hj => by
          obtain ⟨x1, _, us, u1, u2, u3⟩ := hp i hi
          obtain ⟨v, v1, v2⟩ := u3.get j (by rw [hlen _ x1]; exact hj)
          exact ⟨v, by rw [u2 j hj]; exact v1, v2⟩
        obtain ⟨v0, hv0, _⟩ := hcell 0 hp0 0 hpos
        have hspot : a.spot = none := by
          cases hs : a.spot with
          | none => rfl
          | some q =>
            unfold World.cell? at hv0
            split at hv0
            · simp [Addr.add, hs] at hv0
            · cases hv0
        have hblk : a.block < W.heap.size := by
          have := World.block_lt_of_cell? W _ hv0
          unfold Addr.add at this
          by_cases h1 : (0 * es = 0) <;> simpa [h1] using this
        obtain ⟨ab, ao, asp⟩ := a
        simp at hspot
        subst hspot
        simp only [Addr.add_add] at hcell
        rw [encL, hxs]
        refine .list es len _ ab ao cap (fun i j => (W.cell? ⟨ab, ao + i * es + j, none⟩).getD undef) hblk hl ?_ (fun i j hi hj => ?_) (fun i hi => hlen _ (hp i hi).1) fun i j hi hj => ?_
        · omega
        · obtain ⟨v, hv, _⟩ := hcell i hi j hj
          rw [hv]; rfl
        · obtain ⟨v, hv, hr⟩ := hcell i hi j hj
          rw [hv]; exact hr
def ReadsF {X : Type} (enc : TypeId × Value → H) (P : Program) (W : World) (Z : TypeId → DataW H → Prop) (B : DataW H → Nat) (n : Nat) (fs : List Field) (off tot : Nat) (e : X → List D) (ok : X → Prop) (bulk : X → Nat) : Prop :=
  ∀ (cs : List Value) (xs : List (DataW H × List MemPlace)), cs.length = tot → (fs.mapM fun f => DataW.trod enc P W 0 (fun _ => true) true n f.type ((cs.drop f.offset).take (P.cellsOf f.type))) = some xs →
    (∀ (i : Nat) f y, fs[i]? = some f → xs[i]? = some y → Z f.type y.1) → ∃ x, ok x ∧ bulk x ≤ (xs.map fun y => B y.1).sum ∧ RelDs (allG W) W (e x) (cs.drop off)
theorem ReadsF.nil {n off : Nat} : ReadsF enc P W Z B n [] off off (fun _ : Unit => []) (fun _ => True) (fun _ => 0) := fun cs xs hc hx hN => by
  refine ⟨(), trivial, Nat.zero_le _, ?_⟩
  rw [List.drop_eq_nil_of_le (by omega)]
  trivial
theorem ReadsF.cons {X Y : Type} {n off tot k : Nat} {f : Field} {fs : List Field} {e : X → List D} {ok : X → Prop} {bulk : X → Nat} {e' : Y → List D} {ok' : Y → Prop} {bulk' : Y → Nat}
    (hf : ReadsAt enc P W Z B n f.type e ok bulk) (ho : f.offset = off) (hk : P.cellsOf f.type = k) (hr : ReadsF enc P W Z B n fs (off + k) tot e' ok' bulk') :
    ReadsF enc P W Z B n (f :: fs) off tot (fun p : X × Y => e p.1 ++ e' p.2) (fun p => ok p.1 ∧ ok' p.2) (fun p => bulk p.1 + bulk' p.2) := fun cs xs hc hx hN => by
  rw [List.mapM_cons] at hx
  simp only [Option.bind_eq_bind, Option.bind_eq_some_iff, Option.pure_def, Option.some.injEq] at hx
  obtain ⟨y, hy, ys, hys, rfl⟩ := hx
  simp only [List.map_cons, List.sum_cons]
  obtain ⟨x1, a1, a2, a3⟩ := hf _ y.1 y.2 hy (hN 0 f y rfl rfl)
  obtain ⟨x2, b1, b2, b3⟩ := hr cs ys hc hys fun i f' y' h1 h2 => hN (i + 1) f' y' (by simpa using h1) (by simpa using h2)
  refine ⟨(x1, x2), ⟨a1, b1⟩, by simp only; omega, ?_⟩
  rw [ho, hk] at a3
  have : cs.drop off = (cs.drop off).take k ++ cs.drop (off + k) := by rw [take_drop_step]
  rw [this]
  exact a3.append b3
theorem ReadsAt.struct {X : Type} {n tot : Nat} {t : TypeId} {fs : Array Field} {e : X → List D} {ok : X → Prop} {bulk : X → Nat} (hZ : Fine P Z) (hB : BulkOk B) (ht : P.underlying t = some (.struct fs)) (htot : P.cellsOf t = tot)
    (h : ∀ m, m < n → ReadsF enc P W Z B m fs.toList 0 tot e ok bulk) : ReadsAt enc P W Z B n t e ok (fun x => bulk x + 1) := fun cs d ps hd hN => by
  cases n with
  | zero => simp [DataW.trod] at hd
  | succ n =>
    unfold DataW.trod at hd
    rw [ht] at hd
    have key : (if cs.length = P.cellsOf t then (fs.toList.mapM fun f => DataW.trod enc P W 0 (fun _ => true) true n f.type ((cs.drop f.offset).take (P.cellsOf f.type))).map fun xs => (DataW.agg (xs.map (·.1)), xs.flatMap (·.2)) else none) = some (d, ps) := by
      split at hd <;> simp_all
    split at key
    · rename_i hl
      obtain ⟨xs, hxs, hx⟩ := Option.map_eq_some_iff.1 key
      cases hx
      have ha := hB.agg (xs.map (·.1))
      rw [List.map_map] at ha
      have hs : (xs.map (B ∘ fun x => x.1)).sum = (xs.map fun y => B y.1).sum := rfl
      obtain ⟨x, h1, h2, h3⟩ := h n (by omega) cs xs (hl.trans htot) hxs fun i f y hf hy => hZ.struct _ _ _ ht hN i f y.1 hf (by rw [List.getElem?_map, hy]; rfl)
      exact ⟨x, h1, by simp only; omega, h3⟩
    · cases key
def flatE {X : Type} (e : X → List D) : List X → List D
  | [] => []
  | x :: xs => e x ++ flatE e xs
theorem ReadsAt.array {X : Type} {n m k : Nat} {t te : TypeId} {e : X → List D} {ok : X → Prop} {bulk : X → Nat} (hZ : Fine P Z) (hB : BulkOk B) (ht : P.underlying t = some (.array m te)) (hk : P.cellsOf te = k) (hmk : P.cellsOf t = m * k)
    (h : ∀ m', m' < n → ReadsAt enc P W Z B m' te e ok bulk) :
    ReadsAt enc P W Z B n t (fun xs : List X => flatE e xs) (fun xs => xs.length = m ∧ ∀ x ∈ xs, ok x) (fun xs => (xs.map bulk).sum + 1) := fun cs d ps hd hN => by
  cases n with
  | zero => simp [DataW.trod] at hd
  | succ n =>
    unfold DataW.trod at hd
    rw [ht] at hd
    have key : (if cs.length = P.cellsOf t then ((List.range m).mapM fun i => DataW.trod enc P W 0 (fun _ => true) true n te ((cs.drop (i * P.cellsOf te)).take (P.cellsOf te))).map fun xs => (DataW.agg (xs.map (·.1)), xs.flatMap (·.2)) else none) = some (d, ps) := by
      split at hd <;> simp_all
    split at key
    · rename_i hl
      obtain ⟨xs, hxs, hx⟩ := Option.map_eq_some_iff.1 key
      cases hx
      have ha := hB.agg (xs.map (·.1))
      rw [List.map_map] at ha
      have hs : (xs.map (B ∘ fun x => x.1)).sum = (xs.map fun y => B y.1).sum := rfl
      rw [hk] at hxs
      rw [hmk] at hl
      have go : ∀ (c : Nat) (off : Nat) (xs : List (DataW H × List MemPlace)), off + c = m → ((List.range' off c).mapM fun i => DataW.trod enc P W 0 (fun _ => true) true n te ((cs.drop (i * k)).take k)) = some xs →
          (∀ y ∈ xs, Z te y.1) → ∃ zs : List X, zs.length = c ∧ (∀ x ∈ zs, ok x) ∧ (zs.map bulk).sum ≤ (xs.map fun y => B y.1).sum ∧ RelDs (allG W) W (flatE e zs) (cs.drop (off * k)) := by
        intro c
        induction c with
        | zero =>
          intro off xs ho hx _
          simp at hx
          refine ⟨[], rfl, fun x hx => (by cases hx), Nat.zero_le _, ?_⟩
          rw [List.drop_eq_nil_of_le (by have : off = m := by omega
                                         subst this; omega)]
          trivial
        | succ c ih =>
          intro off xs ho hx hN'
          rw [List.range'_succ, List.mapM_cons] at hx
          simp only [Option.bind_eq_bind, Option.bind_eq_some_iff, Option.pure_def, Option.some.injEq] at hx
          obtain ⟨y, hy, ys, hys, rfl⟩ := hx
          simp only [List.map_cons, List.sum_cons]
          obtain ⟨x1, a1, a2, a3⟩ := h n (by omega) _ y.1 y.2 hy (hN' y (List.mem_cons_self ..))
          obtain ⟨zs, b1, b2, b3, b4⟩ := ih (off + 1) ys (by omega) hys fun y' hy' => hN' y' (List.mem_cons_of_mem _ hy')
          refine ⟨x1 :: zs, by simp [b1], fun x hx => ?_, by simp only [List.map_cons, List.sum_cons]; omega, ?_⟩
          · rcases List.mem_cons.1 hx with rfl | hx
            · exact a1
            · exact b2 x hx
          · have : cs.drop (off * k) = (cs.drop (off * k)).take k ++ cs.drop ((off + 1) * k) := by rw [Nat.succ_mul, take_drop_step]
            rw [this]
            exact a3.append b4
      obtain ⟨zs, h1, h2, h3, h4⟩ := go m 0 xs (by omega) (by rw [← List.range_eq_range']; exact hxs) fun y hy => hZ.array _ _ _ _ ht hN y.1 (List.mem_map.2 ⟨y, hy, rfl⟩)
      exact ⟨zs, ⟨h1, h2⟩, by simp only; omega, by simpa using h4⟩
    · cases key
theorem ReadsAt.pair {X : Type} [Inhabited X] {n k : Nat} {t te : TypeId} {e : X → List D} {ok : X → Prop} {bulk : X → Nat} (hZ : Fine P Z) (hB : BulkOk B) (ht : P.underlying t = some (.array 2 te)) (hk : P.cellsOf te = k) (hmk : P.cellsOf t = 2 * k)
    (h : ∀ m', m' < n → ReadsAt enc P W Z B m' te e ok bulk) :
    ReadsAt enc P W Z B n t (fun p : X × X => e p.1 ++ (e p.2 ++ [])) (fun p => ok p.1 ∧ ok p.2) (fun p => bulk p.1 + bulk p.2 + 1) := by
  refine (ReadsAt.array hZ hB ht hk hmk h).map (fun xs => (xs.getD 0 default, xs.getD 1 default)) (fun xs hx => ?_) (fun xs hx => ?_) (fun xs hx => ?_)
  all_goals
    obtain ⟨hl, ha⟩ := hx
    obtain ⟨a, b, rfl⟩ : ∃ a b, xs = [a, b] := by
      match xs, hl with
      | [a, b], _ => exact ⟨a, b, rfl⟩
  · rfl
  · exact ⟨ha a (by simp), ha b (by simp)⟩
  · simp [List.sum_cons]
end
end Go.Av
/-
  Av, part T: from a contract to a row.
-/
namespace Go.Av
open Go Go.RowKit Go.ChangeShapes Go.WideShapes Go.ChangeAt
set_option linter.unusedVariables false
set_option linter.unusedSimpArgs false
section
variable {H : Type} {enc : TypeId × Value → H} {P : Program} {W : World} {Z : TypeId → DataW H → Prop} {B : DataW H → Nat}
def ArgR {Y : Type} (enc : TypeId × Value → H) (P : Program) (W : World) (Z : TypeId → DataW H → Prop) (B : DataW H → Nat) (t : TypeId) (av : Y → AV) (ok : Y → Prop) (bulk : Y → Nat) : Prop :=
  ∀ (base : Nat) v d p, Value.okWide P W .any base t v → DataW.Trod enc P W 0 (fun _ => true) true t v d p → Z t d → ∃ z, ok z ∧ bulk z ≤ B d ∧ RelAV (RelC (allG W) (fun _ => False) (fun _ => none) W) (av z) v
def ArgsR {Y : Type} (enc : TypeId × Value → H) (P : Program) (W : World) (Z : TypeId → DataW H → Prop) (B : DataW H → Nat) (ts : List TypeId) (avs : Y → List AV) (ok : Y → Prop) (bulk : Y → Nat) : Prop :=
  ∀ (base : Nat) (vs : List Value) ds p, (∀ (j : Nat) t v, ts[j]? = some t → vs[j]? = some v → Value.okWide P W .any base t v) → DataW.TrodAll enc P W 0 (fun _ => true) true ts vs ds p → (∀ (i : Nat) t d, ts[i]? = some t → ds[i]? = some d → Z t d) →
    ∃ z, ok z ∧ bulk z ≤ (ds.map B).sum ∧ RelAVs (RelC (allG W) (fun _ => False) (fun _ => none) W) (avs z) vs ∧ ds.length = ts.length
def scalarD : Option TypeDesc → Bool
  | some .bool => true
  | some (.int _) => true
  | some .string => true
  | some (.slice _) => true
  | _ => false
theorem ArgR.scalar {X : Type} {t : TypeId} {g : X → D} {ok : X → Prop} {bulk : X → Nat} (h : Reads enc P W Z B t (fun x => [g x]) ok bulk) (hs : scalarD (P.underlying t) = true) :
    ArgR enc P W Z B t (fun x => .c (.d (g x))) ok bulk := fun base v d p hv hd hN => by
  obtain ⟨n, hd⟩ := hd
  obtain ⟨x, h1, h2, h3⟩ := h n _ d p hd hN
  have hcs : v.cells = #[v] := by
    unfold Value.okWide Cell.okWide Cell.ok at hv
    cases hu : P.underlying t with
    | none => rw [hu] at hs; cases hs
    | some u =>
      rw [hu] at hs hv
      cases u <;> first | (cases v <;> first | rfl | exact hv.elim) | cases hs
  refine ⟨x, h1, h2, ?_⟩
  rw [hcs] at h3
  exact relAV_c h3.1 h3.1.one
def isAggD : Option TypeDesc → Bool
  | some (.struct _) => true
  | some (.array _ _) => true
  | _ => false
theorem ArgR.agg {X : Type} {t : TypeId} {e : X → List D} {ok : X → Prop} {bulk : X → Nat} (h : Reads enc P W Z B t e ok bulk) (hs : isAggD (P.underlying t) = true) :
    ArgR enc P W Z B t (fun x => .agg ((e x).map .d)) ok bulk := fun base v d p hv hd hN => by
  obtain ⟨n, hd⟩ := hd
  obtain ⟨x, h1, h2, h3⟩ := h n _ d p hd hN
  have hcs : ∃ cs, v = .agg cs := by
    unfold Value.okWide at hv
    cases hu : P.underlying t with
    | none => rw [hu] at hs; cases hs
    | some u =>
      rw [hu] at hs hv
      cases u <;> first | (exact ⟨_, hv.choose_spec.1⟩) | cases hs
  obtain ⟨cs, rfl⟩ := hcs
  obtain ⟨r1, r2⟩ := RelDs.cells (V := fun _ => False) (φ := fun _ => none) h3
  exact ⟨x, h1, h2, cs, rfl, r1, r2⟩
theorem ArgsR.nil : ArgsR enc P W Z B [] (fun _ : Unit => []) (fun _ => True) (fun _ => 0) := fun base vs ds p hv hd hN => by
  obtain ⟨rfl, rfl, rfl⟩ := trodAll_nil hd
  exact ⟨(), trivial, Nat.zero_le _, trivial, rfl⟩
theorem ArgsR.cons {X Y : Type} {t : TypeId} {ts : List TypeId} {av : X → AV} {ok : X → Prop} {bulk : X → Nat} {avs : Y → List AV} {ok' : Y → Prop} {bulk' : Y → Nat}
    (h : ArgR enc P W Z B t av ok bulk) (hr : ArgsR enc P W Z B ts avs ok' bulk') : ArgsR enc P W Z B (t :: ts) (fun z : X × Y => av z.1 :: avs z.2) (fun z => ok z.1 ∧ ok' z.2) (fun z => bulk z.1 + bulk' z.2) := fun base vs ds p hv hd hN => by
  obtain ⟨v, vs', d, ds', p1, q, rfl, rfl, rfl, h1, h2⟩ := trodAll_cons hd
  simp only [List.map_cons, List.sum_cons]
  obtain ⟨x, x1, x2, x3⟩ := h base v d p1 (hv 0 t v rfl rfl) h1 (hN 0 t d rfl rfl)
  obtain ⟨y, y1, y2, y3, y4⟩ := hr base vs' ds' q (fun j t' v' ht hv' => hv (j + 1) t' v' (by simpa using ht) (by simpa using hv')) h2 fun i t' d' ht hd => hN (i + 1) t' d' (by simpa using ht) (by simpa using hd)
  exact ⟨(x, y), ⟨x1, y1⟩, by simp only; omega, ⟨x3, y3⟩, by simp [y4]⟩
theorem trodAll_below (hl : laidOutB P = true) : ∀ {ts : List TypeId} {vs : List Value} {ds : List (DataW H)} {ps : List MemPlace} {W' : World} {sp : Nat → Bool}, (∀ t ∈ ts, P.readableRec t = true ∧ t < P.types.size) →
    DataW.TrodAll enc P W 0 (fun _ => true) true ts vs ds ps → Below W.heap.size W W' → (∀ x ∈ ps, sp x.block = true) → DataW.TrodAll enc P W' 0 sp true ts vs ds ps
  | [], [], [], _, _, _, _, h, _, _ => h
  | t :: ts, v :: vs, d :: ds, _, W', sp, ht, ⟨p, q, h1, h2, e⟩, hb, hs => by
    subst e
    have hlt : ∀ x ∈ p, x.block < W.heap.size := by obtain ⟨n, hn⟩ := h1; exact DataW.trod_lt n _ _ _ hn
    refine ⟨p, q, ?_, trodAll_below hl (fun t h => ht t (List.mem_cons_of_mem _ h)) h2 hb fun x hx => hs x (List.mem_append_right _ hx), rfl⟩
    exact WideElems.Trod_stays hl (ht t (List.mem_cons_self ..)).1 (ht t (List.mem_cons_self ..)).2 h1 (fun x hx => hb.same (hlt x hx)) fun x hx => hs x (List.mem_append_left _ hx)
  | [], _ :: _, _, _, _, _, _, h, _, _ => by simp [DataW.TrodAll] at h
  | _ :: _, [], _, _, _, _, _, h, _, _ => by simp [DataW.TrodAll] at h
  | [], [], _ :: _, _, _, _, _, h, _, _ => by simp [DataW.TrodAll] at h
  | _ :: _, _ :: _, [], _, _, _, _, h, _, _ => by simp [DataW.TrodAll] at h
theorem Summ.calls {f : FuncId} {fn : Func} {c : Code} {args : List AV} {res : AV} (hf : P.funcs[f]? = some fn) (hb : fn.body = some c) (hn : (fn.name == "runtime.NumGoroutine") = false) (hS : Summ P f args [] res []) {vs : Array Value}
    (hr : RelAVs (RelC (allG W) (fun _ => False) (fun _ => none) W) args vs.toList) :
    Calls P f vs W fun e W' => ∃ v, e = .returned v ∧ Below W.heap.size W W' ∧ ∃ G φ, RelAV (RelC G (fun _ => False) φ W') res v := by
  have hb0 : ∀ b, ¬ Blks (fun _ => none) [] b := fun b ⟨k, c, l, hk, _⟩ => by cases hk
  have hr' : RelAVs (RelC (allG W) (fun b => b < W.heap.size ∧ ¬ Blks (fun _ => none) [] b) (fun _ => none) W) args vs.toList := by
    have key : ∀ (xs : List AV) (us : List Value), RelAVs (RelC (allG W) (fun _ => False) (fun _ => none) W) xs us → RelAVs (RelC (allG W) (fun b => b < W.heap.size ∧ ¬ Blks (fun _ => none) [] b) (fun _ => none) W) xs us := by
      intro xs
      induction xs with
      | nil => intro us h; cases us <;> exact h
      | cons x xs ih =>
        intro us h
        cases us with
        | nil => exact h
        | cons u us =>
          refine ⟨h.1.mono fun c _ v hc => ?_, ih us h.2⟩
          cases c <;> first
            | exact hc
            | (rcases hc with hc | ⟨b, off, cap, hb, r⟩
               · exact .inl hc
               · exact .inr ⟨b, off, cap, hb.imp id fun x => x.elim, r⟩)
            | (obtain ⟨b, off, hb, r⟩ := hc; exact ⟨b, off, hb.imp id fun x => x.elim, r⟩)
    exact key _ _ hr
  have h := hS (allG W) (fun _ => none) W vs.toList (fun b hb => hb) ⟨fun k c hk => (by cases hk), fun k k' c c' l l' hk => (by cases hk), fun k c l hk => (by cases hk)⟩ hr'
  unfold Acts at h
  have hcall : (callFunc f vs).run P W = .ok (.enter f vs) W := by
    simp only [callFunc, Sem.run_bind]
    show Sem.run P (match P.funcs[f]? with | none => _ | some fn => _) W = _
    rw [hf]
    simp [hn, hb]
  rw [show vs.toList.toArray = vs by simp, hcall] at h
  refine h.mono fun e W' ⟨v, G, φ, he, hd⟩ => ⟨v, he, ?_, G, φ, hd.rel⟩
  exact ⟨hd.kp.os, hd.kp.tape, hd.kp.output, hd.kp.size, fun k hk => hd.kp.block k hk (hb0 _)⟩
theorem law_contract {Y : Type} {f : FuncId} {fn : Func} {c : Code} {s : ChangeSpec} {ts : List TypeId} {tb : TypeId} {avs : Y → List AV} {ok : Y → Prop} {bulk : Y → Nat} {N : Nat}
    (hf : P.funcs[f]? = some fn) (hb : fn.body = some c) (hn : (fn.name == "runtime.NumGoroutine") = false) (hts : fn.params.toList = ts) (hrt : fn.resultTypes = #[tb]) (htb : P.underlying tb = some .bool)
    (hv : s.vars = []) (hfn : ∀ ds : List (DataW H), ds.length = ts.length → s.fn H ds = { results := [.lit (.bool true)], args := ds }) (hl : laidOutB P = true)
    (hrd : (ts.all fun t => P.readableRec t && decide (t < P.types.size)) = true)
    (hR : ∀ W, ArgsR enc P W Z B ts avs ok bulk) (hS : ∀ z, ok z → bulk z ≤ (N : Nat) → Summ P f (avs z) [] (.c (.d (.bool true))) [])
    (base : Nat) (args : Array Value) (ds gs : List (DataW H)) (before : List MemPlace)
    (hval : ∀ (j : Nat) t v, fn.params[j]? = some t → args[j]? = some v → Value.okWide P W .any base t v)
    (hW : DataW.Whole enc P fn.params.toList s.vars false W args.toList ds gs before) (hk : (ds.map B).sum ≤ N) (hZ : ∀ (i : Nat) t d, fn.params.toList[i]? = some t → ds[i]? = some d → Z t d) :
    Calls P f args W fun e W' => ∃ v, e = .returned v ∧ s.post enc P fn false true false false W args v W' := by
  have hW' := hW
  obtain ⟨p, q, hA, hV, rfl, hfz, hnd⟩ := hW
  rw [hv] at hV
  obtain ⟨rfl, rfl⟩ : gs = [] ∧ q = [] := by
    cases gs <;> simp [DataW.TrodVars] at hV
    exact ⟨rfl, hV⟩
  have hA' := hA
  rw [hts] at hA
  obtain ⟨z, z1, z2, z3, z4⟩ := hR W base args.toList ds p (fun j t v h1 h2 => hval j t v (by rw [← Array.getElem?_toList, hts]; exact h1) (by simpa using h2)) hA (by rw [hts] at hZ; exact hZ)
  have hcalls := Summ.calls hf hb hn (hS z z1 (Nat.le_trans z2 hk)) z3
  refine hcalls.mono fun e W' ⟨v, he, hbel, G, φ, hrel⟩ => ?_
  have hvb : v = .bool true := by
    have h : RelD G W' (.bool true) v := hrel.1
    cases h; rfl
  subst hvb
  have hds : s.fn H (ds ++ []) = { results := [.lit (.bool true)], args := ds } := by rw [List.append_nil]; exact hfn ds z4
  have hlt : ∀ x ∈ p, x.block < W.heap.size := fun x hx => hW'.lt x (by simpa using hx)
  refine ⟨_, he, ds, [], p ++ [], [], p, [], hW', ?_, ?_, ?_, hbel.frame _, fun h => by cases h⟩
  · rw [hds, hrt]
    exact trodAll_mk1 (shut_bool htb _)
  · rw [hds, hts]
    refine trodAll_below hl (fun t ht => ?_) hA hbel fun x hx => by simpa using hlt x hx
    have := List.all_eq_true.1 hrd t ht
    simpa using this
  · rw [hds, hv]; rfl
theorem fine_of_bulk {ts : List TypeId} {ds : List (DataW H)} {N : Nat} (hN : N ≤ maxN) (h : (ds.map B).sum ≤ N) : ∀ (i : Nat) (t : TypeId) d, ts[i]? = some t → ds[i]? = some d → B d ≤ maxN := fun i t d _ hd => by
  have := sum_mem (f := B) (List.mem_of_getElem? hd)
  omega
end
end Go.Av
/-
  Av, part U: from a function that may have no answer to a walk.
-/
namespace Go.Av
open Go
set_option linter.unusedVariables false
set_option linter.unusedSimpArgs false
inductive Ctl (S R : Type) where
  | next (s : S)
  | brk (s : S)
  | ret (r : R)
inductive Out (S R : Type) where
  | done (s : S)
  | ret (r : R)
section
variable {S R Q A : Type}
def rangeN (B : Nat → S → Option (Ctl S R)) : Nat → Nat → S → Option (Out S R)
  | 0, _, s => some (.done s)
  | k + 1, i, s => match B i s with
    | none => none
    | some (.next s') => rangeN B k (i + 1) s'
    | some (.brk s') => some (.done s')
    | some (.ret r) => some (.ret r)
def loopN (B : S → Option (Ctl S R)) : Nat → S → Option (Out S R)
  | 0, _ => none
  | k + 1, s => match B s with
    | none => none
    | some (.next s') => loopN B k s'
    | some (.brk s') => some (.done s')
    | some (.ret r) => some (.ret r)
def outK (o : Option (Out S R)) (kn : S → Option Q) (kr : R → Option Q) : Option Q :=
  match o with
  | none => none
  | some (.done s) => kn s
  | some (.ret r) => kr r
def need (c : Prop) [Decidable c] (k : Option Q) : Option Q := if c then k else none
def bf (b : Bool) (x y : Option Q) : Option Q := match b with | true => x | false => y
def jn (j : A → Option Q) (k : (A → Option Q) → Option Q) : Option Q := k j
theorem need_elim {c : Prop} [Decidable c] {k : Option Q} {q : Q} (h : need c k = some q) : c ∧ k = some q := by
  unfold need at h
  split at h
  · exact ⟨by assumption, h⟩
  · cases h
theorem bind_elim {o : Option A} {k : A → Option Q} {q : Q} (h : o.bind k = some q) : ∃ a, o = some a ∧ k a = some q := by
  cases o with
  | none => cases h
  | some a => exact ⟨a, rfl, h⟩
theorem bf_cases {b : Bool} {u v : Option Q} {q : Q} (h : bf b u v = some q) : (b = true ∧ u = some q) ∨ (b = false ∧ v = some q) := by
  cases b
  · exact .inr ⟨rfl, h⟩
  · exact .inl ⟨rfl, h⟩
theorem outK_elim {o : Option (Out S R)} {kn : S → Option Q} {kr : R → Option Q} {q : Q} (h : outK o kn kr = some q) :
    (∃ s, o = some (.done s) ∧ kn s = some q) ∨ ∃ r, o = some (.ret r) ∧ kr r = some q := by
  unfold outK at h
  split at h
  · cases h
  · exact .inl ⟨_, rfl, h⟩
  · exact .inr ⟨_, rfl, h⟩
end
section
variable {E : Env} {s : St} {S R Q A : Type} {post : Exit → St → Prop} {q : Q}
@[reducible] def thenJ (σ : A → St) (j : A → Option Q) (q : Q) (post : Exit → St → Prop) : Exit → St → Prop
  | .normal, s => ∃ a, j a = some q ∧ s = σ a
  | e, s => post e s
@[reducible] def thenS (E : Env) (y : Code) (post : Exit → St → Prop) : Exit → St → Prop
  | .normal, s => Tri E y s post
  | e, s => post e s
@[reducible] def inB' (id : Nat) (post : Exit → St → Prop) : Exit → St → Prop
  | .exit id', s => match Nat.beq id' id with | true => post .normal s | false => post (.exit id') s
  | e, s => post e s
theorem Tri.seqS {x y : Code} (h : Tri E x s (thenS E y post)) : Tri E (.seq x y) s post :=
  Tri.seq (h.mono fun e s hp => by cases e <;> exact hp)
theorem Tri.seqJ {x y : Code} (σ : A → St) {j : A → Option Q} {k : (A → Option Q) → Option Q} (h : jn j k = some q) (hy : ∀ a, j a = some q → Tri E y (σ a) post)
    (hx : ∀ j', k j' = some q → Tri E x s (thenJ σ j' q post)) : Tri E (.seq x y) s post :=
  Tri.seqS ((hx j h).mono fun e s hp => by
    cases e with
    | normal => obtain ⟨a, h1, rfl⟩ := hp; exact hy a h1
    | _ => exact hp)
theorem Tri.blockB {id : Nat} {c : Code} (h : Tri E c s (inB' id post)) : Tri E (.block id c) s post :=
  Tri.block (h.mono fun e s hp => by
    cases e with
    | exit id' =>
      show if id' = id then _ else _
      have hp : (match Nat.beq id' id with | true => post .normal s | false => post (.exit id') s) := hp
      cases hb : Nat.beq id' id with
      | true => rw [if_pos (Nat.eq_of_beq_eq_true hb)]; rw [hb] at hp; exact hp
      | false =>
        have : id' ≠ id := fun e => by rw [e] at hb; simp at hb
        rw [if_neg this]; rw [hb] at hp; exact hp
    | _ => exact hp)
theorem Tri.condP {c : Operand} {x y : Code} {b : Bool} {u v : Option Q} (hb : evO s c = some (.c (.d (.bool b)))) (h : bf b u v = some q) (ht : u = some q → Tri E x s post) (hf : v = some q → Tri E y s post) :
    Tri E (.cond c x y) s post :=
  Tri.cond hb (fun e => ht (by subst e; exact h)) fun e => hf (by subst e; exact h)
theorem Tri.keep (tk sk : List Nat) {s' : St} {c : Code} (hk : Av.keep tk sk s = some s') (h : Tri E c s' post) : Tri E c s post :=
  Tri.weaken (fun _ _ => keep_sim hk) h
def At (E : Env) (L : List Oper) (i : Nat) (s : St) (K : St → Prop) : Prop := Ops E L.toArray (L.drop i) s K
theorem Tri.reg {id : Nat} {L : List Oper} (h : At E L 0 s (post .normal)) : Tri E (.region id L.toArray false) s post := Tri.region h
variable {L : List Oper} {i : Nat} {K : St → Prop}
theorem At.done (hi : Nat.ble L.length i = true) (h : K s) : At E L i s K := by
  unfold At
  rw [List.drop_eq_nil_of_le (Nat.le_of_ble_eq_true hi)]
  exact Ops.nil h
theorem At.seg (n : Nat) (tk sk : List Nat) {s' : St} {c : Prop} (he : evalSeg E.P E.N L.toArray ((L.drop i).take n) tk sk s = some (s', c)) (hc : c) (h : At E L (i + n) s' K) : At E L i s K := by
  unfold At at h ⊢
  have := Ops.seg he hc h
  rwa [← List.drop_drop, List.take_append_drop] at this
theorem At.one {o : Oper} (ho : L[i]? = some o) {s' : St} (h1 : One E L.toArray o s s') (h : At E L (i + 1) s' K) : At E L i s K := by
  unfold At at h ⊢
  obtain ⟨hlt, he⟩ := List.getElem?_eq_some_iff.1 ho
  rw [List.drop_eq_getElem_cons hlt, he]
  exact Ops.one h1 h
theorem At.case (f : Bool → St) {b : Bool} {u v : Option Q} (h : bf b u v = some q) (ht : u = some q → At E L i (f true) K) (hf : v = some q → At E L i (f false) K) : At E L i (f b) K := by
  cases b
  · exact hf h
  · exact ht h
theorem At.keep (tk sk : List Nat) {s' : St} (hk : Av.keep tk sk s = some s') (h : At E L i s' K) : At E L i s K :=
  fun a w hs => h a w (keep_sim hk hs)
theorem At.call {o : Oper} {cl : Call} {f : FuncId} {caps : List D} {xs args : List AV} {res : AV} (ho : L[i]? = some o)
    (hop : o.op = .call cl) (hw : wantedB L.toArray s o = some true) (hd : dstOk E.N o.dst = true) (hc : calleeOf s cl = some (f, caps)) (hx : argsOf s cl caps = some xs)
    (hle : AVsArg s xs args) (hfl : allFlat args = true) (hsol : res.solid = true) (hS : Summ E.P f args [] res []) (h : At E L (i + 1) (putO s o.dst res) K) : At E L i s K :=
  At.one ho (One.call hop hw hd hc hx hle hfl hsol hS) h
theorem At.le (fz : List Nat) (hfz : ∀ k ∈ fz, k ∉ E.lk) (s' : St) (ht : LeT s fz s'.tm) (hs : LeS s fz s'.sl) (h : At E L i s' K) : At E L i s K :=
  Ops.le fz hfz s' ht hs h
theorem encs_getD {X : Type} [Inhabited X] (e : X → List D) (xs : List X) (i : Nat) (hi : i < xs.length) : e (xs.getD i default) = (xs.map e).getD (0 + i) [] := by
  rw [Nat.zero_add, List.getD_eq_getElem?_getD, List.getD_eq_getElem?_getD, List.getElem?_map, List.getElem?_eq_getElem hi]
  rfl
def encInt (k : IntKind) (n : Int) : List D := [.int k n]
def bs (l : List Nat) : ByteArray := ⟨(l.map UInt8.ofNat).toArray⟩
theorem Tri.lenOf {t es n : Nat} {get : Nat → List D} {c : Code} (ht : look s.tm t = some (.c (.d (.list es n get)))) (h : n ≤ maxN → Tri E c s post) : Tri E c s post := fun a w hs => by
  obtain ⟨G, φ, hs'⟩ := hs
  obtain ⟨v, _, hr⟩ := hs'.tm t _ ht
  have hr : RelD G w (.list es n get) v := hr.1
  have hn : n ≤ maxN := by
    cases hr with
    | empty _ _ _ _ => exact Nat.zero_le _
    | list _ _ _ _ _ _ _ _ _ hm _ _ _ => exact hm
  exact h hn a w ⟨G, φ, hs'⟩
theorem Tri.lenOfV {t es n : Nat} {get : Nat → List D} {c : Code} (ht : look s.tm t = some (.c (.view es n get))) (h : n ≤ maxN → Tri E c s post) : Tri E c s post := fun a w hs => by
  obtain ⟨G, φ, hs'⟩ := hs
  obtain ⟨v, _, hr⟩ := hs'.tm t _ ht
  have hn : n ≤ maxN := by
    rcases hr.1 with ⟨h0, _⟩ | ⟨_, _, _, _, _, _, hm, _⟩
    · omega
    · exact hm
  exact h hn a w ⟨G, φ, hs'⟩
theorem Tri.lenOfO {t k es off n N : Nat} {get : Nat → List D} {c : Code} (ht : look s.tm t = some (.c (.own k es off n))) (hk : look s.sl k = some (.vec es N get)) (hn : n ≤ N) (h : n ≤ maxN → Tri E c s post) : Tri E c s post := fun a w hs => by
  obtain ⟨G, φ, hs'⟩ := hs
  obtain ⟨h1, _⟩ := hs'.sl k _ hk
  exact h (by omega) a w ⟨G, φ, hs'⟩
def idx (ti i : Nat) (s : St) : St := s.put ti (.c (.d (.int .i64 (i : Int))))
@[reducible] def bodyPost (cid b ti : Nat) (σ F : S → St) (RT : R → St → Prop) (i : Nat) : Ctl S R → Exit → St → Prop
  | .next st, .normal, s => s = idx ti i (σ st)
  | .next st, .exit id, s => id = cid ∧ s = idx ti i (σ st)
  | .brk st, .exit id, s => id = b ∧ s = F st
  | .ret x, .ret, s => RT x s
  | _, _, _ => False
@[reducible] def roundPost (b : Nat) (σ F : S → St) (RT : R → St → Prop) : Ctl S R → Exit → St → Prop
  | .next st, .normal, s => s = σ st
  | .brk st, .exit id, s => id = b ∧ s = F st
  | .ret x, .ret, s => RT x s
  | _, _, _ => False
@[reducible] def outPost (F : S → St) (RT : R → St → Prop) : Out S R → Exit → St → Prop
  | .done st, .normal, s => s = F st
  | .ret x, .ret, s => RT x s
  | _, _, _ => False
theorem Tri.loopG {b : Nat} {c : Code} {B : S → Option (Ctl S R)} (RT : R → St → Prop) (σ F : S → St) {fuel : Nat} {st0 : S} {o : Out S R} (h : loopN B fuel st0 = some o)
    (hround : ∀ st r, B st = some r → Tri E c (σ st) (roundPost b σ F RT r)) : Tri E (.block b (.loop c)) (σ st0) (outPost F RT o) := by
  refine Tri.block (Tri.loop (fun n s => ∃ st, s = σ st ∧ loopN B n st = some o) ?_ (n := fuel) ⟨st0, rfl, h⟩)
  rintro n s ⟨st, rfl, hn⟩
  cases n with
  | zero => cases hn
  | succ n =>
    simp only [loopN] at hn
    cases hB : B st with
    | none => rw [hB] at hn; cases hn
    | some r =>
      rw [hB] at hn
      refine (hround st r hB).mono fun e s' hp => ?_
      cases r with
      | next st' =>
        cases e with
        | normal => exact ⟨n, Nat.lt_succ_self _, st', hp, hn⟩
        | _ => exact hp.elim
      | brk st' =>
        cases hn
        cases e with
        | exit id =>
          obtain ⟨rfl, rfl⟩ := hp
          show inB id _ (.exit id) _
          simp [inB]
        | _ => exact hp.elim
      | ret x =>
        cases hn
        cases e with
        | ret => exact hp
        | _ => exact hp.elim
theorem Tri.rangeG {b : Nat} {c : Code} {B : Nat → S → Option (Ctl S R)} (RT : R → St → Prop) (σ : Nat → S → St) (F : S → St) {n : Nat} {st0 : S} {o : Out S R} (h : rangeN B n 0 st0 = some o)
    (hround : ∀ i st r, i < n → B i st = some r → Tri E c (σ i st) (match r with | .next st' => fun e s => e = .normal ∧ s = σ (i + 1) st' | .brk st' => fun e s => e = .exit b ∧ s = F st' | .ret x => fun e s => e = .ret ∧ RT x s))
    (hstop : ∀ st, Tri E c (σ n st) (fun e s => e = .exit b ∧ s = F st)) : Tri E (.block b (.loop c)) (σ 0 st0) (outPost F RT o) := by
  refine Tri.block (Tri.loop (fun m s => ∃ i st, m + i = n ∧ s = σ i st ∧ rangeN B m i st = some o) ?_ (n := n) ⟨0, st0, by omega, rfl, h⟩)
  rintro m s ⟨i, st, hm, rfl, hn⟩
  cases m with
  | zero =>
    cases hn
    have : i = n := by omega
    subst this
    refine (hstop st).mono fun e s' ⟨h1, h2⟩ => ?_
    subst h1 h2
    show inB b _ (.exit b) _
    simp [inB]
  | succ m =>
    simp only [rangeN] at hn
    cases hB : B i st with
    | none => rw [hB] at hn; cases hn
    | some r =>
      rw [hB] at hn
      refine (hround i st r (by omega) hB).mono fun e s' hp => ?_
      cases r with
      | next st' =>
        obtain ⟨rfl, rfl⟩ := hp
        exact ⟨m, Nat.lt_succ_self _, i + 1, st', by omega, rfl, hn⟩
      | brk st' =>
        cases hn
        obtain ⟨rfl, rfl⟩ := hp
        show inB b _ (.exit b) _
        simp [inB]
      | ret x =>
        cases hn
        obtain ⟨rfl, hp⟩ := hp
        exact hp
theorem Tri.loopK {b : Nat} {c : Code} {B : S → Option (Ctl S R)} {kn : S → Option Q} {kr : R → Option Q} {st0 : S} {fuel : Nat} (RT : R → St → Prop) (σ F : S → St)
    (h : outK (loopN B fuel st0) kn kr = some q) (hround : ∀ st r, B st = some r → Tri E c (σ st) (roundPost b σ F RT r))
    (hrest : ∀ st, kn st = some q → post .normal (F st)) (hret : ∀ x s', kr x = some q → RT x s' → post .ret s') : Tri E (.block b (.loop c)) (σ st0) post := by
  obtain ⟨s', ho, hk⟩ | ⟨x, ho, hk⟩ := outK_elim h
  · refine (Tri.loopG RT σ F ho hround).mono fun e s hp => ?_
    cases e with
    | normal => have hp : s = F s' := hp
                subst hp; exact hrest _ hk
    | _ => exact hp.elim
  · refine (Tri.loopG RT σ F ho hround).mono fun e s hp => ?_
    cases e with
    | ret => exact hret _ _ hk hp
    | _ => exact hp.elim
theorem wrap_succ {i : Nat} (h : i < maxN) : IntKind.i64.wrap ((i : Int) + 1) = ((i + 1 : Nat) : Int) := by
  unfold maxN at h
  rw [wrap_small (by omega) (by omega)]
  simp
theorem Tri.range {ti tc n b cid id1 id2 : Nat} {L1 L2 : List Oper} {body : Code} {B : Nat → S → Option (Ctl S R)} {kn : S → Option Q} {kr : R → Option Q} {st0 : S} (RT : R → St → Prop) (σ F : S → St) (bb : Nat → Bool)
    (tk sk tkF skF tk2 sk2 : List Nat) (h : outK (rangeN B n 0 st0) kn kr = some q) (hn : n ≤ maxN) (hbc : Nat.beq b cid = false)
    (h1 : ∀ i st, ∃ c, evalSeg E.P E.N L1.toArray L1 tk sk (idx ti i (σ st)) = some ((idx ti i (σ st)).put tc (.c (.d (.bool (bb i)))), c) ∧ c)
    (hbt : ∀ i, i < n → bb i = true) (hbf : bb n = false) (hF : ∀ st, Av.keep tkF skF ((idx ti n (σ st)).put tc (.c (.d (.bool false)))) = some (F st))
    (h2 : ∀ i st, ∃ c, evalSeg E.P E.N L2.toArray L2 tk2 sk2 (idx ti i (σ st)) = some ((σ st).put ti (.c (.d (.int .i64 (IntKind.i64.wrap ((i : Int) + 1))))), c) ∧ c)
    (hbody : ∀ i st c, i < n → B i st = some c → Tri E body ((idx ti i (σ st)).put tc (.c (.d (.bool true)))) (bodyPost cid b ti σ F RT i c))
    (hrest : ∀ st, kn st = some q → post .normal (F st)) (hret : ∀ x s', kr x = some q → RT x s' → post .ret s') :
    Tri E (.block b (.loop (.seq (.region id1 L1.toArray false) (.seq (.cond (.tmp tc) .skip (.exit b)) (.seq (.block cid body) (.region id2 L2.toArray false)))))) (idx ti 0 (σ st0)) post := by
  have hfirst : ∀ i st post', Tri E (.seq (.cond (.tmp tc) .skip (.exit b)) (.seq (.block cid body) (.region id2 L2.toArray false))) ((idx ti i (σ st)).put tc (.c (.d (.bool (bb i))))) post' →
      Tri E (.seq (.region id1 L1.toArray false) (.seq (.cond (.tmp tc) .skip (.exit b)) (.seq (.block cid body) (.region id2 L2.toArray false)))) (idx ti i (σ st)) post' := fun i st post' ht => by
    obtain ⟨c, e1, e2⟩ := h1 i st
    refine Tri.seqS (Tri.region ?_)
    have := Ops.seg (rest := []) e1 e2 (Ops.nil (K := (thenS E _ post') .normal) ht)
    simpa using this
  have hlook : ∀ i st (x : Bool), evO ((idx ti i (σ st)).put tc (.c (.d (.bool x)))) (.tmp tc) = some (.c (.d (.bool x))) := fun i st x => by
    simp [evO, St.put, look_cons]
  obtain ⟨s', ho, hk⟩ | ⟨x, ho, hk⟩ := outK_elim h
  all_goals
    refine (Tri.rangeG (E := E) (b := b) RT (fun i st => idx ti i (σ st)) F ho (fun i st r hi hB => hfirst i st _ ?_) (fun st => hfirst n st _ ?_)).mono fun e s' hp => ?_
  case inl.refine_1 | inr.refine_1 =>
    rw [hbt i hi]
    refine Tri.seqS (Tri.cond (hlook i st true) (fun _ => Tri.skip ?_) (fun e => by cases e))
    refine Tri.seqS (Tri.blockB ((hbody i st r hi hB).mono fun e s' hp => ?_))
    have fin : ∀ st', s' = idx ti i (σ st') → Tri E (.region id2 L2.toArray false) s' (fun e s => e = .normal ∧ s = idx ti (i + 1) (σ st')) := fun st' e => by
      subst e
      obtain ⟨c, e1, e2⟩ := h2 i st'
      refine Tri.region ?_
      have := Ops.seg (rest := []) e1 e2 (Ops.nil (K := fun s => Exit.normal = .normal ∧ s = idx ti (i + 1) (σ st')) ⟨rfl, by rw [wrap_succ (by omega)]; rfl⟩)
      simpa using this
    cases r with
    | next st' =>
      cases e with
      | normal => exact fin st' hp
      | exit id =>
        obtain ⟨rfl, hp⟩ := hp
        show (match Nat.beq id id with | true => _ | false => _)
        rw [Nat.beq_refl]
        exact fin st' hp
      | _ => exact hp.elim
    | brk st' =>
      cases e with
      | exit id =>
        obtain ⟨rfl, hp⟩ := hp
        show (match Nat.beq id cid with | true => _ | false => _)
        rw [hbc]
        exact ⟨rfl, hp⟩
      | _ => exact hp.elim
    | ret x =>
      cases e with
      | ret => exact ⟨rfl, hp⟩
      | _ => exact hp.elim
  case inl.refine_2 | inr.refine_2 =>
    rw [hbf]
    refine Tri.seqS (Tri.cond (hlook n st false) (fun e => by cases e) (fun _ => Tri.keep tkF skF (hF st) (Tri.exit ⟨rfl, rfl⟩)))
  case inl.refine_3 =>
    cases e with
    | normal => have hp : s' = F _ := hp
                subst hp; exact hrest _ hk
    | _ => exact hp.elim
  case inr.refine_3 =>
    cases e with
    | ret => exact hret _ _ hk hp
    | _ => exact hp.elim
end
end Go.Av
/-
  Av, part V: of loops, without any program.
-/
namespace Go.Av
set_option linter.unusedVariables false
set_option linter.unusedSimpArgs false
section
variable {S R Q A X : Type}
theorem rangeN_inv {B : Nat → S → Option (Ctl S R)} {n : Nat} (I : Nat → S → Prop) {s : S} (h0 : I 0 s) (hs : ∀ i s, i < n → I i s → ∃ s', B i s = some (.next s') ∧ I (i + 1) s') :
    ∃ s', rangeN B n 0 s = some (.done s') ∧ I n s' := by
  have key : ∀ k i s, i + k = n → I i s → ∃ s', rangeN B k i s = some (.done s') ∧ I n s' := by
    intro k
    induction k with
    | zero => intro i s hi h; exact ⟨s, rfl, by have : i = n := by omega
                                                subst this; exact h⟩
    | succ k ih =>
      intro i s hi h
      obtain ⟨s', h1, h2⟩ := hs i s (by omega) h
      obtain ⟨s2, h3, h4⟩ := ih (i + 1) s' (by omega) h2
      exact ⟨s2, by simp only [rangeN, h1, h3], h4⟩
  exact key n 0 s (by omega) h0
theorem rangeN_to {B : Nat → S → Option (Ctl S R)} {n : Nat} {s : S} (r : S) (I : Nat → S → Prop) (hr : ∀ s, I n s → s = r) (hs : ∀ i s, i < n → I i s → ∃ s', B i s = some (.next s') ∧ I (i + 1) s') (h0 : I 0 s) :
    rangeN B n 0 s = some (.done r) := by
  obtain ⟨s', h1, h2⟩ := rangeN_inv I h0 hs
  rw [h1, hr s' h2]
theorem rangeN_inv' {B : Nat → S → Option (Ctl S R)} {n : Nat} (I : Nat → S → Prop) (D : S → Prop) (J : R → Prop) {s : S} (h0 : I 0 s)
    (hs : ∀ i s, i < n → I i s → (∃ s', B i s = some (.next s') ∧ I (i + 1) s') ∨ (∃ s', B i s = some (.brk s') ∧ D s') ∨ ∃ r, B i s = some (.ret r) ∧ J r) (hD : ∀ s, I n s → D s) :
    (∃ s', rangeN B n 0 s = some (.done s') ∧ D s') ∨ ∃ r, rangeN B n 0 s = some (.ret r) ∧ J r := by
  have key : ∀ k i s, i + k = n → I i s → (∃ s', rangeN B k i s = some (.done s') ∧ D s') ∨ ∃ r, rangeN B k i s = some (.ret r) ∧ J r := by
    intro k
    induction k with
    | zero => intro i s hi h; exact .inl ⟨s, rfl, by have : i = n := by omega
                                                     subst this; exact hD s h⟩
    | succ k ih =>
      intro i s hi h
      rcases hs i s (by omega) h with ⟨s', h1, h2⟩ | ⟨s', h1, h2⟩ | ⟨r, h1, h2⟩
      · rcases ih (i + 1) s' (by omega) h2 with ⟨s2, h3, h4⟩ | ⟨r, h3, h4⟩
        · exact .inl ⟨s2, by simp only [rangeN, h1, h3], h4⟩
        · exact .inr ⟨r, by simp only [rangeN, h1, h3], h4⟩
      · exact .inl ⟨s', by simp only [rangeN, h1], h2⟩
      · exact .inr ⟨r, by simp only [rangeN, h1], h2⟩
  exact key n 0 s (by omega) h0
theorem take_succ_getD [Inhabited X] {l : List X} {i : Nat} (h : i < l.length) : l.take (i + 1) = l.take i ++ [l.getD i default] := by
  rw [List.take_add_one, List.getElem?_eq_getElem h, List.getD_eq_getElem?_getD, List.getElem?_eq_getElem h]
  rfl
theorem getD_mem' [Inhabited X] {l : List X} {i : Nat} (h : i < l.length) : l.getD i default ∈ l := by
  rw [List.getD_eq_getElem?_getD, List.getElem?_eq_getElem h]
  exact List.getElem_mem h
@[simp] theorem outK_done {s : S} {kn : S → Option Q} {kr : R → Option Q} : outK (some (.done s)) kn kr = kn s := rfl
@[simp] theorem outK_ret {r : R} {kn : S → Option Q} {kr : R → Option Q} : outK (some (.ret r)) kn kr = kr r := rfl
@[simp] theorem bf_true {x y : Option Q} : bf true x y = x := rfl
@[simp] theorem bf_false {x y : Option Q} : bf false x y = y := rfl
theorem need_true {c : Prop} [Decidable c] {k : Option Q} (h : c) : need c k = k := by unfold need; rw [if_pos h]
@[simp] theorem jn_eq {j : A → Option Q} {k : (A → Option Q) → Option Q} : jn j k = k j := rfl
@[simp] theorem bf_decide {p : Prop} [Decidable p] {x y : Option Q} : bf (decide p) x y = if p then x else y := by by_cases h : p <;> simp [h, bf]
@[simp] theorem bf_not {b : Bool} {x y : Option Q} : bf (!b) x y = bf b y x := by cases b <;> rfl
end
end Go.Av
/-
  Av, part W: rules over lists.
-/
namespace Go.Av
open Go
set_option linter.unusedVariables false
set_option linter.unusedSimpArgs false
set_option linter.unusedSectionVars false
theorem shift0 {X : Type} [Inhabited X] (e : X → List D) (xs : List X) (m : Nat) : ∀ i, i < m → e (xs.getD i default) = (fun i => e (xs.getD i default)) (0 + i) := fun i _ => by
  show _ = e (xs.getD (0 + i) default)
  rw [Nat.zero_add]
theorem getD_append' {X : Type} [Inhabited X] (xs ys : List X) (i : Nat) : (xs ++ ys).getD i default = if i < xs.length then xs.getD i default else ys.getD (i - xs.length) default := by
  simp only [List.getD_eq_getElem?_getD, List.getElem?_append]
  split <;> rfl
section
variable {E : Env} {s : St} {X : Type} [Inhabited X]
theorem AppOk.of {P : Program} {sT xT e : TypeId} {es : Nat} (e' : TypeId) (bs : Nat) (z : List C) (h1 : P.underlying sT = some (.slice e)) (h2 : P.underlying xT = some (.slice e')) (h3 : sizeT P e = some es)
    (h4 : bytesT P e = some bs) (h5 : Nat.ble bs 256 = true) (h6 : zeroCells P e = some z) (h7 : Nat.beq z.length es = true) : AppOk P sT xT e es :=
  ⟨h1, ⟨e', h2⟩, h3, ⟨bs, h4, Nat.le_of_ble_eq_true h5⟩, ⟨z, h6, Nat.eq_of_beq_eq_true h7⟩⟩
theorem One.build0 {ops : Array Oper} {o : Oper} {t e : TypeId} {es d : Nat}
    (hop : o.op = .buildSlice t 0 #[]) (hw : wantedB ops s o = some true) (hd : o.dst = some d) (hlt : Nat.blt d E.N = true) (hu : E.P.underlying t = some (.slice e)) (hsz : sizeT E.P e = some es) :
    One E ops o s (s.put d (.c .zero)) := fun a w hs => by
  obtain ⟨G, φ, h⟩ := hs
  refine ⟨wantedB_spec h hw, fun next Q hn => ?_⟩
  have hrun : (Instr.buildSlice t 0 ((#[] : Array (Nat × Operand)).map fun p => (p.1, a.eval p.2))).run E.P w = .ok (.slice (some ⟨w.heap.size, 0, none⟩) 0 0) (w.alloc (.cells #[] e)) := by
    unfold Instr.buildSlice
    simp only [Sem.run_bind, run_underlying hu, Result.andThen_ok, sizeT_run hsz]
    have hr0 : ∀ f : Nat → Value, (Array.range 0).map f = #[] := fun f => by simp
    simp [newRow_run, Instr.fill, hr0]
  unfold Oper.wp
  have he : execOp a.eval o = (do pure (.value (← Instr.buildSlice t 0 ((#[] : Array (Nat × Operand)).map fun p => (p.1, a.eval p.2)))) : Sem Next) := by unfold execOp; rw [hop]
  rw [he]
  simp only [Sem.run_bind, hrun, Result.andThen_ok, Sem.run_pure, Oper.upon, hd]
  have hk : Keep w.heap.size (fun _ => False) w (w.alloc (.cells #[] e)) := ⟨rfl, rfl, rfl, by simp, fun b hb _ => by
    show (w.heap.push _)[b]? = _
    rw [Array.getElem?_push, if_neg (by omega)]⟩
  have hg := h.grow hk (fun _ hb => hb) (fun _ hb => .inl hb) fun b hb => by have := h.gsz b hb; simp; omega
  exact hn _ _ ⟨G, φ, hg.put (Nat.blt_eq.mp hlt) (relAV_c ⟨_, rfl⟩ rfl)⟩
theorem One.appendT {ops : Array Oper} {o : Oper} {d k : Nat} {sT xT e : TypeId} {es : Nat} {b x : Operand} {y : AV} (enc : X → List D) (xs ys : List X) (hkx : anyB (Nat.beq k) E.fx = false)
    (hop : o.op = .call ⟨.builtin .append, #[b, x], #[sT, xT]⟩) (hw : wantedB ops s o = some true) (hd : o.dst = some d) (hlt : Nat.blt d E.N = true)
    (hok : AppOk E.P sT xT e es) (hb : evO s b = some (.c (.own k es 0 xs.length))) (hk : look s.sl k = some (.vec es xs.length (fun i => enc (xs.getD i default)))) (hx : evO s x = some y)
    (hsrc : SrcOf s y es ys.length (fun i => enc (ys.getD i default))) (hlim : xs.length + ys.length ≤ lim) :
    One E ops o s (((s.drop k).slot k (.vec es (xs ++ ys).length (fun i => enc ((xs ++ ys).getD i default)))).put d (.c (.own k es 0 (xs ++ ys).length))) := by
  have := One.appendOwn hkx hop hw hd hlt hok hb hk (Nat.le_refl _) hx hsrc hlim
  rw [List.length_append]
  have hg : appGet xs.length (fun i => enc (xs.getD i default)) (fun i => enc (ys.getD i default)) = fun i => enc ((xs ++ ys).getD i default) := by
    funext i
    unfold appGet
    rw [getD_append']
    split <;> rfl
  rw [hg] at this
  exact this
theorem One.makeT {ops : Array Oper} {o : Oper} {d : Nat} {t e : TypeId} {es bs : Nat} {ln cp : Operand} {kn kc : IntKind} {n c : Int} {z : List C} (enc : X → List D) (x : X)
    (hop : o.op = .makeSlice t ln cp) (hw : wantedB ops s o = some true) (hd : o.dst = some d) (hlt : Nat.blt d E.N = true) (hnr : s.noRef d = true)
    (hu : E.P.underlying t = some (.slice e)) (hsz : sizeT E.P e = some es) (hes : Nat.blt 0 es = true) (hbs : bytesT E.P e = some bs) (hb : Nat.ble bs 256 = true)
    (hz : zeroCells E.P e = some z) (hze : Nat.beq z.length es = true) (hcs : CsLe s [] z ((enc x).map .d)) (hdl : Nat.beq (enc x).length es = true)
    (hn : evO s ln = some (.c (.d (.int kn n)))) (hc : evO s cp = some (.c (.d (.int kc c)))) (hb0 : 0 ≤ n) (hnc : n ≤ c) (hlim : c ≤ lim) (hdef : enc default = enc x) :
    One E ops o s ((s.slot d (.vec es (List.replicate n.toNat x).length (fun i => enc ((List.replicate n.toNat x).getD i default)))).put d (.c (.own d es 0 (List.replicate n.toNat x).length))) := by
  have := One.makeSlice hop hw hd hlt hnr hu hsz hes hbs hb hz hze hcs hdl hn hc hb0 hnc hlim
  rw [List.length_replicate]
  have hg : (fun _ : Nat => enc x) = fun i => enc ((List.replicate n.toNat x).getD i default) := by
    funext i
    rw [List.getD_eq_getElem?_getD, List.getElem?_replicate]
    split
    · rfl
    · exact hdef.symm
  rw [hg] at this
  exact this
theorem One.storeT {ops : Array Oper} {o : Oper} {t : TypeId} {p v : Operand} {k es i o0 sz : Nat} {y : AV} {xs : List C} {ds : List D} (enc : X → List D) (ys : List X) (x : X)
    (hop : o.op = .store t p v) (hw : wantedB ops s o = some true) (hd : dstOk E.N o.dst = true) (hp : evO s p = some (.c (.vptr k es i o0))) (hk : look s.sl k = some (.vec es ys.length (fun i => enc (ys.getD i default)))) (hi : i < ys.length)
    (hx : evO s v = some y) (hst : storable y = some xs) (hcs : CsLe s [] xs (ds.map .d)) (hsz : sizeT E.P t = some sz) (hle : Nat.beq sz ds.length = true) (hin : Nat.ble (o0 + ds.length) es = true)
    (hwr : wrD (enc (ys.getD i default)) o0 ds = enc x) :
    One E ops o s (putO (s.slot k (.vec es (ys.set i x).length (fun j => enc ((ys.set i x).getD j default)))) o.dst (.c .any)) := by
  have := One.storeElem hop hw hd hp hk hi hx hst hcs hsz hle hin
  rw [List.length_set]
  have hg : setGet (fun i => enc (ys.getD i default)) i (wrD (enc (ys.getD i default)) o0 ds) = fun j => enc ((ys.set i x).getD j default) := by
    funext j
    unfold setGet
    by_cases e : j = i
    · subst e
      rw [if_pos rfl, hwr, List.getD_eq_getElem?_getD, List.getElem?_set_self hi]
      rfl
    · rw [if_neg e]
      show enc (ys.getD j default) = enc ((ys.set i x).getD j default)
      rw [List.getD_eq_getElem?_getD, List.getD_eq_getElem?_getD, List.getElem?_set_ne (fun h => e h.symm)]
  rw [hg] at this
  exact this
def sub (xs : List X) (l h : Int) : List X := (xs.drop l.toNat).take (h.toNat - l.toNat)
theorem SimE.newOwn {a : Act} {w : World} (h : SimE E s a w) {t k es : Nat} {get : Nat → List D} (hkx : anyB (Nat.beq k) E.fx = false) (hz : look s.tm t = some (.c .zero)) (hk : s.noRef k = true) :
    SimE E ((s.slot k (.vec es 0 get)).put t (.c (.own k es 0 0))) a w := by
  obtain ⟨G, φ, h⟩ := h
  have hs := h.newVec0 (not_mem_beq hkx) hk es get
  obtain ⟨v, hv, hr⟩ := h.tm t _ hz
  refine ⟨G, upd φ k none, { hs with tm := fun t' x hx => ?_ }⟩
  simp only [St.put, look_cons] at hx
  by_cases e : t = t'
  · subst e
    rw [if_pos rfl] at hx
    cases hx
    obtain ⟨A, rfl⟩ := hr.1
    exact ⟨_, hv, relAV_c (.inl ⟨rfl, A, rfl⟩) rfl⟩
  · rw [if_neg e] at hx
    exact hs.tm t' x hx
theorem Tri.newOwn {c : Code} {post : Exit → St → Prop} {t k es : Nat} (get : Nat → List D) (hkx : anyB (Nat.beq k) E.fx = false) (hz : look s.tm t = some (.c .zero)) (hk : s.noRef k = true)
    (h : Tri E c ((s.slot k (.vec es 0 get)).put t (.c (.own k es 0 0))) post) : Tri E c s post := fun a w hs => h a w (hs.newOwn hkx hz hk)
theorem At.newOwn {L : List Oper} {i : Nat} {K : St → Prop} {t k es : Nat} (get : Nat → List D) (hkx : anyB (Nat.beq k) E.fx = false) (hz : look s.tm t = some (.c .zero)) (hk : s.noRef k = true)
    (h : At E L i ((s.slot k (.vec es 0 get)).put t (.c (.own k es 0 0))) K) : At E L i s K := fun a w hs => h a w (hs.newOwn hkx hz hk)
theorem At.eqS {L : List Oper} {i : Nat} {K : St → Prop} (s' : St) (e : s = s') (h : At E L i s' K) : At E L i s K := e ▸ h
theorem Tri.eqS {c : Code} {post : Exit → St → Prop} (s' : St) (e : s = s') (h : Tri E c s' post) : Tri E c s post := e ▸ h
theorem At.callA {L : List Oper} {i : Nat} {K : St → Prop} {o : Oper} {cl : Call} {f : FuncId} {caps : List D} {xs args : List AV} {res : AV} (hS : Summ E.P f args [] res []) (ho : L[i]? = some o)
    (hop : o.op = .call cl) (hw : wantedB L.toArray s o = some true) (hd : dstOk E.N o.dst = true) (hc : calleeOf s cl = some (f, caps)) (hx : argsOf s cl caps = some xs) (hle : AVsArg s xs args)
    (hfl : allFlat args = true) (hsol : res.solid = true) (h : At E L (i + 1) (putO s o.dst res) K) : At E L i s K :=
  At.one ho (One.call hop hw hd hc hx hle hfl hsol hS) h
theorem AVArg.view {k es : Nat} (enc : X → List D) (xs : List X) (hk : look s.sl k = some (.vec es xs.length (fun i => enc (xs.getD i default)))) :
    AVArg s (.c (.own k es 0 xs.length)) (.c (.view es xs.length (fun i => enc (xs.getD i default)))) :=
  .c (.own hk (by omega) rfl (shift0 enc xs _))
theorem CLe.frozen {k es : Nat} {fz : List Nat} (enc : X → List D) (xs : List X) (hk : look s.sl k = some (.vec es xs.length (fun i => enc (xs.getD i default)))) (hf : k ∈ fz) :
    CLe s fz (.own k es 0 xs.length) (.d (.list es xs.length (fun i => enc (xs.getD i default)))) :=
  .own hk hf (by omega) rfl (shift0 enc xs _)
theorem Sim.vecCongr {G : Nat → Prop} {φ : Nat → Option Loc} {a : Act} {w : World} {tm : List (Nat × AV)} {sl : List (Nat × Slot)} {k es n : Nat} {get get' : Nat → List D}
    (h : Sim E ⟨tm, (k, .vec es n get) :: sl⟩ G φ a w) (hg : ∀ i, i < n → get' i = get i) : Sim E ⟨tm, (k, .vec es n get') :: sl⟩ G φ a w := by
  have hin : ∀ k' c, look ((k, Slot.vec es n get') :: sl) k' = some c → (k' = k ∧ c = .vec es n get') ∨ (k' ≠ k ∧ look ((k, Slot.vec es n get) :: sl) k' = some c) := fun k' c hc => by
    rw [look_cons] at hc
    by_cases e : k = k'
    · subst e; rw [if_pos rfl] at hc; cases hc; exact .inl ⟨rfl, rfl⟩
    · rw [if_neg e] at hc; exact .inr ⟨fun x => e x.symm, by rw [look_cons, if_neg e]; exact hc⟩
  have hk : look ((k, Slot.vec es n get) :: sl) k = some (.vec es n get) := by simp [look_cons]
  have hex : ∀ k' c, look ((k, Slot.vec es n get') :: sl) k' = some c → ∃ c0, look ((k, Slot.vec es n get) :: sl) k' = some c0 := fun k' c hc => by
    rcases hin k' c hc with ⟨rfl, _⟩ | ⟨_, h⟩
    · exact ⟨_, hk⟩
    · exact ⟨_, h⟩
  exact
  { h with
    sl := fun k' c hc => by
      rcases hin k' c hc with ⟨rfl, rfl⟩ | ⟨_, hc⟩
      · obtain ⟨h1, h2⟩ := h.sl _ _ hk
        exact ⟨h1, h2.imp id fun ⟨l, hl, hn, ht, he⟩ => ⟨l, hl, hn, ht, fun i hi => by rw [hg i hi]; exact he i hi⟩⟩
      · exact h.sl k' c hc
    inj := fun k1 k2 c1 c2 l1 l2 h1 h2 => by
      obtain ⟨_, h1⟩ := hex _ _ h1
      obtain ⟨_, h2⟩ := hex _ _ h2
      exact h.inj _ _ _ _ _ _ h1 h2
    own := fun k' c l h1 h2 => by
      obtain ⟨_, h1⟩ := hex _ _ h1
      exact h.own _ _ _ h1 h2
    fix := fun k' c hx h1 => by
      obtain ⟨_, h1⟩ := hex _ _ h1
      exact h.fix _ _ hx h1 }
theorem One.buildT {ops : Array Oper} {o : Oper} {t e : TypeId} {len es d : Nat} {parts : Array (Nat × Operand)} {z cells : List C} (enc : X → List D) (xs : List X)
    (hop : o.op = .buildSlice t len parts) (hw : wantedB ops s o = some true) (hd : o.dst = some d) (hlt : Nat.blt d E.N = true) (hnr : s.noRef d = true)
    (hu : E.P.underlying t = some (.slice e)) (hsz : sizeT E.P e = some es) (hz : zeroCells E.P e = some z) (hze : Nat.beq z.length es = true) (hes : Nat.blt 0 es = true) (hle : Nat.ble (len * es) 16777216 = true)
    (hf : fillC (fun i => some (i * es, es)) (repC z (len * es)) (parts.toList.map fun p => (p.1, evO s p.2)) = some cells) (hlen : Nat.beq xs.length len = true) (hall : AllLe s es cells (xs.map enc)) :
    One E ops o s ((s.slot d (.vec es xs.length (fun i => enc (xs.getD i default)))).put d (.c (.own d es 0 xs.length))) := by
  have hl := Nat.eq_of_beq_eq_true hlen
  refine (One.buildSlice hop hw hd hlt hnr hu hsz hz hze hes hle hf (by simpa using hlen) hall).weaken fun a w hs => ?_
  obtain ⟨G, φ, h⟩ := hs
  rw [hl]
  exact ⟨G, φ, Sim.vecCongr h fun i hi => by
    have := encs_getD enc xs i (by omega)
    rw [Nat.zero_add] at this
    exact this⟩
theorem equalIn_slice {P : Program} {w : World} {t e : TypeId} (hu : P.underlying t = some (.slice e)) (D : Nat) (A : Option Addr) (n cap : Nat) :
    (Op.equalIn (D + 1) t (.slice A n cap) (.slice none 0 0)).run P w = .ok A.isNone w := by
  simp only [Op.equalIn, Sem.run_bind, run_underlying hu, Result.andThen_ok]
  cases A <;> rfl
theorem run_eqNil {P : Program} {w : World} {t e : TypeId} {x : Operand} (hu : P.underlying t = some (.slice e)) (A : Option Addr) (n cap : Nat) :
    (do eqGuard .eql t x (.const (.slice none 0 0)) (.slice A n cap) (.slice none 0 0); Go.binOp .eql t (.slice A n cap) (.slice none 0 0) : Sem Value).run P w = .ok (.bool A.isNone) w := by
  have h1 : (eqGuard .eql t x (.const (.slice none 0 0)) (.slice A n cap) (.slice none 0 0)).run P w = .ok () w := rfl
  have h2 : (Op.equal t (.slice A n cap) (.slice none 0 0)).run P w = .ok A.isNone w := equalIn_slice hu 9999 A n cap
  have h3 : (Go.binOp .eql t (.slice A n cap) (.slice none 0 0)).run P w = .ok (.bool A.isNone) w := by
    show (do pure (.bool (← Op.equal t (.slice A n cap) (.slice none 0 0))) : Sem Value).run P w = _
    simp only [Sem.run_bind, h2, Result.andThen_ok, Sem.run_pure]
  simp only [Sem.run_bind, h1, Result.andThen_ok, h3]
theorem At.nilCase {L : List Oper} {i : Nat} {K : St → Prop} {o : Oper} {t e yt : TypeId} {x : Operand} {es n d : Nat} {get : Nat → List D} (ho : L[i]? = some o)
    (hop : o.op = .binOp .eql t x (.const (.slice none 0 0)) yt) (hw : wantedB L.toArray s o = some true) (hd : o.dst = some d) (hlt : Nat.blt d E.N = true)
    (hu : E.P.underlying t = some (.slice e)) (hx : evO s x = some (.c (.d (.list es n get))))
    (h1 : n = 0 → At E L (i + 1) (s.put d (.c (.d (.bool true)))) K) (h2 : At E L (i + 1) (s.put d (.c (.d (.bool false)))) K) : At E L i s K := fun a w hs Q hQ => by
  obtain ⟨hlt', he⟩ := List.getElem?_eq_some_iff.1 ho
  rw [List.drop_eq_getElem_cons hlt', he]
  obtain ⟨G, φ, h⟩ := hs
  unfold wpList
  rw [if_pos (wantedB_spec h hw)]
  left
  have hv : RelD G w (.list es n get) (a.eval x) := (h.ev hx).1
  have hex : execOp a.eval o = (do pure (.value (← (do eqGuard .eql t x (.const (.slice none 0 0)) (a.eval x) (.slice none 0 0); Go.binOp .eql t (a.eval x) (.slice none 0 0) : Sem Value))) : Sem Next) := by unfold execOp; rw [hop]; rfl
  have key : ∀ b, (do eqGuard .eql t x (.const (.slice none 0 0)) (a.eval x) (.slice none 0 0); Go.binOp .eql t (a.eval x) (.slice none 0 0) : Sem Value).run E.P w = .ok (.bool b) w → (b = true → n = 0) → o.wp E.P a w (wpList E.P L.toArray Q (L.drop (i + 1))) Q := fun b hb hn => by
    unfold Oper.wp
    rw [hex]
    simp only [Sem.run_bind] at hb ⊢
    rw [hb]
    simp only [Result.andThen_ok, Sem.run_pure, Oper.upon, hd]
    have hp : SimE E (s.put d (.c (.d (.bool b)))) (a.put (some d) (.bool b)) w := ⟨G, φ, h.put (Nat.blt_eq.mp hlt) (relAV_c (RelD.bool _) rfl)⟩
    cases b with
    | true => exact h1 (hn rfl) _ _ hp Q hQ
    | false => exact h2 _ _ hp Q hQ
  generalize a.eval x = u at *
  cases hv with
  | empty _ _ A cap =>
    cases A with
    | none => exact key true (run_eqNil hu _ _ _) fun _ => rfl
    | some A => exact key false (run_eqNil hu _ _ _) fun _ => rfl
  | list _ _ _ b off cap vals hG hn hm hc hl hr => exact key false (run_eqNil hu _ _ _) fun e => by cases e
theorem DOk.stepP {ops : Array Oper} {o : Oper} {x : DOp} (f : Bool → Step) {p v : Bool} (hp : p = v) (hw : ∀ r, wantedB ops (x.need.app r) o = some true) (he : ∀ r, evStep E.P (x.need.app r) o.dst o.op = some (f p)) (hc : (f v).cond)
    (hok : okDst E.N x.need o.dst (f v) = true) (hm : mksOk x.mks (f v) o.dst = true)
    (heff : ∀ r, stepSt (x.need.app r) o.dst (f v) = x.eff.app (x.need.app r)) : DOk E ops o x :=
  DOk.step (f v) hw (fun r => hp ▸ he r) hc hok hm heff
theorem DOk.callA {ops : Array Oper} {o : Oper} {x : DOp} {cl : Call} {f : FuncId} {caps : List D} {xs args : List AV} {res : AV} (hS : Summ E.P f args [] res [])
    (hop : o.op = .call cl) (hw : ∀ r, wantedB ops (x.need.app r) o = some true) (hd : dstOk E.N o.dst = true) (hc : ∀ r, calleeOf (x.need.app r) cl = some (f, caps)) (hx : ∀ r, argsOf (x.need.app r) cl caps = some xs)
    (hle : ∀ r, AVsArg (x.need.app r) xs args) (hfl : allFlat args = true) (hsol : res.solid = true) (heff : ∀ r, putO (x.need.app r) o.dst res = x.eff.app (x.need.app r)) : DOk E ops o x := DOk.one fun r _ => by
  rw [← heff r]
  exact One.call hop (hw r) hd (hc r) (hx r) (hle r) hfl hsol hS
theorem dropR_noRef {k : Nat} {cs : List C} (h : anyB (C.refs k) cs = false) : cs.map (C.dropR k) = cs := by
  have key : ∀ c ∈ cs, c.dropR k = c := fun c hc => by
    unfold C.dropR
    rw [anyB_false h c hc]
  exact (List.map_congr_left key).trans (List.map_id _)
theorem AV.dropR_noRef {k : Nat} {x : AV} (h : x.refs k = false) : x.dropR k = x := by
  cases x with
  | c x =>
    have h' : C.refs k x = false := h
    show AV.c (x.dropR k) = AV.c x
    unfold C.dropR
    rw [h']
  | agg xs => show AV.agg (xs.map (C.dropR k)) = AV.agg xs; rw [Av.dropR_noRef h]
  | tup vs =>
    show AV.tup (vs.map fun p => (p.1, p.2.map (C.dropR k))) = AV.tup vs
    have key : ∀ p ∈ vs, (fun p : Bool × List C => (p.1, p.2.map (C.dropR k))) p = p := fun p hp => by
      have := anyB_false h p hp
      simp only [Av.dropR_noRef this]
    rw [List.map_congr_left key]
    simp
theorem dropTms_noRef {k : Nat} : ∀ {l : List (Nat × AV)}, (∀ e ∈ l, e.2.refs k = false) → dropTms k l = l
  | [], _ => rfl
  | (t, x) :: l, h => by
    simp only [dropTms, AV.dropR_noRef (h (t, x) (List.mem_cons_self ..)), dropTms_noRef fun e he => h e (List.mem_cons_of_mem _ he)]
theorem dropSls_noRef {k : Nat} : ∀ {l : List (Nat × Slot)}, (∀ e ∈ l, e.1 ≠ k ∧ e.2.refs k = false) → dropSls k l = l
  | [], _ => rfl
  | (j, c) :: l, h => by
    obtain ⟨h1, h2⟩ := h (j, c) (List.mem_cons_self ..)
    have hb : Nat.beq j k = false := by
      cases hb : Nat.beq j k with
      | false => rfl
      | true => exact absurd (Nat.eq_of_beq_eq_true hb) h1
    have hc : c.dropR k = c := by
      cases c with
      | vec es n get => rfl
      | box cs => show Slot.box (cs.map (C.dropR k)) = Slot.box cs; rw [Av.dropR_noRef h2]
    simp only [dropSls, hb, hc, dropSls_noRef fun e he => h e (List.mem_cons_of_mem _ he)]
theorem dropTms_append {k : Nat} : ∀ (l r : List (Nat × AV)), dropTms k (l ++ r) = dropTms k l ++ dropTms k r
  | [], _ => rfl
  | (t, x) :: l, r => by simp only [List.cons_append, dropTms, dropTms_append l r]
theorem dropSls_append {k : Nat} : ∀ (l r : List (Nat × Slot)), dropSls k (l ++ r) = dropSls k l ++ dropSls k r
  | [], _ => rfl
  | (j, c) :: l, r => by
    simp only [List.cons_append, dropSls]
    cases Nat.beq j k <;> simp [dropSls_append l r]
theorem DOk.drop {ops : Array Oper} {o : Oper} {x : DOp} {k d : Nat} {v : Slot} {av : AV} (hk : memB k x.mks = true)
    (h : ∀ r : St, (∀ d ∈ x.mks, r.noRef d = true) → One E ops o (x.need.app r) ((((x.need.app r).drop k).slot k v).put d av))
    (h1 : (keysOf (x.eff.tm ++ x.need.tm)).map (look (x.eff.tm ++ x.need.tm)) = (keysOf (x.eff.tm ++ x.need.tm)).map (look ((d, av) :: dropTms k x.need.tm)))
    (h2 : allB (fun t => hasKey t (x.eff.tm ++ x.need.tm)) (keysOf ((d, av) :: dropTms k x.need.tm)) = true)
    (h3 : (keysOf (x.eff.sl ++ x.need.sl)).map (look (x.eff.sl ++ x.need.sl)) = (keysOf (x.eff.sl ++ x.need.sl)).map (look ((k, v) :: dropSls k x.need.sl)))
    (h4 : allB (fun t => hasKey t (x.eff.sl ++ x.need.sl)) (keysOf ((k, v) :: dropSls k x.need.sl)) = true) : DOk E ops o x := DOk.one fun r hr => by
  obtain ⟨n1, n2⟩ := St.noRef_spec (hr k (memB_iff.1 hk))
  refine (h r hr).weaken fun a w hs => hs.weaken (fun t y hy => ?_) fun t y hy => ?_
  · have e : look (x.eff.app (x.need.app r)).tm t = look (((d, av) :: dropTms k x.need.tm) ++ r.tm) t := by
      have := cover (r := r.tm) h1 h2 t
      rw [← this]
      show look (x.eff.tm ++ (x.need.tm ++ r.tm)) t = _
      rw [List.append_assoc]
    rw [e] at hy
    show look ((d, av) :: dropTms k (x.need.tm ++ r.tm)) t = some y
    rw [dropTms_append, dropTms_noRef n1]
    exact hy
  · have e : look (x.eff.app (x.need.app r)).sl t = look (((k, v) :: dropSls k x.need.sl) ++ r.sl) t := by
      have := cover (r := r.sl) h3 h4 t
      rw [← this]
      show look (x.eff.sl ++ (x.need.sl ++ r.sl)) t = _
      rw [List.append_assoc]
    rw [e] at hy
    show look ((k, v) :: dropSls k (x.need.sl ++ r.sl)) t = some y
    rw [dropSls_append, dropSls_noRef n2]
    exact hy
end
end Go.Av
/-
  Av, part X: calls that get variables of the caller's to write.
-/
namespace Go.Av
open Go
set_option linter.unusedVariables false
set_option linter.unusedSimpArgs false
def renN (ρ : List (Nat × Nat)) (k : Nat) : Nat := match look ρ k with | some k' => k' | none => k
def CC.ren (ρ : List (Nat × Nat)) : CC → CC
  | .d x => .d x
  | .ptr k o => .ptr (renN ρ k) o
def C.ren (ρ : List (Nat × Nat)) : C → C
  | .ptr k o => .ptr (renN ρ k) o
  | .vptr k es i o => .vptr (renN ρ k) es i o
  | .own k es off n => .own (renN ρ k) es off n
  | .bsl k o es n => .bsl (renN ρ k) o es n
  | .clo f n caps => .clo f n (caps.map (CC.ren ρ))
  | c => c
def AV.ren (ρ : List (Nat × Nat)) : AV → AV
  | .c x => .c (x.ren ρ)
  | .agg xs => .agg (xs.map (C.ren ρ))
  | .tup vs => .tup (vs.map fun p => (p.1, p.2.map (C.ren ρ)))
def Slot.ren (ρ : List (Nat × Nat)) : Slot → Slot
  | .box cs => .box (cs.map (C.ren ρ))
  | .vec es n get => .vec es n get
def CC.inK (ks : List Nat) : CC → Bool
  | .d _ => true
  | .ptr k _ => anyB (Nat.beq k) ks
def allC {α : Type} (f : α → Bool) : List α → Bool
  | [] => true
  | x :: r => match f x with | true => allC f r | false => false
theorem allC_mem {α : Type} {f : α → Bool} : ∀ {l : List α}, allC f l = true → ∀ x ∈ l, f x = true
  | [], _, x, hx => by cases hx
  | y :: r, h, x, hx => by
    simp only [allC] at h
    split at h
    · rename_i hy
      rcases List.mem_cons.1 hx with rfl | hx
      · exact hy
      · exact allC_mem h x hx
    · cases h
def C.lent (ks : List Nat) : C → Bool
  | .any => true
  | .d _ => true
  | .zero => true
  | .ptr k _ => anyB (Nat.beq k) ks
  | .vptr k _ _ _ => anyB (Nat.beq k) ks
  | .own k _ _ _ => anyB (Nat.beq k) ks
  | .bsl k _ _ _ => anyB (Nat.beq k) ks
  | .clo _ _ caps => allC (CC.inK ks) caps
  | _ => false
def AV.lent (ks : List Nat) : AV → Bool
  | .c x => x.lent ks
  | .agg xs => allC (C.lent ks) xs
  | .tup vs => allC (fun p : Bool × List C => allC (C.lent ks) p.2) vs
def Slot.lent (ks : List Nat) : Slot → Bool
  | .box cs => allC (C.lent ks) cs
  | .vec _ _ _ => true
theorem anyK_iff {k : Nat} {ks : List Nat} : anyB (Nat.beq k) ks = true ↔ k ∈ ks := by
  constructor
  · intro h
    induction ks with
    | nil => cases h
    | cons y r ih =>
      simp only [anyB] at h
      split at h
      · rename_i e; rw [Nat.eq_of_beq_eq_true e]; exact List.mem_cons_self ..
      · exact List.mem_cons_of_mem _ (ih h)
  · intro h; exact anyB_true h (by simp)
section
variable {G V V' : Nat → Prop} {φ ψ : Nat → Option Loc} {w : World} {ρ : List (Nat × Nat)} {ks : List Nat}
def Agree (ρ : List (Nat × Nat)) (ks : List Nat) (φ ψ : Nat → Option Loc) : Prop := ∀ k ∈ ks, ψ (renN ρ k) = φ k
theorem CC.ren_rel (ha : Agree ρ ks φ ψ) {x : CC} {v : Value} (hk : x.inK ks = true) : RelCC G ψ w (x.ren ρ) v ↔ RelCC G φ w x v := by
  cases x with
  | d x => exact Iff.rfl
  | ptr k o =>
    have := ha k (anyK_iff.1 hk)
    simp only [CC.ren, RelCC, this]
theorem C.ren_rel (ha : Agree ρ ks φ ψ) {x : C} {v : Value} (hk : x.lent ks = true) : RelC G V ψ w (x.ren ρ) v ↔ RelC G V' φ w x v := by
  cases x with
  | any => exact Iff.rfl
  | d x => exact Iff.rfl
  | zero => exact Iff.rfl
  | view es n get => cases hk
  | eptr cells => cases hk
  | ptr k o => simp only [C.ren, RelC, ha k (anyK_iff.1 hk)]
  | vptr k es i o => simp only [C.ren, RelC, ha k (anyK_iff.1 hk)]
  | own k es off n => simp only [C.ren, RelC, ha k (anyK_iff.1 hk)]
  | bsl k o es n => simp only [C.ren, RelC, ha k (anyK_iff.1 hk)]
  | clo f n caps =>
    have hk : allC (CC.inK ks) caps = true := hk
    have hm := allC_mem hk
    have key : ∀ j u, j < caps.length → (RelCC G ψ w ((caps.map (CC.ren ρ)).getD j default) u ↔ RelCC G φ w (caps.getD j default) u) := fun j u hj => by
      have e1 : caps.getD j default = caps[j] := by rw [List.getD_eq_getElem?_getD, List.getElem?_eq_getElem hj]; rfl
      have e2 : (caps.map (CC.ren ρ)).getD j default = caps[j].ren ρ := by rw [List.getD_eq_getElem?_getD, List.getElem?_map, List.getElem?_eq_getElem hj]; rfl
      rw [e1, e2]
      exact CC.ren_rel ha (hm _ (List.getElem_mem hj))
    simp only [C.ren, RelC, List.length_map]
    constructor
    · rintro ⟨vs, e, hl, hr⟩; exact ⟨vs, e, hl, fun j hj => (key j _ hj).1 (hr j hj)⟩
    · rintro ⟨vs, e, hl, hr⟩; exact ⟨vs, e, hl, fun j hj => (key j _ hj).2 (hr j hj)⟩
theorem RelCs.ren (ha : Agree ρ ks φ ψ) : ∀ {cs : List C} {vs : List Value}, allC (C.lent ks) cs = true → (RelCs (RelC G V ψ w) (cs.map (C.ren ρ)) vs ↔ RelCs (RelC G V' φ w) cs vs)
  | [], [], _ => Iff.rfl
  | c :: cs, v :: vs, h => by
    have h1 := allC_mem h c (List.mem_cons_self ..)
    have h2 : allC (C.lent ks) cs = true := by simp only [allC, h1] at h; exact h
    exact and_congr (C.ren_rel ha h1) (RelCs.ren ha h2)
  | [], _ :: _, _ => Iff.rfl
  | _ :: _, [], _ => Iff.rfl
theorem RelSs.ren (ha : Agree ρ ks φ ψ) : ∀ {xs : List (Bool × List C)} {vs : List Value}, allC (fun p : Bool × List C => allC (C.lent ks) p.2) xs = true →
    (RelSs (RelC G V ψ w) (xs.map fun p => (p.1, p.2.map (C.ren ρ))) vs ↔ RelSs (RelC G V' φ w) xs vs)
  | [], [], _ => Iff.rfl
  | p :: xs, u :: vs, h => by
    have hp := allC_mem h p (List.mem_cons_self ..)
    have h2 : allC (fun p : Bool × List C => allC (C.lent ks) p.2) xs = true := by simp only [allC, hp] at h; exact h
    refine and_congr ?_ (RelSs.ren ha h2)
    rcases p with ⟨b, cs⟩
    cases b with
    | true =>
      constructor
      · rintro ⟨us, e, g1, g2⟩; exact ⟨us, e, (RelCs.ren ha hp).1 g1, g2⟩
      · rintro ⟨us, e, g1, g2⟩; exact ⟨us, e, (RelCs.ren ha hp).2 g1, g2⟩
    | false =>
      match cs, hp with
      | [c], hp =>
        have hc := allC_mem hp c (by simp)
        exact and_congr (C.ren_rel ha hc) Iff.rfl
      | [], _ => exact Iff.rfl
      | _ :: _ :: _, _ => exact Iff.rfl
  | [], _ :: _, _ => Iff.rfl
  | _ :: _, [], _ => Iff.rfl
theorem AV.ren_rel (ha : Agree ρ ks φ ψ) {x : AV} {v : Value} (hk : x.lent ks = true) (h : RelAV (RelC G V' φ w) x v) : RelAV (RelC G V ψ w) (x.ren ρ) v := by
  cases x with
  | c x =>
    by_cases e : x = .any
    · subst e; trivial
    · have : RelS (RelC G V' φ w) (false, [x]) v := by cases x <;> first | exact h | exact (e rfl).elim
      exact relAV_c ((C.ren_rel ha hk).2 this.1) this.2
  | agg xs => obtain ⟨us, e, h1, h2⟩ := h; exact ⟨us, e, (RelCs.ren ha hk).2 h1, h2⟩
  | tup vs => obtain ⟨us, e, h1⟩ := h; exact ⟨us, e, (RelSs.ren ha hk).2 h1⟩
theorem AV.ren_back (ha : Agree ρ ks φ ψ) {x : AV} {v : Value} (hk : x.lent ks = true) (h : RelAV (RelC G V ψ w) (x.ren ρ) v) : RelAV (RelC G V' φ w) x v := by
  cases x with
  | c x =>
    by_cases e : x = .any
    · subst e; trivial
    · have hne : x.ren ρ ≠ .any := by cases x <;> first | exact (e rfl).elim | (intro h; cases h)
      have : RelS (RelC G V ψ w) (false, [x.ren ρ]) v := by
        have h : RelAV (RelC G V ψ w) (.c (x.ren ρ)) v := h
        generalize x.ren ρ = y at *
        cases y <;> first | exact h | exact (hne rfl).elim
      exact relAV_c ((C.ren_rel ha hk).1 this.1) this.2
  | agg xs => obtain ⟨us, e, h1, h2⟩ := h; exact ⟨us, e, (RelCs.ren ha hk).1 h1, h2⟩
  | tup vs => obtain ⟨us, e, h1⟩ := h; exact ⟨us, e, (RelSs.ren ha hk).1 h1⟩
theorem Slot.ren_rel (ha : Agree ρ ks φ ψ) {k : Nat} (hk : k ∈ ks) {c : Slot} (hc : c.lent ks = true) : RelSlot G V ψ w (renN ρ k) (c.ren ρ) ↔ RelSlot G V' φ w k c := by
  have e := ha k hk
  cases c with
  | vec es n get => simp only [Slot.ren, RelSlot, e]
  | box cs =>
    simp only [Slot.ren, RelSlot, e, List.length_map]
    have hc : allC (C.lent ks) cs = true := hc
    constructor
    · rintro ⟨l, hl, ht, vs, h1, h2⟩; exact ⟨l, hl, ht, vs, (RelCs.ren ha hc).1 h1, h2⟩
    · rintro ⟨l, hl, ht, vs, h1, h2⟩; exact ⟨l, hl, ht, vs, (RelCs.ren ha hc).2 h1, h2⟩
end
def keysS (sl : List (Nat × Slot)) : List Nat := sl.map (·.1)
theorem look_keys {sl : List (Nat × Slot)} {k : Nat} {c : Slot} (h : look sl k = some c) : k ∈ keysS sl := List.mem_map.2 ⟨(k, c), look_mem h, rfl⟩
theorem keys_look : ∀ {sl : List (Nat × Slot)} {k : Nat}, k ∈ keysS sl → ∃ c, look sl k = some c
  | [], k, h => by cases h
  | (j, c) :: r, k, h => by
    rw [look_cons]
    by_cases e : j = k
    · exact ⟨c, by rw [if_pos e]⟩
    · rw [if_neg e]
      rcases List.mem_cons.1 h with h | h
      · exact absurd h.symm e
      · exact keys_look h
def renSl (ρ : List (Nat × Nat)) (sl : List (Nat × Slot)) : List (Nat × Slot) := sl.map fun p => (renN ρ p.1, p.2.ren ρ)
theorem look_renSl {ρ : List (Nat × Nat)} : ∀ {sl : List (Nat × Slot)} {k' : Nat} {c' : Slot}, look (renSl ρ sl) k' = some c' → ∃ k c, k' = renN ρ k ∧ look sl k = some c ∧ c' = c.ren ρ
  | [], _, _, h => by cases h
  | (j, c) :: r, k', c', h => by
    simp only [renSl, List.map_cons, look_cons] at h
    by_cases e : renN ρ j = k'
    · rw [if_pos e] at h; cases h; exact ⟨j, c, e.symm, by rw [look_cons, if_pos rfl], rfl⟩
    · rw [if_neg e] at h
      obtain ⟨k, c1, h1, h2, h3⟩ := look_renSl (sl := r) h
      exact ⟨k, c1, h1, by rw [look_cons, if_neg (fun x => e (by rw [h1, x]))]; exact h2, h3⟩
theorem look_app {α : Type} : ∀ {l r : List (Nat × α)} {k : Nat} {x : α}, look (l ++ r) k = some x → look l k = some x ∨ (look l k = none ∧ look r k = some x)
  | [], r, k, x, h => .inr ⟨rfl, h⟩
  | (j, y) :: l, r, k, x, h => by
    simp only [List.cons_append, look_cons] at h ⊢
    by_cases e : j = k
    · rw [if_pos e] at h ⊢; exact .inl h
    · rw [if_neg e] at h ⊢; exact look_app h
def backN (ρ : List (Nat × Nat)) : List Nat → Nat → Option Nat
  | [], _ => none
  | k :: r, k' => match Nat.beq (renN ρ k) k' with | true => some k | false => backN ρ r k'
theorem backN_some {ρ : List (Nat × Nat)} : ∀ {ks : List Nat} {k k' : Nat}, backN ρ ks k' = some k → k ∈ ks ∧ renN ρ k = k'
  | [], _, _, h => by cases h
  | j :: r, k, k', h => by
    simp only [backN] at h
    split at h
    · rename_i e; cases h; exact ⟨List.mem_cons_self .., Nat.eq_of_beq_eq_true e⟩
    · obtain ⟨h1, h2⟩ := backN_some h; exact ⟨List.mem_cons_of_mem _ h1, h2⟩
theorem backN_none {ρ : List (Nat × Nat)} : ∀ {ks : List Nat} {k' : Nat}, backN ρ ks k' = none → ∀ k ∈ ks, renN ρ k ≠ k'
  | [], _, _, k, h => by cases h
  | j :: r, k', h, k, hk => by
    simp only [backN] at h
    split at h
    · cases h
    · rename_i e
      rcases List.mem_cons.1 hk with rfl | hk
      · intro x; rw [x] at e; simp at e
      · exact backN_none h k hk
def injB (ρ : List (Nat × Nat)) (ks : List Nat) : Bool := allC (fun k => allC (fun j => match Nat.beq (renN ρ k) (renN ρ j) with | true => Nat.beq k j | false => true) ks) ks
theorem injB_spec {ρ : List (Nat × Nat)} {ks : List Nat} (h : injB ρ ks = true) {k j : Nat} (hk : k ∈ ks) (hj : j ∈ ks) (e : renN ρ k = renN ρ j) : k = j := by
  have := allC_mem (allC_mem h k hk) j hj
  simp only [e, Nat.beq_refl] at this
  exact Nat.eq_of_beq_eq_true this
def CC.toAV : CC → AV
  | .d x => .c (.d x)
  | .ptr k o => .c (.ptr k o)
def calleeL (s : St) (c : Call) : Option (FuncId × Nat × List CC) :=
  match c.callee with
  | .value x => match evO s x with
    | some (.c (.d (.fn f caps))) => some (f, 0, caps.map .d)
    | some (.c (.clo f n caps)) => some (f, n, caps)
    | _ => none
  | _ => none
def argsL (s : St) (c : Call) (n : Nat) (caps : List CC) : Option (List AV) :=
  match allAV (c.args.toList.map (evO s)) with
  | some xs => some ((caps.map CC.toAV).take n ++ (xs ++ (caps.map CC.toAV).drop n))
  | none => none
def AV.refsAny (ks : List Nat) (x : AV) : Bool := anyB (fun k => x.refs k) ks
inductive AVsArgL (s : St) (ρ : List (Nat × Nat)) (ks im : List Nat) : List AV → List AV → Prop
  | nil : AVsArgL s ρ ks im [] []
  | ren {x y : AV} {xs ys : List AV} (e : x = y.ren ρ) (h : y.lent ks = true) (t : AVsArgL s ρ ks im xs ys) : AVsArgL s ρ ks im (x :: xs) (y :: ys)
  | flat {x y : AV} {xs ys : List AV} (h : AVArg s x y) (hf : y.flat = true) (hn : x.refsAny im = false) (t : AVsArgL s ρ ks im xs ys) : AVsArgL s ρ ks im (x :: xs) (y :: ys)
def LentS (s : St) (ρ : List (Nat × Nat)) (ks : List Nat) : List (Nat × Slot) → Prop
  | [] => True
  | (k, c) :: r => (look s.sl (renN ρ k) = some (c.ren ρ) ∧ c.lent ks = true) ∧ LentS s ρ ks r
theorem LentS.look {s : St} {ρ : List (Nat × Nat)} {ks : List Nat} : ∀ {sl : List (Nat × Slot)}, LentS s ρ ks sl → ∀ {k c}, Av.look sl k = some c → Av.look s.sl (renN ρ k) = some (c.ren ρ) ∧ c.lent ks = true
  | [], _, _, _, h => by cases h
  | (j, c0) :: r, ⟨h1, h2⟩, k, c, h => by
    rw [look_cons] at h
    by_cases e : j = k
    · subst e; rw [if_pos rfl] at h; cases h; exact h1
    · rw [if_neg e] at h; exact LentS.look h2 h
section
variable {E : Env} {s : St} {G : Nat → Prop} {φ : Nat → Option Loc} {a : Act} {w : World}
theorem CArg.relX (h : Sim E s G φ a w) {c c' : C} (hc : CArg s c c') {v : Value} (hv : RelC G E.V φ w c v) (hf : c'.flat = true) {X : Nat → Prop} (hX : ∀ b, E.V b → X b)
    (hS : ∀ k sc l, c.refs k = true → look s.sl k = some sc → φ k = some l → X l.blk) {ψ : Nat → Option Loc} : RelC G X ψ w c' v := by
  cases hc with
  | le hc => exact (C.flat_rel hf hX ((CLe.rel h hc hv).mono (Same.refl _ _) (Same.refl _ _) (fun _ hb => withF_nil hb) fun _ _ => rfl))
  | @own k es off m m' n get get' hk hm hm' hg =>
    subst hm'
    rcases hv with ⟨h0, A, rfl⟩ | ⟨l, hl, hle, rfl⟩
    · exact .inl ⟨h0, A, 0, rfl⟩
    · obtain ⟨hmx, hs | ⟨l', hl', hn, _, he⟩⟩ := h.sl _ _ hk
      · rw [hl] at hs; cases hs.1
      · rw [hl] at hl'; cases hl'
        refine .inr ⟨l.blk, _, _, .inr (hS k _ l (by simp [C.refs]) hk hl), rfl, by omega, by omega, fun i hi => ?_⟩
        rw [hg i hi]
        exact he.part hm i hi
  | @bsl k o es n n' cs ds get' hk hd hl' hn hmx hg =>
    cases hn
    have h2 := CArg.rel h (.bsl hk hd hl' rfl hmx hg) hv rfl (ψ := ψ)
    obtain ⟨l, cap, hl, hc, rfl⟩ := hv
    rcases h2 with ⟨h0, A, cap', e⟩ | ⟨b, off, cap', _, e, g1, g2, g3⟩
    · cases e; exact .inl ⟨rfl, _, _, rfl⟩
    · cases e
      exact .inr ⟨_, _, _, .inr (hS k _ l (by simp [C.refs]) hk hl), rfl, g1, g2, g3⟩
theorem CsArg.relX (h : Sim E s G φ a w) {cs cs' : List C} (hc : CsArg s cs cs') {X : Nat → Prop} (hX : ∀ b, E.V b → X b) {ψ : Nat → Option Loc} :
    ∀ {vs : List Value}, (∀ c ∈ cs, ∀ k sc l, c.refs k = true → look s.sl k = some sc → φ k = some l → X l.blk) → (∀ c ∈ cs', c.flat = true) → RelCs (RelC G E.V φ w) cs vs → RelCs (RelC G X ψ w) cs' vs := by
  induction hc with
  | refl cs =>
    intro vs hS hf hv
    have key : ∀ (cs : List C) (vs : List Value), (∀ c ∈ cs, ∀ k sc l, c.refs k = true → look s.sl k = some sc → φ k = some l → X l.blk) → (∀ c ∈ cs, c.flat = true) → RelCs (RelC G E.V φ w) cs vs → RelCs (RelC G X ψ w) cs vs := by
      intro cs
      induction cs with
      | nil => intro vs _ _ hv; cases vs with | nil => trivial | cons _ _ => exact hv.elim
      | cons c cs ih =>
        intro vs hS hf hv
        cases vs with
        | nil => exact hv.elim
        | cons v vs => exact ⟨CArg.relX h (.le (.refl c)) hv.1 (hf _ (List.mem_cons_self ..)) hX (hS _ (List.mem_cons_self ..)), ih vs (fun c hc => hS c (List.mem_cons_of_mem _ hc)) (fun c hc => hf c (List.mem_cons_of_mem _ hc)) hv.2⟩
    exact key cs vs hS hf hv
  | nil => intro vs _ _ hv; cases vs with | nil => trivial | cons _ _ => exact hv.elim
  | cons hc _ ih =>
    intro vs hS hf hv
    cases vs with
    | nil => exact hv.elim
    | cons v vs => exact ⟨CArg.relX h hc hv.1 (hf _ (List.mem_cons_self ..)) hX (hS _ (List.mem_cons_self ..)), ih (fun c hc => hS c (List.mem_cons_of_mem _ hc)) (fun c hc => hf c (List.mem_cons_of_mem _ hc)) hv.2⟩
theorem AV.refs_of_cell {k : Nat} {x : AV} {c : C} (hc : c ∈ x.cells) (h : c.refs k = true) : x.refs k = true := by
  cases e : x.refs k with
  | true => rfl
  | false => rw [AV.refs_cells e c hc] at h; cases h
theorem AVArg.relX (h : Sim E s G φ a w) {x x' : AV} (hx : AVArg s x x') (hf : x'.flat = true) {v : Value} (hv : RAV E G φ w x v) {X : Nat → Prop} (hX : ∀ b, E.V b → X b)
    (hS : ∀ k sc l, x.refs k = true → look s.sl k = some sc → φ k = some l → X l.blk) {ψ : Nat → Option Loc} : RelAV (RelC G X ψ w) x' v := by
  have hcl := AV.flat_cells hf
  cases hx with
  | refl => exact hv.mono fun c hc v hcv => CArg.relX h (.le (.refl c)) hcv (hcl c hc) hX fun k sc l hr => hS k sc l (AV.refs_of_cell hc hr)
  | @c p q hc =>
    have hq : q.flat = true := hf
    by_cases e : p = .any
    · subst e
      cases hc with
      | le hc => cases hc <;> trivial
    · obtain ⟨h1, h2⟩ := relAV_ptr hv e
      exact relAV_c (hc.relX h h1 hq hX hS) h2
  | agg hc => obtain ⟨us, e, h1, h2⟩ := hv; exact ⟨us, e, hc.relX h hX (fun c hm k sc l hr => hS k sc l (AV.refs_of_cell hm hr)) hcl h1, h2⟩
theorem AVsArgL.rel (h : Sim E s G φ a w) {ρ : List (Nat × Nat)} {ks im : List Nat} {xs ys : List AV} (hx : AVsArgL s ρ ks im xs ys) {X : Nat → Prop} (hX : ∀ b, E.V b → X b)
    (hS : ∀ k sc l, k ∉ im → look s.sl k = some sc → φ k = some l → X l.blk) : ∀ {vs : List Value}, RelAVs (RelC G E.V φ w) xs vs → RelAVs (RelC G X (fun k => φ (renN ρ k)) w) ys vs := by
  induction hx with
  | nil => intro vs hv; cases vs with | nil => trivial | cons _ _ => exact hv.elim
  | ren e hk _ ih =>
    intro vs hv
    cases vs with
    | nil => exact hv.elim
    | cons v vs => subst e; exact ⟨AV.ren_back (fun k _ => rfl) hk hv.1, ih hv.2⟩
  | flat hc hf hn _ ih =>
    intro vs hv
    cases vs with
    | nil => exact hv.elim
    | cons v vs => exact ⟨hc.relX h hf hv.1 hX (fun k sc l hr => hS k sc l (fun hm => by have := anyB_false hn k hm; rw [this] at hr; cases hr)), ih hv.2⟩
theorem ccaps_rel : ∀ {caps : List CC} {us : List Value}, caps.length = us.length → (∀ j, j < caps.length → RelCC G φ w (caps.getD j default) (us.getD j undef)) → RelAVs (RelC G E.V φ w) (caps.map CC.toAV) us
  | [], [], _, _ => trivial
  | x :: xs, u :: us, hl, h => by
    refine ⟨?_, ccaps_rel (by simpa using hl) fun j hj => by have := h (j + 1) (by simpa using hj); simpa using this⟩
    have h0 : RelCC G φ w x u := by have := h 0 (by simp); simpa using this
    cases x with
    | d x => exact relAV_c (x := .d x) h0 (RelD.one h0)
    | ptr k o => obtain ⟨l, hl', rfl⟩ := h0; exact relAV_c (x := .ptr k o) ⟨l, hl', rfl⟩ rfl
  | [], _ :: _, hl, _ => by simp at hl
  | _ :: _, [], hl, _ => by simp at hl
theorem RelAVs.take {R : C → Value → Prop} : ∀ {xs : List AV} {vs : List Value}, RelAVs R xs vs → ∀ n, RelAVs R (xs.take n) (vs.take n)
  | [], [], _, n => by simp [RelAVs]
  | _ :: _, _ :: _, ⟨h1, h2⟩, n => by
    cases n with
    | zero => simp [RelAVs]
    | succ n => exact ⟨h1, RelAVs.take h2 n⟩
  | [], _ :: _, h, _ => h.elim
  | _ :: _, [], h, _ => h.elim
theorem RelAVs.drop {R : C → Value → Prop} : ∀ {xs : List AV} {vs : List Value}, RelAVs R xs vs → ∀ n, RelAVs R (xs.drop n) (vs.drop n)
  | [], [], _, n => by simp [RelAVs]
  | _ :: _, _ :: _, ⟨h1, h2⟩, n => by
    cases n with
    | zero => exact ⟨h1, h2⟩
    | succ n => exact RelAVs.drop h2 n
  | [], _ :: _, h, _ => h.elim
  | _ :: _, [], h, _ => h.elim
theorem call_argsL (h : Sim E s G φ a w) {c : Call} {f : FuncId} {n : Nat} {caps : List CC} {xs : List AV} (hc : calleeL s c = some (f, n, caps)) (hx : argsL s c n caps = some xs) (ty : TypeId) :
    ∃ vs : List Value, (∀ w, (do let d ← resolve a.eval c ty; invoke d.target d.args : Sem Next).run E.P w = (callFunc f vs.toArray).run E.P w) ∧ RelAVs (RelC G E.V φ w) xs vs := by
  obtain ⟨cal, args, ats⟩ := c
  unfold calleeL at hc
  simp only at hc
  have key : ∀ (x : Operand) (us : List Value), a.eval x = .func (.func f) (us.take n).toArray (us.drop n).toArray → cal = .value x → RelAVs (RelC G E.V φ w) (caps.map CC.toAV) us →
      ∃ vs : List Value, (∀ w, (do let d ← resolve a.eval ⟨cal, args, ats⟩ ty; invoke d.target d.args : Sem Next).run E.P w = (callFunc f vs.toArray).run E.P w) ∧ RelAVs (RelC G E.V φ w) xs vs := fun x us hu hcal hr => by
    simp only [argsL] at hx
    split at hx
    · rename_i ys hys
      cases hx
      have h1 := allAV_rel h hys
      refine ⟨us.take n ++ (args.toList.map a.eval ++ us.drop n), fun w => ?_, (hr.take n).append (h1.append (hr.drop n))⟩
      subst hcal
      simp only [resolve, Deferred.ofValue, hu, Sem.run_bind, Sem.run_pure, Result.andThen_ok, invoke]
      congr 2
      apply Array.ext'
      simp
    · cases hx
  split at hc
  · rename_i cal' x
    split at hc
    · rename_i f' caps' hv
      cases hc
      have hfv : RelD G w (.fn f caps') (a.eval x) := (h.ev hv).1
      generalize hu : a.eval x = u at hfv
      cases hfv with
      | fn _ _ us hl hr =>
        refine key x us (by simpa using hu) rfl (ccaps_rel (by simpa using hl) fun j hj => ?_)
        have hj' : j < caps'.length := by simpa using hj
        have : (caps'.map CC.d).getD j default = CC.d (D.at caps' j) := by simp [D.at, List.getD_eq_getElem?_getD, List.getElem?_map, List.getElem?_eq_getElem hj']
        rw [this]
        exact hr j hj'
    · rename_i f' n' caps' hv
      cases hc
      obtain ⟨us, hu, hl, hr⟩ := (h.ev hv).1
      exact key x us hu rfl (ccaps_rel hl hr)
    · cases hc
  · cases hc
def oddK (l r : List Nat) : List Nat := (l.filter fun k => !anyB (Nat.beq k) r) ++ (r.filter fun k => !anyB (Nat.beq k) l)
theorem oddK_mem {l r : List Nat} {k : Nat} (h : k ∈ l ++ r) : k ∈ oddK l r ∨ (k ∈ l ∧ k ∈ r) := by
  unfold oddK
  by_cases h1 : k ∈ l
  · by_cases h2 : k ∈ r
    · exact .inr ⟨h1, h2⟩
    · refine .inl (List.mem_append_left _ (List.mem_filter.2 ⟨h1, ?_⟩))
      cases e : anyB (Nat.beq k) r with
      | true => exact absurd (anyK_iff.1 e) h2
      | false => rfl
  · rcases List.mem_append.1 h with h | h
    · exact absurd h h1
    · refine .inl (List.mem_append_right _ (List.mem_filter.2 ⟨h, ?_⟩))
      cases e : anyB (Nat.beq k) l with
      | true => exact absurd (anyK_iff.1 e) h1
      | false => rfl
def lkOk (lk im im' : List Nat) : Bool := match allC (fun k => anyB (Nat.beq k) lk) im' with | true => true | false => !anyB (fun k => anyB (Nat.beq k) lk) im
theorem One.callL {ops : Array Oper} {o : Oper} {cl : Call} {f : FuncId} {nf : Nat} {caps : List CC} {xs args : List AV} {res : AV} {sl sl' : List (Nat × Slot)} (ρ : List (Nat × Nat)) (s0 : St)
    (hS : Summ E.P f args sl res sl') (hop : o.op = .call cl) (hw : wantedB ops s o = some true) (hd : dstOk E.N o.dst = true) (hc : calleeL s cl = some (f, nf, caps)) (hx : argsL s cl nf caps = some xs)
    (hle : AVsArgL s ρ (keysS sl) ((keysS sl).map (renN ρ)) xs args) (hsl : LentS s ρ (keysS sl) sl) (hinj : injB ρ (keysS sl) = true) (hinj' : injB ρ (keysS sl') = true) (hres : res.lent (keysS sl') = true)
    (hsl' : allC (fun p : Nat × Slot => p.2.lent (keysS sl')) sl' = true) (h0t : ∀ t x, look s0.tm t = some x → look s.tm t = some x) (h0s : ∀ t x, look s0.sl t = some x → look s.sl t = some x)
    (hk0 : allC (fun k => match look s0.sl (renN ρ k) with | some _ => false | none => true) (keysS sl ++ keysS sl') = true) (hodd : allC (fun k => s0.noRef (renN ρ k)) (oddK (keysS sl) (keysS sl')) = true)
    (hfx : allC (fun k => !anyB (Nat.beq (renN ρ k)) E.fx) (oddK (keysS sl) (keysS sl')) = true) (hlk : lkOk E.lk ((keysS sl).map (renN ρ)) ((keysS sl').map (renN ρ)) = true) :
    One E ops o s (putO ⟨s0.tm, renSl ρ sl' ++ s0.sl⟩ o.dst (res.ren ρ)) := fun a w hs => by
  obtain ⟨G, φ, hs⟩ := hs
  obtain ⟨vs, hrun, hrel⟩ := call_argsL hs hc hx o.type
  let ψ : Nat → Option Loc := fun k => φ (renN ρ k)
  -- the lent blocks
  have lentB : ∀ b, Blks ψ sl b → ∃ k c l, look s.sl (renN ρ k) = some c ∧ k ∈ keysS sl ∧ φ (renN ρ k) = some l ∧ b = l.blk := fun b ⟨k, c, l, h1, h2, h3⟩ => ⟨k, _, l, (hsl.look h1).1, look_keys h1, h2, h3⟩
  have nG : ∀ b, G b → ¬ Blks ψ sl b := fun b hb hB => by
    obtain ⟨k, c, l, h1, _, h2, rfl⟩ := lentB b hB
    exact (hs.own _ _ _ h1 h2).1 hb
  have nV : ∀ b, E.V b → ¬ Blks ψ sl b := fun b hb hB => by
    obtain ⟨k, c, l, h1, _, h2, rfl⟩ := lentB b hB
    exact (hs.own _ _ _ h1 h2).2.1 hb
  have vlt : ∀ b, E.V b → b < w.heap.size := fun b hb => Nat.lt_of_lt_of_le (hs.vsz b hb).1 hs.kp.size
  have nS : ∀ k sc l, k ∉ (keysS sl).map (renN ρ) → look s.sl k = some sc → φ k = some l → ¬ Blks ψ sl l.blk := fun k sc l hk h1 h2 hB => by
    obtain ⟨j, c, l', g1, g2, g3, g4⟩ := lentB _ hB
    exact hk (List.mem_map.2 ⟨j, g2, (hs.inj _ _ _ _ _ _ h1 g1 h2 g3 g4).symm⟩)
  have hargs := hle.rel hs (X := fun b => b < w.heap.size ∧ ¬ Blks ψ sl b) (fun b hb => ⟨vlt b hb, nV b hb⟩) (fun k sc l hk h1 h2 => ⟨(hs.own _ _ _ h1 h2).2.2.1, nS k sc l hk h1 h2⟩) hrel
  have hslots : SlotsOk G (fun b => b < w.heap.size ∧ ¬ Blks ψ sl b) ψ w sl :=
    { rel := fun k c hk => by
        obtain ⟨h1, h2⟩ := hsl.look hk
        exact (Slot.ren_rel (fun _ _ => rfl) (look_keys hk) h2).1 (hs.sl _ _ h1)
      inj := fun k k' c c' l l' h1 h2 h3 h4 h5 => by
        have := hs.inj _ _ _ _ _ _ (hsl.look h1).1 (hsl.look h2).1 h3 h4 h5
        exact injB_spec hinj (look_keys h1) (look_keys h2) this
      own := fun k c l h1 h2 => by
        have := hs.own _ _ _ (hsl.look h1).1 h2
        exact ⟨this.1, this.2.2.1⟩ }
  have hact := hS G ψ w vs hs.gsz hslots hargs
  refine ⟨wantedB_spec hs hw, fun next Q hn => ?_⟩
  unfold Oper.wp
  have he : execOp a.eval o = (do let d ← resolve a.eval cl o.type; invoke d.target d.args : Sem Next) := by
    unfold execOp; rw [hop]
  rw [he, hrun]
  refine acts_upon hact fun e w' ⟨v, G', φ', he, hd'⟩ => ⟨v, he, ?_⟩
  let χ : Nat → Option Loc := fun k' => match backN ρ (keysS sl') k' with | some k => φ' k | none => φ k'
  have hagree : Agree ρ (keysS sl') φ' χ := fun k hk => by
    show (match backN ρ (keysS sl') (renN ρ k) with | some k => φ' k | none => φ (renN ρ k)) = φ' k
    cases hb : backN ρ (keysS sl') (renN ρ k) with
    | none => exact absurd rfl (backN_none hb k hk)
    | some j =>
      obtain ⟨h1, h2⟩ := backN_some hb
      rw [injB_spec hinj' h1 hk h2]
  have hsame : ∀ b, b < w.heap.size → ¬ Blks ψ sl b → w'.heap[b]? = w.heap[b]? := fun b h1 h2 => hd'.kp.block b h1 h2
  have sg : Same G w w' := fun b hb => hsame b (hs.gsz b hb) (nG b hb)
  have sv : Same E.V w w' := fun b hb => hsame b (vlt b hb) (nV b hb)
  -- what is spoken of in s0
  have hχ : ∀ k', (s0.noRef k' = false) → χ k' = φ k' ∨ False := fun k' hr => by
    show (match backN ρ (keysS sl') k' with | some k => φ' k | none => φ k') = φ k' ∨ False
    cases hb : backN ρ (keysS sl') k' with
    | none => exact .inl rfl
    | some k =>
      obtain ⟨h1, rfl⟩ := backN_some hb
      rcases oddK_mem (l := keysS sl) (r := keysS sl') (List.mem_append_right _ h1) with h | ⟨h2, _⟩
      · rw [allC_mem hodd k h] at hr; cases hr
      · obtain ⟨c, hc⟩ := keys_look h2
        obtain ⟨c', hc'⟩ := keys_look h1
        exact .inl (hd'.fix k c c' hc hc')
  have tmRef : ∀ t x, look s0.tm t = some x → ∀ c ∈ x.cells, ∀ k, c.refs k = true → χ k = φ k := fun t x hx c hc k hk => by
    refine (hχ k ?_).resolve_right id
    cases e : s0.noRef k with
    | false => rfl
    | true => rw [AV.refs_cells ((St.noRef_spec e).1 _ (look_mem hx)) c hc] at hk; cases hk
  have slRef : ∀ j c, look s0.sl j = some c → ∀ k, Slot.refs k c = true → χ k = φ k := fun j c hc k hk => by
    refine (hχ k ?_).resolve_right id
    cases e : s0.noRef k with
    | false => rfl
    | true => rw [((St.noRef_spec e).2 _ (look_mem hc)).2] at hk; cases hk
  have slNot : ∀ j c, look s0.sl j = some c → ∀ k ∈ keysS sl ++ keysS sl', renN ρ k ≠ j := fun j c hc k hk e => by
    have := allC_mem hk0 k hk
    rw [e, hc] at this
    cases this
  have slχ : ∀ j c, look s0.sl j = some c → χ j = φ j := fun j c hc => by
    show (match backN ρ (keysS sl') j with | some k => φ' k | none => φ j) = φ j
    cases hb : backN ρ (keysS sl') j with
    | none => rfl
    | some k =>
      obtain ⟨h1, h2⟩ := backN_some hb
      exact absurd h2 (slNot j c hc k (List.mem_append_right _ h1))
  have slB : ∀ j c l, look s0.sl j = some c → φ j = some l → l.blk < w.heap.size ∧ ¬ Blks ψ sl l.blk := fun j c l hc hl =>
    ⟨(hs.own _ _ _ (h0s _ _ hc) hl).2.2.1, nS j c l (fun hm => by
      obtain ⟨k, hk, e⟩ := List.mem_map.1 hm
      exact slNot j c hc k (List.mem_append_left _ hk) e) (h0s _ _ hc) hl⟩
  -- the slots that came back
  have hin : ∀ k' c', look (renSl ρ sl' ++ s0.sl) k' = some c' → (∃ k c, k' = renN ρ k ∧ look sl' k = some c ∧ c' = c.ren ρ) ∨ look s0.sl k' = some c' := fun k' c' h => by
    rcases look_app h with h | ⟨_, h⟩
    · exact .inl (look_renSl h)
    · exact .inr h
  have newB : ∀ k c l, look sl' k = some c → φ' k = some l → Blks ψ sl l.blk ∨ w.heap.size ≤ l.blk := hd'.blk
  have hsim : Sim E ⟨s0.tm, renSl ρ sl' ++ s0.sl⟩ G' χ a w' :=
    { hs with
      tm := fun t x hx => by
        obtain ⟨u, hu, hr⟩ := hs.tm t x (h0t t x hx)
        exact ⟨u, hu, hr.mono fun c hc v hcv => hcv.mono sg sv hd'.up (tmRef t x hx c hc)⟩
      sl := fun k' c' hk' => by
        rcases hin k' c' hk' with ⟨k, c, rfl, hc, rfl⟩ | h
        · exact (Slot.ren_rel hagree (look_keys hc) (allC_mem hsl' (k, c) (look_mem hc))).2 (hd'.slots.rel k c hc)
        · exact (hs.sl _ _ (h0s _ _ h)).mono sg sv hd'.up (slχ _ _ h) (slRef _ _ h) fun l hl => by
            obtain ⟨h1, h2⟩ := slB _ _ _ h hl
            exact hsame _ h1 h2
      inj := fun k1 k2 c1 c2 l1 l2 h1 h2 e1 e2 eb => by
        rcases hin _ _ h1 with ⟨j1, d1, rfl, g1, _⟩ | g1 <;> rcases hin _ _ h2 with ⟨j2, d2, rfl, g2, _⟩ | g2
        · rw [hagree _ (look_keys g1)] at e1
          rw [hagree _ (look_keys g2)] at e2
          rw [hd'.slots.inj _ _ _ _ _ _ g1 g2 e1 e2 eb]
        · rw [hagree _ (look_keys g1)] at e1
          rw [slχ _ _ g2] at e2
          obtain ⟨q1, q2⟩ := slB _ _ _ g2 e2
          rcases newB _ _ _ g1 e1 with hb | hb
          · rw [eb] at hb; exact absurd hb q2
          · omega
        · rw [hagree _ (look_keys g2)] at e2
          rw [slχ _ _ g1] at e1
          obtain ⟨q1, q2⟩ := slB _ _ _ g1 e1
          rcases newB _ _ _ g2 e2 with hb | hb
          · rw [← eb] at hb; exact absurd hb q2
          · omega
        · rw [slχ _ _ g1] at e1
          rw [slχ _ _ g2] at e2
          exact hs.inj _ _ _ _ _ _ (h0s _ _ g1) (h0s _ _ g2) e1 e2 eb
      own := fun k' c' l h1 h2 => by
        rcases hin _ _ h1 with ⟨k, c, rfl, g1, _⟩ | g1
        · rw [hagree _ (look_keys g1)] at h2
          obtain ⟨o1, o2⟩ := hd'.slots.own k c l g1 h2
          rcases newB _ _ _ g1 h2 with hb | hb
          · refine ⟨o1, fun hv => nV _ hv hb, o2, ?_⟩
            obtain ⟨j, cj, lj, q1, q2, q3, q4⟩ := lentB _ hb
            rcases (hs.own _ _ _ q1 q3).2.2.2 with p | ⟨p1, p2⟩
            · exact .inl (by omega)
            · refine .inr ⟨?_, by rw [q4]; exact p2⟩
              unfold lkOk at hlk
              split at hlk
              · rename_i hall
                exact anyK_iff.1 (allC_mem hall _ (List.mem_map.2 ⟨k, look_keys g1, rfl⟩))
              · have : anyB (fun k => anyB (Nat.beq k) E.lk) ((keysS sl).map (renN ρ)) = true := anyB_true (List.mem_map.2 ⟨j, q2, rfl⟩) (anyK_iff.2 p1)
                rw [this] at hlk; cases hlk
          · exact ⟨o1, fun hv => by have := vlt _ hv; omega, o2, .inl (Nat.le_trans hs.kp.size hb)⟩
        · rw [slχ _ _ g1] at h2
          obtain ⟨o1, o2, o3, o4⟩ := hs.own _ _ _ (h0s _ _ g1) h2
          refine ⟨fun hg => ?_, o2, Nat.lt_of_lt_of_le o3 hd'.kp.size, o4⟩
          rcases hd'.fr _ hg with hg | hg
          · exact o1 hg
          · omega
      gsz := hd'.sz
      g0 := fun b hb => hd'.up _ (hs.g0 b hb)
      gf := fun b hb => by
        rcases hd'.fr b hb with hb | hb
        · exact hs.gf b hb
        · exact .inr (Nat.le_trans hs.kp.size hb)
      kp := hs.kp.trans ⟨hd'.kp.os, hd'.kp.tape, hd'.kp.output, hd'.kp.size, fun b hb hL => hsame b (Nat.lt_of_lt_of_le hb hs.kp.size) fun hB => by
        obtain ⟨k, c, l, h1, _, h2, rfl⟩ := lentB b hB
        rcases (hs.own _ _ _ h1 h2).2.2.2 with p | p
        · omega
        · exact hL p.2⟩
      fix := fun k' c' hfx' h1 => by
        rcases hin _ _ h1 with ⟨k, c, rfl, g1, _⟩ | g1
        · rw [hagree _ (look_keys g1)]
          rcases oddK_mem (l := keysS sl) (r := keysS sl') (List.mem_append_right _ (look_keys g1)) with h | ⟨h2, _⟩
          · have := allC_mem hfx k h
            rw [anyK_iff.2 hfx'] at this; cases this
          · obtain ⟨c0, hc0⟩ := keys_look h2
            rw [hd'.fix k c0 c hc0 g1]
            exact hs.fix _ _ hfx' (hsl.look hc0).1
        · rw [slχ _ _ g1]
          exact hs.fix _ _ hfx' (h0s _ _ g1) }
  have hresr : RAV E G' χ w' (res.ren ρ) v := AV.ren_rel hagree hres hd'.rel
  refine hn _ _ ⟨G', χ, ?_⟩
  cases hdd : o.dst with
  | none => exact hsim
  | some d =>
    rw [hdd] at hd
    exact hsim.put (Nat.blt_eq.mp hd) hresr
theorem At.callL {L : List Oper} {i : Nat} {K : St → Prop} {o : Oper} {cl : Call} {f : FuncId} {nf : Nat} {caps : List CC} {xs args : List AV} {res : AV} {sl sl' : List (Nat × Slot)} (ρ : List (Nat × Nat)) (tk sk : List Nat) {s0 : St}
    (hS : Summ E.P f args sl res sl') (ho : L[i]? = some o) (hop : o.op = .call cl) (hw : wantedB L.toArray s o = some true) (hd : dstOk E.N o.dst = true) (hc : calleeL s cl = some (f, nf, caps)) (hx : argsL s cl nf caps = some xs)
    (hle : AVsArgL s ρ (keysS sl) ((keysS sl).map (renN ρ)) xs args) (hsl : LentS s ρ (keysS sl) sl) (hinj : injB ρ (keysS sl) = true) (hinj' : injB ρ (keysS sl') = true) (hres : res.lent (keysS sl') = true)
    (hsl' : allC (fun p : Nat × Slot => p.2.lent (keysS sl')) sl' = true) (hk : Av.keep tk sk s = some s0)
    (hk0 : allC (fun k => match look s0.sl (renN ρ k) with | some _ => false | none => true) (keysS sl ++ keysS sl') = true) (hodd : allC (fun k => s0.noRef (renN ρ k)) (oddK (keysS sl) (keysS sl')) = true)
    (hfx : allC (fun k => !anyB (Nat.beq (renN ρ k)) E.fx) (oddK (keysS sl) (keysS sl')) = true) (hlk : lkOk E.lk ((keysS sl).map (renN ρ)) ((keysS sl').map (renN ρ)) = true)
    (s' : St) (he : putO ⟨s0.tm, renSl ρ sl' ++ s0.sl⟩ o.dst (res.ren ρ) = s') (h : At E L (i + 1) s' K) : At E L i s K := by
  have hk2 : (∀ t x, look s0.tm t = some x → look s.tm t = some x) ∧ ∀ t x, look s0.sl t = some x → look s.sl t = some x := by
    unfold Av.keep at hk
    split at hk
    · rename_i tm h1
      split at hk
      · rename_i sl h2
        cases hk
        exact ⟨pickK_look h1, pickK_look h2⟩
      · cases hk
    · cases hk
  exact At.one ho (One.callL ρ s0 hS hop hw hd hc hx hle hsl hinj hinj' hres hsl' hk2.1 hk2.2 hk0 hodd hfx hlk) (he ▸ h)
theorem C.ren_to {V : Nat → Prop} {ψ : Nat → Option Loc} {ρ : List (Nat × Nat)} {x : C} {v : Value} (h : RelC G V φ w x v) (hφ : ∀ k, x.refs k = true → ψ (renN ρ k) = φ k) : RelC G V ψ w (x.ren ρ) v := by
  cases x with
  | any => trivial
  | d x => exact h
  | zero => exact h
  | view es n get => exact h
  | eptr cells => exact h
  | ptr k o => simp only [C.ren, RelC, hφ k (by simp [C.refs])]; exact h
  | vptr k es i o => simp only [C.ren, RelC, hφ k (by simp [C.refs])]; exact h
  | own k es off n => simp only [C.ren, RelC, hφ k (by simp [C.refs])]; exact h
  | bsl k o es n => simp only [C.ren, RelC, hφ k (by simp [C.refs])]; exact h
  | clo f n caps =>
    obtain ⟨vs, e, hl, hr⟩ := h
    refine ⟨vs, e, by simpa using hl, fun j hj => ?_⟩
    have hj : j < caps.length := by simpa using hj
    have e1 : caps.getD j default = caps[j] := by rw [List.getD_eq_getElem?_getD, List.getElem?_eq_getElem hj]; rfl
    have e2 : (caps.map (CC.ren ρ)).getD j default = caps[j].ren ρ := by rw [List.getD_eq_getElem?_getD, List.getElem?_map, List.getElem?_eq_getElem hj]; rfl
    have := hr j hj
    rw [e1] at this
    rw [e2]
    have hm : caps[j] ∈ caps := List.getElem_mem hj
    generalize caps[j] = c at *
    cases c with
    | d x => exact this
    | ptr k o =>
      have : ψ (renN ρ k) = φ k := hφ k (anyB_true (f := CC.refs k) hm (by simp [CC.refs]))
      simp only [CC.ren, RelCC, this]
      assumption
theorem RelCs.ren_to {V : Nat → Prop} {ψ : Nat → Option Loc} {ρ : List (Nat × Nat)} : ∀ {cs : List C} {vs : List Value}, (∀ c ∈ cs, ∀ k, c.refs k = true → ψ (renN ρ k) = φ k) → RelCs (RelC G V φ w) cs vs → RelCs (RelC G V ψ w) (cs.map (C.ren ρ)) vs
  | [], [], _, _ => trivial
  | c :: cs, v :: vs, hφ, h => ⟨C.ren_to h.1 (hφ c (List.mem_cons_self ..)), RelCs.ren_to (fun c hc => hφ c (List.mem_cons_of_mem _ hc)) h.2⟩
  | [], _ :: _, _, h => h.elim
  | _ :: _, [], _, h => h.elim
theorem RelSs.ren_to {V : Nat → Prop} {ψ : Nat → Option Loc} {ρ : List (Nat × Nat)} : ∀ {xs : List (Bool × List C)} {vs : List Value}, (∀ p ∈ xs, ∀ c ∈ p.2, ∀ k, c.refs k = true → ψ (renN ρ k) = φ k) → RelSs (RelC G V φ w) xs vs →
    RelSs (RelC G V ψ w) (xs.map fun p => (p.1, p.2.map (C.ren ρ))) vs
  | [], [], _, _ => trivial
  | p :: xs, u :: vs, hφ, h => by
    refine ⟨?_, RelSs.ren_to (fun p hp => hφ p (List.mem_cons_of_mem _ hp)) h.2⟩
    have hp := hφ p (List.mem_cons_self ..)
    have hx := h.1
    rcases p with ⟨b, cs⟩
    cases b with
    | true => obtain ⟨us, e, g1, g2⟩ := hx; exact ⟨us, e, RelCs.ren_to hp g1, g2⟩
    | false =>
      match cs, hp, hx with
      | [c], hp, hx => exact ⟨C.ren_to hx.1 (hp c (by simp)), hx.2⟩
      | [], _, hx => exact hx.elim
      | _ :: _ :: _, _, hx => exact hx.elim
  | [], _ :: _, _, h => h.elim
  | _ :: _, [], _, h => h.elim
theorem AV.ren_to {V : Nat → Prop} {ψ : Nat → Option Loc} {ρ : List (Nat × Nat)} {x : AV} {v : Value} (h : RelAV (RelC G V φ w) x v) (hφ : ∀ k, x.refs k = true → ψ (renN ρ k) = φ k) : RelAV (RelC G V ψ w) (x.ren ρ) v := by
  have hc : ∀ c ∈ x.cells, ∀ k, c.refs k = true → ψ (renN ρ k) = φ k := fun c hc k hk => hφ k (AV.refs_of_cell hc hk)
  cases x with
  | c x =>
    by_cases e : x = .any
    · subst e; trivial
    · have : RelS (RelC G V φ w) (false, [x]) v := by cases x <;> first | exact h | exact (e rfl).elim
      exact relAV_c (C.ren_to this.1 (hc x (by simp [AV.cells]))) this.2
  | agg xs => obtain ⟨us, e, h1, h2⟩ := h; exact ⟨us, e, RelCs.ren_to hc h1, h2⟩
  | tup vs => obtain ⟨us, e, h1⟩ := h; exact ⟨us, e, RelSs.ren_to (fun p hp c hc' => hc c (List.mem_flatMap.2 ⟨p, hp, hc'⟩)) h1⟩
def renTm (ρ : List (Nat × Nat)) (tm : List (Nat × AV)) : List (Nat × AV) := tm.map fun p => (p.1, p.2.ren ρ)
theorem look_renTm {ρ : List (Nat × Nat)} : ∀ (tm : List (Nat × AV)) (t : Nat), look (renTm ρ tm) t = (look tm t).map (AV.ren ρ)
  | [], t => rfl
  | (j, x) :: r, t => by
    simp only [renTm, List.map_cons, look_cons]
    by_cases e : j = t
    · simp [e]
    · rw [if_neg e, if_neg e]; exact look_renTm r t
theorem Sim.rename (h : Sim E s G φ a w) {k k' : Nat} (hn : s.noRef k' = true) (hfx : anyB (Nat.beq k') E.fx = false) (hlk : lkOk E.lk [k] [k'] = true) :
    Sim E ⟨renTm [(k, k')] s.tm, renSl [(k, k')] s.sl⟩ G (upd φ k' (φ k)) a w := by
  obtain ⟨n1, n2⟩ := St.noRef_spec hn
  have hr : ∀ j, renN [(k, k')] j = if k = j then k' else j := fun j => by
    unfold renN
    simp only [look_cons]
    by_cases e : k = j
    · simp [e]
    · simp [e, look]
  have key : ∀ j, j ≠ k' → upd φ k' (φ k) (renN [(k, k')] j) = φ j := fun j hj => by
    rw [hr]
    by_cases e : k = j
    · rw [if_pos e, upd_same, e]
    · rw [if_neg e, upd_other _ _ _ hj]
  have hin : ∀ j c, look (renSl [(k, k')] s.sl) j = some c → ∃ i c0, j = renN [(k, k')] i ∧ look s.sl i = some c0 ∧ c = c0.ren [(k, k')] ∧ i ≠ k' := fun j c hc => by
    obtain ⟨i, c0, h1, h2, h3⟩ := look_renSl hc
    exact ⟨i, c0, h1, h2, h3, (n2 _ (look_mem h2)).1⟩
  exact
  { h with
    tm := fun t x hx => by
      rw [look_renTm] at hx
      cases hl : look s.tm t with
      | none => rw [hl] at hx; cases hx
      | some x0 =>
        rw [hl] at hx
        cases hx
        obtain ⟨v, hv, hrel⟩ := h.tm t x0 hl
        exact ⟨v, hv, AV.ren_to hrel fun j hj => key j fun e => by rw [e, n1 _ (look_mem hl)] at hj; cases hj⟩
    sl := fun j c hc => by
      obtain ⟨i, c0, rfl, h2, rfl, hne⟩ := hin j c hc
      have := h.sl i c0 h2
      have e := key i hne
      cases c0 with
      | vec es n get => simp only [Slot.ren, RelSlot, e]; exact this
      | box cs =>
        obtain ⟨l, hl, ht, vs, g1, g2, g3⟩ := this
        refine ⟨l, by rw [e]; exact hl, by simpa using ht, vs, RelCs.ren_to (fun c hc j hj => key j fun e => ?_) g1, g2, g3⟩
        have := (n2 _ (look_mem h2)).2
        rw [e, Slot.refs_cells this c hc] at hj
        cases hj
    inj := fun j1 j2 c1 c2 l1 l2 h1 h2 e1 e2 eb => by
      obtain ⟨i1, d1, rfl, g1, _, ne1⟩ := hin _ _ h1
      obtain ⟨i2, d2, rfl, g2, _, ne2⟩ := hin _ _ h2
      rw [key _ ne1] at e1
      rw [key _ ne2] at e2
      rw [h.inj _ _ _ _ _ _ g1 g2 e1 e2 eb]
    own := fun j c l h1 h2 => by
      obtain ⟨i, d, rfl, g, _, ne⟩ := hin _ _ h1
      rw [key _ ne] at h2
      obtain ⟨o1, o2, o3, o4⟩ := h.own _ _ _ g h2
      refine ⟨o1, o2, o3, ?_⟩
      rcases o4 with o4 | ⟨o4, o5⟩
      · exact .inl o4
      · refine .inr ⟨?_, o5⟩
        rw [hr]
        by_cases e : k = i
        · rw [if_pos e]
          subst e
          unfold lkOk at hlk
          split at hlk
          · rename_i hall
            exact anyK_iff.1 (allC_mem hall k' (by simp))
          · have : anyB (fun k => anyB (Nat.beq k) E.lk) [k] = true := anyB_true (by simp) (anyK_iff.2 o4)
            rw [this] at hlk; cases hlk
        · rw [if_neg e]; exact o4
    fix := fun j c hx h1 => by
      obtain ⟨i, d, rfl, g, _, ne⟩ := hin _ _ h1
      rw [key _ ne]
      have hne' : ¬ k = i := fun e => by
        rw [hr, if_pos e] at hx
        exact not_mem_beq hfx hx
      rw [hr, if_neg hne'] at hx ⊢
      exact h.fix _ _ hx g }
theorem SimE.rename (k k' : Nat) (h : SimE E s a w) (hn : s.noRef k' = true) (hfx : anyB (Nat.beq k') E.fx = false) (hlk : lkOk E.lk [k] [k'] = true) {s' : St} (e : (⟨renTm [(k, k')] s.tm, renSl [(k, k')] s.sl⟩ : St) = s') : SimE E s' a w := by
  obtain ⟨G, φ, h⟩ := h
  exact e ▸ ⟨G, _, h.rename hn hfx hlk⟩
theorem Tri.rename (k k' : Nat) (s' : St) {c : Code} {post : Exit → St → Prop} (e : (⟨renTm [(k, k')] s.tm, renSl [(k, k')] s.sl⟩ : St) = s') (hn : s.noRef k' = true) (hfx : anyB (Nat.beq k') E.fx = false) (hlk : lkOk E.lk [k] [k'] = true)
    (h : Tri E c s' post) : Tri E c s post := Tri.weaken (fun _ _ hs => hs.rename k k' hn hfx hlk e) h
theorem At.rename (k k' : Nat) (s' : St) {L : List Oper} {i : Nat} {K : St → Prop} (e : (⟨renTm [(k, k')] s.tm, renSl [(k, k')] s.sl⟩ : St) = s') (hn : s.noRef k' = true) (hfx : anyB (Nat.beq k') E.fx = false) (hlk : lkOk E.lk [k] [k'] = true)
    (h : At E L i s' K) : At E L i s K := fun a w hs => h a w (hs.rename k k' hn hfx hlk e)
def SubS : List (Nat × Slot) → List (Nat × Slot) → Prop
  | [], _ => True
  | (k, c) :: r, sl => (look sl k = some c ∧ c.clean = true) ∧ SubS r sl
theorem SubS.out : ∀ {sl' sl : List (Nat × Slot)}, SubS sl' sl → ∀ k c, look sl' k = some c → look sl k = some c ∧ c.clean = true
  | [], _, _, k, c, h => by cases h
  | (j, c0) :: r, sl, ⟨h1, h2⟩, k, c, h => by
    rw [look_cons] at h
    by_cases e : j = k
    · subst e; rw [if_pos rfl] at h; cases h; exact h1
    · rw [if_neg e] at h; exact SubS.out h2 k c h
theorem DOk.callL {ops : Array Oper} {o : Oper} {x : DOp} {cl : Call} {f : FuncId} {nf : Nat} {caps : List CC} {xs args : List AV} {res : AV} {sl sl' : List (Nat × Slot)} (ρ : List (Nat × Nat))
    (hS : Summ E.P f args sl res sl') (hop : o.op = .call cl) (hw : ∀ r, wantedB ops (x.need.app r) o = some true) (hd : dstOk E.N o.dst = true)
    (hc : ∀ r, calleeL (x.need.app r) cl = some (f, nf, caps)) (hx : ∀ r, argsL (x.need.app r) cl nf caps = some xs)
    (hle : ∀ r, AVsArgL (x.need.app r) ρ (keysS sl) ((keysS sl).map (renN ρ)) xs args) (hsl : ∀ r, LentS (x.need.app r) ρ (keysS sl) sl) (hinj : injB ρ (keysS sl) = true) (hinj' : injB ρ (keysS sl') = true)
    (hres : res.lent (keysS sl') = true) (hsl' : allC (fun p : Nat × Slot => p.2.lent (keysS sl')) sl' = true)
    (hodd : allC (fun k => (⟨x.need.tm, lessK ((keysS sl ++ keysS sl').map (renN ρ)) x.need.sl⟩ : St).noRef (renN ρ k)) (oddK (keysS sl) (keysS sl')) = true)
    (hmk : allC (fun k => memB (renN ρ k) x.mks) (oddK (keysS sl) (keysS sl')) = true)
    (hfx : allC (fun k => !anyB (Nat.beq (renN ρ k)) E.fx) (oddK (keysS sl) (keysS sl')) = true) (hlk : lkOk E.lk ((keysS sl).map (renN ρ)) ((keysS sl').map (renN ρ)) = true)
    (hcov : allC (fun k => hasKey (renN ρ k) x.eff.sl) (keysS sl ++ keysS sl') = true) (hesl : renSl ρ sl' = x.eff.sl)
    (het : match o.dst with | some d => [(d, res.ren ρ)] = x.eff.tm | none => x.eff.tm = []) : DOk E ops o x := DOk.one fun r hr => by
  let im := (keysS sl ++ keysS sl').map (renN ρ)
  have hle0 : ∀ (l : List (Nat × Slot)) t c, look (lessK im l) t = some c → memB t im = false ∧ look l t = some c := fun l t c h => by
    rw [look_less] at h
    cases hm : memB t im with
    | true => rw [hm] at h; cases h
    | false => rw [hm] at h; exact ⟨rfl, h⟩
  refine (One.callL ρ ⟨x.need.tm ++ r.tm, lessK im (x.need.sl ++ r.sl)⟩ hS hop (hw r) hd (hc r) (hx r) (hle r) (hsl r) hinj hinj' hres hsl' (fun t y h => h) (fun t c h => (hle0 _ t c h).2) ?_ ?_ hfx hlk).weaken fun a w hs => hs.weaken (fun t y hy => ?_) fun t y hy => ?_
  · have : ∀ k ∈ keysS sl ++ keysS sl', (match look (lessK im (x.need.sl ++ r.sl)) (renN ρ k) with | some _ => false | none => true) = true := fun k hk => by
      have hm : memB (renN ρ k) im = true := memB_iff.2 (List.mem_map.2 ⟨k, hk, rfl⟩)
      rw [look_less, hm]
    have key : ∀ l : List Nat, (∀ k ∈ l, (match look (lessK im (x.need.sl ++ r.sl)) (renN ρ k) with | some _ => false | none => true) = true) → allC (fun k => match look (lessK im (x.need.sl ++ r.sl)) (renN ρ k) with | some _ => false | none => true) l = true := by
      intro l
      induction l with
      | nil => intro _; rfl
      | cons k l ih =>
        intro h
        simp only [allC]
        rw [h k (List.mem_cons_self ..)]
        exact ih fun j hj => h j (List.mem_cons_of_mem _ hj)
    exact key _ this
  · have : ∀ k ∈ oddK (keysS sl) (keysS sl'), (⟨x.need.tm ++ r.tm, lessK im (x.need.sl ++ r.sl)⟩ : St).noRef (renN ρ k) = true := fun k hk => by
      have h1 := allC_mem hodd k hk
      have h2 := hr _ (memB_iff.1 (allC_mem hmk k hk))
      rw [lessK_append]
      have h3 : (⟨r.tm, lessK im r.sl⟩ : St).noRef (renN ρ k) = true := by
        obtain ⟨p1, p2⟩ := St.noRef_spec h2
        unfold St.noRef
        have q1 : anyB (fun e : Nat × AV => AV.refs (renN ρ k) e.2) r.tm = false := by
          cases e : anyB (fun e : Nat × AV => AV.refs (renN ρ k) e.2) r.tm with
          | false => rfl
          | true => obtain ⟨y, hy, hy'⟩ := anyB_iff.1 e; rw [p1 y hy] at hy'; cases hy'
        have q2 : anyB (slotRef (renN ρ k)) (lessK im r.sl) = false := by
          cases e : anyB (slotRef (renN ρ k)) (lessK im r.sl) with
          | false => rfl
          | true =>
            obtain ⟨y, hy, hy'⟩ := anyB_iff.1 e
            have hmem : ∀ l : List (Nat × Slot), y ∈ lessK im l → y ∈ l := by
              intro l
              induction l with
              | nil => intro h; exact h
              | cons z l ih =>
                rcases z with ⟨zk, zc⟩
                intro h
                simp only [lessK] at h
                split at h
                · exact List.mem_cons_of_mem _ (ih h)
                · rcases List.mem_cons.1 h with h | h
                  · rw [h]; exact List.mem_cons_self ..
                  · exact List.mem_cons_of_mem _ (ih h)
            obtain ⟨u1, u2⟩ := p2 y (hmem _ hy)
            unfold slotRef at hy'
            have hb : Nat.beq y.1 (renN ρ k) = false := by
              cases hb : Nat.beq y.1 (renN ρ k) with
              | false => rfl
              | true => exact absurd (Nat.eq_of_beq_eq_true hb) u1
            rw [hb] at hy'
            simp only [u2] at hy'
            cases hy'
        simp only [q1, q2]
      exact St.noRef_app (n := ⟨x.need.tm, lessK im x.need.sl⟩) (r := ⟨r.tm, lessK im r.sl⟩) h1 h3
    have key : ∀ l : List Nat, (∀ k ∈ l, (⟨x.need.tm ++ r.tm, lessK im (x.need.sl ++ r.sl)⟩ : St).noRef (renN ρ k) = true) → allC (fun k => (⟨x.need.tm ++ r.tm, lessK im (x.need.sl ++ r.sl)⟩ : St).noRef (renN ρ k)) l = true := by
      intro l
      induction l with
      | nil => intro _; rfl
      | cons k l ih =>
        intro h
        simp only [allC]
        rw [h k (List.mem_cons_self ..)]
        exact ih fun j hj => h j (List.mem_cons_of_mem _ hj)
    exact key _ this
  · cases hdd : o.dst with
    | none =>
      rw [hdd] at het
      have het : x.eff.tm = [] := het
      simp only [St.app, het, List.nil_append] at hy
      exact hy
    | some d =>
      rw [hdd] at het
      have het : [(d, res.ren ρ)] = x.eff.tm := het
      simp only [St.app, ← het] at hy
      exact hy
  · have h1 : look (renSl ρ sl' ++ lessK im (x.need.sl ++ r.sl)) t = some y := by
      simp only [St.app, ← hesl] at hy
      rw [look_append] at hy ⊢
      cases he : look (renSl ρ sl') t with
      | some z => rw [he] at hy; exact hy
      | none =>
        rw [he] at hy
        simp only at hy ⊢
        rw [look_less]
        cases hm : memB t im with
        | false => exact hy
        | true =>
          obtain ⟨k, hk, rfl⟩ := List.mem_map.1 (memB_iff.1 hm)
          obtain ⟨z, hz⟩ := hasKey_iff.1 (allC_mem hcov k hk)
          rw [← hesl, he] at hz; cases hz
    cases hdd : o.dst with
    | none => exact h1
    | some d => exact h1
end
end Go.Av
/-
  Av, part Y: more rules over lists; library functions that the model stands in for.
-/
namespace Go.Av
open Go
set_option linter.unusedVariables false
set_option linter.unusedSimpArgs false
set_option linter.unusedSectionVars false
@[reducible] def onlyS (s1 : St) : Exit → St → Prop := fun e s => e = .normal ∧ s = s1
section
variable {E : Env} {s : St} {X : Type} [Inhabited X]
theorem Tri.afterA (s1 : St) {c : Code} {post : Exit → St → Prop} (h : Tri E c s (onlyS s1)) (hA : At E [] 0 s1 (post .normal)) : Tri E c s post := fun a w hs =>
  wp_mono (h a w hs) fun e a' w' ⟨s', hp, hs'⟩ => by
    obtain ⟨rfl, rfl⟩ := hp
    exact hA a' w' hs' (fun e a'' w'' => ∃ s'', post e s'' ∧ SimE E s'' a'' w'') fun s'' a'' w'' k h' => ⟨s'', k, h'⟩
def numsOf (s : ByteArray) : List Int := s.data.toList.map fun b => (b.toNat : Int)
@[simp] theorem numsOf_length (s : ByteArray) : (numsOf s).length = s.size := by
  unfold numsOf
  rw [List.length_map, Array.length_toList]
  rfl
def copyL (dst src : List X) : List X := src ++ dst.drop src.length
theorem copyL_length {dst src : List X} (h : src.length ≤ dst.length) : (copyL dst src).length = dst.length := by simp [copyL]; omega
theorem One.copyT {ops : Array Oper} {o : Oper} {k es : Nat} {dT sT e : TypeId} {p x : Operand} {y : AV} (enc : X → List D) (dst src : List X)
    (hop : o.op = .call ⟨.builtin .copy, #[p, x], #[dT, sT]⟩) (hw : wantedB ops s o = some true) (hd : dstOk E.N o.dst = true)
    (hu : E.P.underlying dT = some (.slice e)) (hsz : sizeT E.P e = some es) (hp : evO s p = some (.c (.own k es 0 dst.length))) (hk : look s.sl k = some (.vec es dst.length (fun i => enc (dst.getD i default)))) (hx : evO s x = some y)
    (hsrc : SrcOf s y es src.length (fun i => enc (src.getD i default))) (hm : src.length ≤ dst.length) :
    One E ops o s (putO (s.slot k (.vec es (copyL dst src).length (fun i => enc ((copyL dst src).getD i default)))) o.dst (.c (.d (.int .i64 (src.length : Int))))) := by
  have h := One.copy hop hw hd hu hsz hp hk hx hsrc hm
  rw [copyL_length hm]
  have e1 : copyGet src.length (fun i => enc (src.getD i default)) (fun i => enc (dst.getD i default)) = fun i => enc ((copyL dst src).getD i default) := by
    funext i
    unfold copyGet copyL
    rw [getD_append']
    split
    · rfl
    · rename_i hi
      show enc (dst.getD i default) = enc ((dst.drop src.length).getD (i - src.length) default)
      rw [List.getD_eq_getElem?_getD, List.getD_eq_getElem?_getD, List.getElem?_drop]
      congr 3
      omega
  rw [e1] at h
  exact h
theorem One.cap0 {ops : Array Oper} {o : Oper} {t e : TypeId} {d : Nat} {x : Operand}
    (hop : o.op = .call ⟨.builtin .cap, #[x], #[t]⟩) (hw : wantedB ops s o = some true) (hd : o.dst = some d) (hlt : Nat.blt d E.N = true) (hu : E.P.underlying t = some (.slice e)) (hx : evO s x = some (.c .zero)) :
    One E ops o s (s.put d (.c (.d (.int .i64 0)))) := fun a w hs => by
  obtain ⟨G, φ, h⟩ := hs
  refine ⟨wantedB_spec h hw, fun next Q hn => ?_⟩
  obtain ⟨A, hA⟩ := (h.ev hx).1
  have he : execOp a.eval o = (do pure (.value (← Builtin.cap_ #[t] o.type #[a.eval x])) : Sem Next) := by
    unfold execOp; rw [hop]
    simp [resolve, invoke, builtin]
  have hrun : (Builtin.cap_ #[t] o.type #[a.eval x]).run E.P w = .ok (.int .i64 0) w := by
    rw [hA]
    simp [Builtin.cap_, run_underlying hu, goInt]
  unfold Oper.wp
  rw [he]
  simp only [Sem.run_bind, hrun, Result.andThen_ok, Sem.run_pure, Oper.upon, hd]
  exact hn _ _ ⟨G, φ, h.put (Nat.blt_eq.mp hlt) (relAV_c (RelD.int _ _) rfl)⟩
theorem One.appendN0 {ops : Array Oper} {o : Oper} {d : Nat} {sT xT e : TypeId} {es bs : Nat} {kn kx : IntKind} {n : Int} {b x : Operand} {z : List C} {ds : List D} (enc : X → List D) (v0 : X)
    (hop : o.op = .call ⟨.builtin .append, #[b, x], #[sT, xT]⟩) (hw : wantedB ops s o = some true) (hd : o.dst = some d) (hlt : Nat.blt d E.N = true) (hnr : s.noRef d = true)
    (hu : E.P.underlying sT = some (.slice e)) (hx : E.P.underlying xT = some (.int kx)) (hsz : sizeT E.P e = some es) (hbs : bytesT E.P e = some bs) (hbp : Nat.blt 0 bs = true) (hb2 : Nat.ble bs 256 = true)
    (hz : zeroCells E.P e = some z) (hze : Nat.beq z.length es = true) (hes : Nat.blt 0 es = true) (hzd : CsLe s [] z (ds.map .d)) (hev : enc v0 = ds)
    (hb : evO s b = some (.c .zero)) (hxv : evO s x = some (.c (.d (.int kn n)))) (h0 : 0 < n) (h1 : n ≤ (lim : Int)) :
    One E ops o s ((s.slot d (.vec es (List.replicate n.toNat v0).length (fun i => enc ((List.replicate n.toNat v0).getD i default)))).put d (.c (.own d es 0 (List.replicate n.toNat v0).length))) := fun a w hs => by
  obtain ⟨G, φ, h⟩ := hs
  refine ⟨wantedB_spec h hw, fun next Q hn => ?_⟩
  obtain ⟨A, hA⟩ := (h.ev hb).1
  have hN : a.eval x = .int kn n := rel_int (h.ev hxv)
  obtain ⟨zv, z1, z2, z3⟩ := zeroCells_run hz
  have hbs0 := Nat.blt_eq.mp hbp
  have hbs2 := Nat.le_of_ble_eq_true hb2
  have hze := Nat.eq_of_beq_eq_true hze
  have hes0 := Nat.blt_eq.mp hes
  have hzsz : zv.cells.size = es := by rw [← hze, ← z2]; simp
  have hlimv : (lim : Int) = 274877906944 := rfl
  have hwr : IntKind.i64.wrap n = n := wrap_small (by omega) (by omega)
  have hinfo : ∀ w, (typeInfo e).run E.P w = .ok ((E.P.info? e).getD default) w := fun w => by
    unfold sizeT at hsz
    cases hi : E.P.info? e with
    | none => simp [hi] at hsz
    | some i => simp [typeInfo, hi]
  have hbytes : ((E.P.info? e).getD default).bytes = bs := by
    unfold bytesT at hbs
    cases hi : E.P.info? e with
    | none => simp [hi] at hbs
    | some i => simpa [hi] using hbs
  have hn0 : n.toNat * es ≠ 0 := by
    have : 0 < n.toNat := by omega
    exact Nat.ne_of_gt (Nat.mul_pos this hes0)
  let q : Question := .appendCap (0 + n.toNat) 0 e
  let newCap := q.cut (w.tape w.drawn q)
  have hge : 0 + n.toNat ≤ newCap := Nat.le_add_right _ _
  let vs : Array Value := #[] ++ Builtin.zeroCells zv.cells n.toNat ++ Builtin.zeroCells zv.cells (newCap - (0 + n.toNat))
  have hrun : (Builtin.append_ #[sT, xT] o.type #[.slice A 0 0, .int kn n]).run E.P w = .ok (.slice (some ⟨w.heap.size, 0, none⟩) (0 + n.toNat) newCap) (World.alloc { w with drawn := w.drawn + 1 } (.cells vs e)) := by
    have hlb : ¬ (n * (bs : Int) > 2 ^ 48) := by
      have h2 : n * (bs : Int) ≤ 274877906944 * 256 := Int.mul_le_mul (by omega) (by omega) (by omega) (by omega)
      have : (274877906944 : Int) * 256 ≤ 2 ^ 48 := by decide
      omega
    have hbig : ¬ (Builtin.nextslicecap (0 + n.toNat) 0 * bs > 2 ^ 48) := by
      have h1 := nextcap_le (need := 0 + n.toNat) (old := 0) (by omega)
      have h2 : Builtin.nextslicecap (0 + n.toNat) 0 ≤ 2 * lim + 192 := by
        have : lim = 274877906944 := rfl
        omega
      have h3 : Builtin.nextslicecap (0 + n.toNat) 0 * bs ≤ (2 * lim + 192) * 256 := Nat.mul_le_mul h2 hbs2
      have h4 : (2 * lim + 192) * 256 ≤ 2 ^ 48 := by decide
      omega
    have hmax : IntKind.i64.max = 9223372036854775807 := by decide
    have hask : ∀ b w', (askRoom b).run E.P w' = .ok () w' := fun b w' => by unfold askRoom; split <;> rfl
    have hch : (choose (.appendCap (0 + n.toNat) 0 e)).run E.P w = .ok newCap { w with drawn := w.drawn + 1 } := rfl
    have hold : ∀ w', (Builtin.firstCells es 0 (.slice A 0 0)).run E.P w' = .ok #[] w' := fun w' => by cases A <;> simp [Builtin.firstCells, loadCells, loadCellsFrom]
    have hnz : ¬ (n.toNat = 0 ∨ es = 0) := by omega
    unfold Builtin.append_
    simp only [List.getElem?_toArray, List.getElem?_cons_zero, List.getElem?_cons_succ, Sem.run_bind, run_underlying hu, run_underlying hx, Result.andThen_ok, sizeT_run hsz, Sem.run_pure, if_true, asInt, asIntOf, hwr, hinfo, hbytes]
    rw [if_neg (by omega : ¬ n < 0)]
    simp only [Sem.run_bind, hinfo, Result.andThen_ok, Sem.run_pure, hbytes]
    rw [if_neg hlb]
    simp only [Sem.run_bind, Result.andThen_ok, Sem.run_pure]
    rw [if_neg (by omega : ¬ 0 + n.toNat ≤ 0)]
    simp only [Sem.run_bind, hinfo, Result.andThen_ok, hbytes]
    have hsmall : ¬ (((0 + n.toNat : Nat) : Int) > IntKind.i64.max ∧ (True ∨ bs = 0)) := by
      rintro ⟨h, _⟩
      rw [hmax] at h
      omega
    rw [if_neg hsmall]
    simp only [Sem.run_bind, hinfo, Result.andThen_ok, hbytes]
    rw [if_neg hbig]
    simp only [Sem.run_bind, hch, Result.andThen_ok, hinfo, hask, hold, Bool.not_true, if_false, hn0, z1, newRow_run, Sem.run_pure, Bool.false_eq_true]
    rfl
  have he : execOp a.eval o = (do pure (.value (← Builtin.append_ #[sT, xT] o.type #[a.eval b, a.eval x])) : Sem Next) := by
    unfold execOp; rw [hop]
    simp [resolve, invoke, builtin]
  unfold Oper.wp
  rw [he, hA, hN]
  simp only [Sem.run_bind, hrun, Result.andThen_ok, Sem.run_pure, Oper.upon, hd]
  have hw1 : Sim E s G φ a { w with drawn := w.drawn + 1 } := h.world rfl rfl rfl rfl
  have hdl : ds.length = es := by
    have := hzd.rel h (vs := zv.cells.toList) (by rw [← z2]; exact constCs_rel G E.V φ w _)
    have := this.length
    simp at this
    omega
  have hzr : RelCs (RelC G E.V φ w) (ds.map .d) zv.cells.toList := by
    have h2 := hzd.rel h (vs := zv.cells.toList) (by rw [← z2]; exact constCs_rel G E.V φ w _)
    exact h2.mono fun c _ v hc => hc.mono (Same.refl _ _) (Same.refl _ _) (fun _ hb => withF_nil hb) fun _ _ => rfl
  have hcell : ∀ j, j < es → ∃ u, zv.cells[j]? = some u ∧ RelD G w (D.at ds j) u := fun j hj => by
    obtain ⟨u, hu, hr⟩ := hzr.get j (.d (D.at ds j)) (by rw [List.getElem?_map, List.getElem?_eq_getElem (by omega)]; simp [D.at, List.getD_eq_getElem?_getD, List.getElem?_eq_getElem (show j < ds.length by omega)])
    exact ⟨u, by simpa using hu, hr⟩
  have hvsz : vs.size = newCap * es := by
    simp only [vs, Array.size_append, Builtin.zeroCells, Array.size_map, Array.size_range, hzsz]
    rw [show (#[] : Array Value).size = 0 from rfl, Nat.zero_add, ← Nat.add_mul]
    congr 1; omega
  have hok : CellsOk G { w with drawn := w.drawn + 1 } vs.toList es n.toNat (fun _ => ds) := fun i hi => ⟨hdl, fun j hj => by
    obtain ⟨u, hu, hr⟩ := hcell j hj
    refine ⟨u, ?_, RelD.mono (w := w) (w' := { w with drawn := w.drawn + 1 }) (fun b _ => rfl) (fun _ h => h) hr⟩
    have hlt' : i * es + j < n.toNat * es := add_lt_mul hi hj
    have hmod : (i * es + j) % zv.cells.size = j := by rw [hzsz, Nat.add_comm, Nat.add_mul_mod_self_right, Nat.mod_eq_of_lt hj]
    have hz0 : (Builtin.zeroCells zv.cells n.toNat).size = n.toNat * es := by simp [Builtin.zeroCells, hzsz]
    have e1 : vs.toList[i * es + j]? = (Builtin.zeroCells zv.cells n.toNat)[i * es + j]? := by
      rw [Array.getElem?_toList]
      simp only [vs, Array.empty_append]
      rw [Array.getElem?_append_left (by omega)]
    rw [e1]
    unfold Builtin.zeroCells
    rw [Array.getElem?_map, Array.getElem?_range, hzsz, if_pos hlt']
    rw [hzsz] at hmod
    simp only [Option.map_some, hmod]
    rw [getElem!_def, hu]⟩
  have hs' := hw1.newVec (k := d) (w := { w with drawn := w.drawn + 1 }) (get := fun _ => ds) (h.notFx (Nat.blt_eq.mp hlt)) hnr e hvsz (by omega) (by unfold maxN; omega) hok
  have hput := hs'.put (Nat.blt_eq.mp hlt) (x := .c (.own d es 0 n.toNat)) (v := .slice (some ⟨w.heap.size, 0, none⟩) (0 + n.toNat) newCap) (relAV_c (Or.inr ⟨_, upd_same _ _ _, (show 0 + n.toNat ≤ newCap by omega), by simp⟩) rfl)
  have hfin := Sim.vecCongr (get' := fun i => enc ((List.replicate n.toNat v0).getD i default)) hput fun i hi => by
    show enc ((List.replicate n.toNat v0).getD i default) = ds
    rw [List.getD_eq_getElem?_getD, List.getElem?_replicate, if_pos hi]
    exact hev
  rw [List.length_replicate] at hn
  exact hn _ _ ⟨G, _, hfin⟩
def bits_Add64 (x y c : Int) : Option (Int × Int) :=
  need (0 ≤ x ∧ 0 ≤ y ∧ 0 ≤ c ∧ c ≤ 1) <| some ((x + y + c) % 18446744073709551616, (x + y + c) / 18446744073709551616)
theorem bits_Add64_ok {P : Program} {f : FuncId} {fn : Func} (hf : P.funcs[f]? = some fn) (hname : (fn.name == "runtime.NumGoroutine") = false) (hb : fn.body.isNone = true) (hn : Extern.findNext fn = none)
    (he : Extern.find fn = some add64Entry) {x y c : Int} {q : Int × Int} (h : bits_Add64 x y c = some q) :
    Summ P f [.c (.d (.int .u64 x)), .c (.d (.int .u64 y)), .c (.d (.int .u64 c))] [] (.tup [(false, [.d (.int .u64 q.1)]), (false, [.d (.int .u64 q.2)])]) [] := by
  unfold bits_Add64 at h
  obtain ⟨⟨hx, hy, hc0, hc1⟩, h⟩ := need_elim h
  cases h
  intro G φ w vs hG hsl hargs
  match vs, hargs with
  | [a, b, d], ⟨h1, h2, h3, _⟩ =>
    have e1 : RelD G w (.int .u64 x) a := h1.1
    have e2 : RelD G w (.int .u64 y) b := h2.1
    have e3 : RelD G w (.int .u64 c) d := h3.1
    cases e1; cases e2; cases e3
    have hrun : (callFunc f [Value.int .u64 x, .int .u64 y, .int .u64 c].toArray).run P w = .ok (.value (.tuple #[.int .u64 ((x + y + c) % 18446744073709551616), .int .u64 ((x + y + c) / 18446744073709551616)])) w := by
      rw [run_callFunc_extern hf hname hb hn he]
      rw [run_add64 x y c hx hy hc0 hc1]
      rfl
    unfold Acts
    rw [hrun]
    refine ⟨_, G, φ, rfl, ?_⟩
    exact
    { up := fun _ h => h
      fr := fun _ h => .inl h
      sz := hG
      rel := ⟨_, rfl, ⟨RelD.int _ _, rfl⟩, ⟨RelD.int _ _, rfl⟩, trivial⟩
      slots := ⟨(fun _ _ h => by cases h), (fun _ _ _ _ _ _ h => by cases h), (fun _ _ _ h => by cases h)⟩
      blk := fun _ _ _ h => by cases h
      kp := Keep.refl _ _ _
      fix := fun _ _ _ h => by cases h }
end
end Go.Av
namespace Go.Av
section
variable {X : Type} [Inhabited X]
omit [Inhabited X] in
theorem take_min {xs : List X} {h : Int} (hc : (0 : Int) ≤ 0 ∧ (0 : Int) ≤ h ∧ h ≤ (xs.length : Int)) : min h.toNat xs.length = h.toNat := by omega
omit [Inhabited X] in
theorem take_le (xs : List X) (m : Nat) : (xs.take m).length ≤ xs.length := by rw [List.length_take]; omega
theorem take_get (enc : X → List D) (xs : List X) (m : Nat) : ∀ i, i < (xs.take m).length → (fun i => enc ((xs.take m).getD i default)) i = (fun i => enc (xs.getD i default)) i := fun i hi => by
  show enc ((xs.take m).getD i default) = enc (xs.getD i default)
  rw [List.length_take] at hi
  rw [List.getD_eq_getElem?_getD, List.getD_eq_getElem?_getD, List.getElem?_take, if_pos (by omega)]
end
end Go.Av
namespace Go.Av
abbrev i6 (x : Int) : D := .int .i64 x
abbrev u6 (x : Int) : D := .int .u64 x
abbrev cD (d : D) : AV := .c (.d d)
abbrev lD {X : Type} [Inhabited X] (es : Nat) (e : X → List D) (l : List X) : D := .list es l.length (fun i => e (l.getD i default))
abbrev wC {X : Type} [Inhabited X] (es : Nat) (e : X → List D) (l : List X) : C := .view es l.length (fun i => e (l.getD i default))
abbrev oC {X : Type} (k es : Nat) (l : List X) : C := .own k es 0 l.length
abbrev vL {X : Type} [Inhabited X] (es : Nat) (e : X → List D) (l : List X) : Slot := .vec es l.length (fun i => e (l.getD i default))
theorem DOk.t {E : Env} {ops : Array Oper} {o : Oper} {x : DOp} {d : Nat} {av : AV} (he0 : x.eff = ⟨[(d, av)], []⟩) (hd : o.dst = some d) (hw : (fun r => (wantedB ops (x.need.app r) o, evStep E.P (x.need.app r) (some d) o.op)) = fun _ => (some true, some (.val av True)))
    (hok : (okDst E.N x.need (some d) (.val av True) && mksOk x.mks (.val av True) (some d)) = true) : DOk E ops o x :=
  DOk.step (.val av True) (fun r => congrArg Prod.fst (congrFun hw r)) (fun r => by rw [hd]; exact congrArg Prod.snd (congrFun hw r)) trivial (by rw [hd]; exact (Bool.and_eq_true_iff.1 hok).1) (by rw [hd]; exact (Bool.and_eq_true_iff.1 hok).2) (fun r => by rw [hd, he0]; rfl)
end Go.Av
namespace Go.Av
open Go
set_option linter.unusedVariables false
abbrev dI (x : Int) : D := .int .i64 x
abbrev dU (x : Int) : D := .int .u64 x
inductive Sh where
  | a (tm sl : List Nat)
  | m (need eff : St) (mks dead hid : List Nat)
def autoEff (P : Program) (ops : Array Oper) (n : St) (o : Oper) : St :=
  match o.dst with
  | none => ⟨[], []⟩
  | some d => match wantedB ops n o with
    | some true => match evStep P n (some d) o.op with
      | some (.val av _) => ⟨[(d, av)], []⟩
      | _ => ⟨[], []⟩
    | some false => ⟨[(d, .tup [])], []⟩
    | none => ⟨[], []⟩
def shNeed (s0 : St) (b : List Nat) (acc : List DOp) (tm sl : List Nat) : St :=
  match keep tm sl (stD (fun i => memB i b) 0 acc s0) with
  | some n => n
  | none => ⟨[], []⟩
def shFill (P : Program) (ops : Array Oper) (s0 : St) (bef : List (List Nat)) : Nat → List Oper → List Sh → List DOp → List DOp
  | r, o :: os, .a tm sl :: xs, acc =>
    (fun x : DOp => x :: shFill P ops s0 bef (r + 1) os xs (acc ++ [x])) ((fun n : St => ⟨n, autoEff P ops n o, [], [], []⟩) (shNeed s0 (nth bef r) acc tm sl))
  | r, _ :: os, .m n e mk dd hd :: xs, acc => ⟨n, e, mk, dd, hd⟩ :: shFill P ops s0 bef (r + 1) os xs (acc ++ [⟨n, e, mk, dd, hd⟩])
  | _, _, _, _ => []
def autoVals (P : Program) (ops : Array Oper) (r : St) : List Oper → List DOp → List Sh → List (Option Bool × Option Step)
  | o :: os, x :: xs, .a _ _ :: ys => (wantedB ops (x.need.app r) o, evStep P (x.need.app r) o.dst o.op) :: autoVals P ops r os xs ys
  | _ :: os, _ :: xs, .m _ _ _ _ _ :: ys => autoVals P ops r os xs ys
  | _, _, _ => []
def autoGood (N : Nat) (P : Program) (ops : Array Oper) : List Oper → List DOp → List Sh → Bool
  | o :: os, x :: xs, .a _ _ :: ys =>
    match (match o.dst with
      | none => false
      | some d => match wantedB ops x.need o with
        | some true => match evStep P x.need (some d) o.op with
          | some (.val av c) => match okDst N x.need (some d) (.val av c) with | true => mksOk [] (.val av c) (some d) | false => false
          | _ => false
        | some false => Nat.blt d N
        | none => false) with
    | true => autoGood N P ops os xs ys
    | false => false
  | _ :: os, _ :: xs, .m _ _ _ _ _ :: ys => autoGood N P ops os xs ys
  | _, _, _ => true
def autoConds (P : Program) (ops : Array Oper) : List Oper → List DOp → List Sh → Prop
  | o :: os, x :: xs, .a _ _ :: ys =>
    match wantedB ops x.need o with
    | some true => match evStep P x.need o.dst o.op with
      | some (.val _ c) => c ∧ autoConds P ops os xs ys
      | _ => autoConds P ops os xs ys
    | _ => autoConds P ops os xs ys
  | _ :: os, _ :: xs, .m _ _ _ _ _ :: ys => autoConds P ops os xs ys
  | _, _, _ => True
inductive ManOk (E : Env) (ops : Array Oper) : List Oper → List Sh → Prop
  | z {os : List Oper} : ManOk E ops os []
  | a {o : Oper} {os : List Oper} {tm sl : List Nat} {ys : List Sh} (h : ManOk E ops os ys) : ManOk E ops (o :: os) (.a tm sl :: ys)
  | m {o : Oper} {os : List Oper} {n e : St} {mk dd hd : List Nat} {ys : List Sh} (h1 : DOk E ops o ⟨n, e, mk, dd, hd⟩) (h : ManOk E ops os ys) : ManOk E ops (o :: os) (.m n e mk dd hd :: ys)
theorem DOk.auto {E : Env} {ops : Array Oper} {o : Oper} {n : St} (hl : ∀ r : St, wantedB ops (n.app r) o = wantedB ops n o ∧ evStep E.P (n.app r) o.dst o.op = evStep E.P n o.dst o.op)
    (hg : (match o.dst with
      | none => false
      | some d => match wantedB ops n o with
        | some true => match evStep E.P n (some d) o.op with
          | some (.val av c) => match okDst E.N n (some d) (.val av c) with | true => mksOk [] (.val av c) (some d) | false => false
          | _ => false
        | some false => Nat.blt d E.N
        | none => false) = true)
    (hc : match wantedB ops n o with
      | some true => match evStep E.P n o.dst o.op with
        | some (.val _ c) => c
        | _ => True
      | _ => True) : DOk E ops o ⟨n, autoEff E.P ops n o, [], [], []⟩ := by
  cases hd : o.dst with
  | none => rw [hd] at hg; cases hg
  | some d =>
    rw [hd] at hg
    simp only at hg
    cases hw : wantedB ops n o with
    | none => rw [hw] at hg; cases hg
    | some b =>
      rw [hw] at hg hc
      cases b with
      | false =>
        simp only at hg
        refine DOk.skip (d := d) (fun r => (hl r).1.trans hw) hd hg (fun r => ?_)
        unfold autoEff
        rw [hd]
        simp only [hw]
        rfl
      | true =>
        simp only at hg hc
        cases he : evStep E.P n (some d) o.op with
        | none => rw [he] at hg; cases hg
        | some st =>
          rw [he] at hg
          cases st with
          | val av c =>
            simp only at hg
            rw [hd, he] at hc
            simp only at hc
            have h1 : okDst E.N n (some d) (.val av c) = true := by
              cases e : okDst E.N n (some d) (.val av c) with
              | true => rfl
              | false => rw [e] at hg; cases hg
            rw [h1] at hg
            refine DOk.step (.val av c) (fun r => (hl r).1.trans hw) (fun r => ?_) hc (by rw [hd]; exact h1) (by rw [hd]; exact hg) (fun r => ?_)
            · have := (hl r).2
              rw [hd, he] at this
              rw [hd]; exact this
            · unfold autoEff
              rw [hd]
              simp only [hw, he]
              rfl
          | new c x => simp only at hg; cases hg
          | turn k c => simp only at hg; cases hg
theorem eachOf {E : Env} {ops : Array Oper} {s0 : St} {bef : List (List Nat)} : ∀ (os : List Oper) (ys : List Sh) (r0 : Nat) (acc : List DOp), Nat.beq os.length ys.length = true →
    (∀ r : St, autoVals E.P ops r os (shFill E.P ops s0 bef r0 os ys acc) ys = autoVals E.P ops ⟨[], []⟩ os (shFill E.P ops s0 bef r0 os ys acc) ys) →
    autoGood E.N E.P ops os (shFill E.P ops s0 bef r0 os ys acc) ys = true → autoConds E.P ops os (shFill E.P ops s0 bef r0 os ys acc) ys → ManOk E ops os ys →
    EachOk E ops os (shFill E.P ops s0 bef r0 os ys acc)
  | [], [], _, _, _, _, _, _, _ => trivial
  | [], _ :: _, _, _, h, _, _, _, _ => by cases h
  | _ :: _, [], _, _, h, _, _, _, _ => by cases h
  | o :: os, .m n e mk dd hd :: ys, r0, acc, hlen, hv, hg, hc, hm => by
    cases hm with | m h1 h2 => exact ⟨h1, eachOf os ys (r0 + 1) _ hlen hv hg hc h2⟩
  | o :: os, .a tm sl :: ys, r0, acc, hlen, hv, hg, hc, hm => by
    have e0 : ∀ n : St, n.app ⟨[], []⟩ = n := fun n => by cases n; simp [St.app]
    have hv1 := fun r => List.cons.inj (hv r)
    unfold shFill at hg hc
    simp only [autoGood, autoConds] at hg hc
    have hg2 : ∀ {b : Bool} {z : Bool}, (match b with | true => z | false => false) = true → b = true ∧ z = true := fun {b z} h => by cases b <;> simp_all
    obtain ⟨g1, g2⟩ := hg2 hg
    refine ⟨DOk.auto (fun r => ?_) g1 ?_, eachOf os ys (r0 + 1) _ hlen (fun r => (hv1 r).2) g2 ?_ (by cases hm with | a h => exact h)⟩
    · have := (hv1 r).1
      simp only [Prod.mk.injEq] at this
      rw [e0] at this
      exact this
    · revert hc
      split
      · split
        · intro h; exact h.1
        · intro _; trivial
      · intro _; trivial
    · revert hc
      split
      · split
        · intro h; exact h.2
        · intro h; exact h
      · intro h; exact h
theorem Tri.drawnS {E : Env} {s : St} {post : Exit → St → Prop} {id : Nat} {l : List Oper} (ys : List Sh) (bef : List (List Nat)) {s' : St} {cs : Prop} (tk sk : List Nat) (hm : E.P.follows .mixedOrders = true)
    (hb : (match Nat.beq l.length ys.length with | true => (match drawB l (shFill E.P l.toArray s bef 0 l ys []) bef s with | true => autoGood E.N E.P l.toArray l (shFill E.P l.toArray s bef 0 l ys []) ys | false => false) | false => false) = true)
    (hn : needsOk (shFill E.P l.toArray s bef 0 l ys []) bef s 0 (shFill E.P l.toArray s bef 0 l ys []) = needsOf (shFill E.P l.toArray s bef 0 l ys []))
    (hv : (fun r => autoVals E.P l.toArray r l (shFill E.P l.toArray s bef 0 l ys []) ys) = fun _ => autoVals E.P l.toArray ⟨[], []⟩ l (shFill E.P l.toArray s bef 0 l ys []) ys)
    (hce : autoConds E.P l.toArray l (shFill E.P l.toArray s bef 0 l ys []) ys = cs) (hc : cs) (hman : ManOk E l.toArray l ys)
    (hk : Av.keep tk sk (stD (fun _ => true) 0 (shFill E.P l.toArray s bef 0 l ys []) s) = some s') (hp : post .normal s') : Tri E (.region id l.toArray true) s post := by
  have h2 : ∀ {b z : Bool}, (match b with | true => z | false => false) = true → b = true ∧ z = true := fun {b z} h => by cases b <;> simp_all
  obtain ⟨hlen, hb⟩ := h2 hb
  obtain ⟨hd, hg⟩ := h2 hb
  exact Tri.drawn hm hd hn (eachOf l ys 0 [] hlen (fun r => congrFun hv r) hg (hce ▸ hc) hman) hk hp
end Go.Av
namespace Go.Av
open Go
set_option linter.unusedVariables false
section
variable {E : Env} {s : St} {post : Exit → St → Prop} {id : Nat} {l : List Oper} {y : Code}
theorem Tri.segL (tk sk : List Nat) (s' : St) (c : Prop) (he : evalSeg E.P E.N l.toArray l tk sk s = some (s', c)) (hc : c) (h : Tri E y s' post) : Tri E (.seq (.region id l.toArray false) y) s post := by
  refine Tri.seqS ?_
  refine Tri.reg ?_
  have hl : (l.drop 0).take l.length = l := by rw [List.drop_zero, List.take_of_length_le (Nat.le_refl _)]
  refine At.seg l.length tk sk (s' := s') (c := c) (by rw [hl]; exact he) hc ?_
  rw [Nat.zero_add]
  exact At.done (Nat.ble_eq_true_of_le (Nat.le_refl _)) h
def segSt (P : Program) (N : Nat) (l : List Oper) (tk sk : List Nat) (s : St) : St := match evalSeg P N l.toArray l tk sk s with | some (s', _) => s' | none => ⟨[], []⟩
def segOk (P : Program) (N : Nat) (l : List Oper) (tk sk : List Nat) (s : St) : Bool := match evalSeg P N l.toArray l tk sk s with | some _ => true | none => false
def segP (P : Program) (N : Nat) (l : List Oper) (tk sk : List Nat) (s : St) : Prop := match evalSeg P N l.toArray l tk sk s with | some (_, c) => c | none => False
theorem Tri.segC (tk sk : List Nat) (c : Prop) (ho : segOk E.P E.N l tk sk s = true) (hp : segP E.P E.N l tk sk s = c) (hc : c) (h : Tri E y (segSt E.P E.N l tk sk s) post) : Tri E (.seq (.region id l.toArray false) y) s post := by
  unfold segOk segP at *
  unfold segSt at h
  cases he : evalSeg E.P E.N l.toArray l tk sk s with
  | none => rw [he] at ho; cases ho
  | some r =>
    obtain ⟨s', c'⟩ := r
    rw [he] at hp h
    simp only at hp h
    subst hp
    exact Tri.segL tk sk s' c' he hc h
end
def allT : Nat → Prop
  | 0 => True
  | n + 1 => True ∧ allT n
theorem allT_ok : ∀ n, allT n
  | 0 => trivial
  | n + 1 => ⟨trivial, allT_ok n⟩
end Go.Av
/-
  Numbers and bits: without any program.
-/
namespace Go.Av
open Go
set_option linter.unusedVariables false
set_option linter.unusedSimpArgs false
theorem wrap_u64 (n : Int) : IntKind.u64.wrap n = n % 18446744073709551616 := by simp [IntKind.wrap, IntKind.bits, IntKind.signed]
theorem wrap_i64 (n : Int) : IntKind.i64.wrap n = if n % 18446744073709551616 ≥ 9223372036854775808 then n % 18446744073709551616 - 18446744073709551616 else n % 18446744073709551616 := by
  simp [IntKind.wrap, IntKind.bits, IntKind.signed]
def in64 (x : Int) : Prop := -9223372036854775808 ≤ x ∧ x < 9223372036854775808
def inU64 (x : Int) : Prop := 0 ≤ x ∧ x < 18446744073709551616
theorem shr63 {x : Int} (h : in64 x) : shrOp .i64 x 63 = if x < 0 then -1 else 0 := by
  unfold in64 at h
  unfold shrOp
  have e : (2 : Int) ^ (min (63 : Int).toNat IntKind.i64.bits) = 9223372036854775808 := by decide
  rw [e, Int.fdiv_eq_ediv_of_nonneg _ (by decide)]
  split <;> omega
theorem shr_nat (k : IntKind) (n m : Nat) (hm : m ≤ k.bits) : shrOp k (n : Int) (m : Int) = ((n / 2 ^ m : Nat) : Int) := by
  unfold shrOp
  rw [Int.toNat_natCast, Nat.min_eq_left hm, Int.fdiv_eq_ediv_of_nonneg _ (by exact Int.le_of_lt (Int.pow_pos (by decide)))]
  push_cast
  rfl
end Go.Av
/-
  Orders, as comparisons with three answers: without any program.
-/
namespace Go.Av
open Go
set_option linter.unusedVariables false
set_option linter.unusedSimpArgs false
structure IsCmp {α : Type} (c : α → α → Int) : Prop where
  vals : ∀ a b, c a b = -1 ∨ c a b = 0 ∨ c a b = 1
  anti : ∀ a b, c b a = - c a b
  tr : ∀ a b d, c a b ≤ 0 → c b d ≤ 0 → c a d ≤ 0
namespace IsCmp
variable {α β : Type} {c : α → α → Int}
theorem refl (h : IsCmp c) (a : α) : c a a = 0 := by have := h.anti a a; omega
theorem lt_tr (h : IsCmp c) {a b d : α} (h1 : c a b < 0) (h2 : c b d ≤ 0) : c a d < 0 := by
  have := h.tr a b d (by omega) h2
  rcases h.vals a d with g | g | g
  · omega
  · have g1 := h.anti a d
    have g2 := h.tr b d a h2 (by omega)
    have g3 := h.anti a b
    omega
  · omega
theorem eqL (h : IsCmp c) {a b : α} (d : α) (h1 : c a b = 0) : c a d = c b d := by
  have h2 := h.anti a b
  have t1 := h.tr a b d (by omega)
  have t2 := h.tr b a d (by omega)
  have t3 := h.tr d a b
  have t4 := h.tr d b a
  have a1 := h.anti a d
  have a2 := h.anti b d
  rcases h.vals a d with g | g | g <;> rcases h.vals b d with k | k | k <;> omega
theorem eqR (h : IsCmp c) {a b : α} (d : α) (h1 : c a b = 0) : c d a = c d b := by
  have := h.eqL d h1
  have a1 := h.anti a d
  have a2 := h.anti b d
  omega
theorem symm0 (h : IsCmp c) {a b : α} (h1 : c a b = 0) : c b a = 0 := by have := h.anti a b; omega
theorem on (h : IsCmp c) (f : β → α) : IsCmp fun x y => c (f x) (f y) := ⟨fun a b => h.vals _ _, fun a b => h.anti _ _, fun a b d => h.tr _ _ _⟩
end IsCmp
def cmpZ (a b : Int) : Int := if a < b then -1 else if b < a then 1 else 0
theorem cmpZ_is : IsCmp cmpZ where
  vals a b := by unfold cmpZ; split <;> (try split) <;> simp
  anti a b := by unfold cmpZ; split <;> (try split) <;> (try split) <;> (try split) <;> omega
  tr a b d := by unfold cmpZ; split <;> (try split) <;> (try split) <;> (try split) <;> (try split) <;> (try split) <;> omega
theorem cmpZ_zero {a b : Int} : cmpZ a b = 0 ↔ a = b := by unfold cmpZ; split <;> (try split) <;> omega
def thenC (u v : Int) : Int := if u = 0 then v else u
def cmpL {α : Type} (c : α → α → Int) : List α → List α → Int
  | [], [] => 0
  | [], _ :: _ => -1
  | _ :: _, [] => 1
  | a :: x, b :: y => thenC (c a b) (cmpL c x y)
theorem IsCmp.list {α : Type} {c : α → α → Int} (h : IsCmp c) : IsCmp (cmpL c) where
  vals := by
    intro a
    induction a with
    | nil => intro b; cases b <;> simp [cmpL]
    | cons x a ih =>
      intro b
      cases b with
      | nil => simp [cmpL]
      | cons y b =>
        simp only [cmpL, thenC]
        split
        · exact ih b
        · exact h.vals x y
  anti := by
    intro a
    induction a with
    | nil => intro b; cases b <;> simp [cmpL]
    | cons x a ih =>
      intro b
      cases b with
      | nil => simp [cmpL]
      | cons y b =>
        have h1 := h.anti x y
        have h2 := ih b
        simp only [cmpL, thenC]
        split <;> split <;> omega
  tr := by
    intro a
    induction a with
    | nil => intro b d _ _; cases d <;> simp [cmpL]
    | cons x a ih =>
      intro b d h1 h2
      cases b with
      | nil => simp [cmpL] at h1
      | cons y b =>
        cases d with
        | nil => simp [cmpL] at h2
        | cons z d =>
          simp only [cmpL] at *
          unfold thenC at *
          by_cases g1 : c x y = 0 <;> by_cases g2 : c y z = 0
          · have := h.eqL z g1
            rw [if_pos g1] at h1; rw [if_pos g2] at h2; rw [if_pos (by omega)]
            exact ih b d h1 h2
          · have := h.eqL z g1
            rw [if_neg g2] at h2; rw [if_neg (by omega)]; omega
          · have := h.eqR x g2
            rw [if_neg g1] at h1; rw [if_neg (by omega)]; omega
          · rw [if_neg g1] at h1; rw [if_neg g2] at h2
            have := h.lt_tr (a := x) (b := y) (d := z) (by omega) h2
            rw [if_neg (by omega)]; omega
def cmpU8 (a b : UInt8) : Int := cmpZ (a.toNat : Int) (b.toNat : Int)
theorem cmpU8_is : IsCmp cmpU8 := cmpZ_is.on fun a : UInt8 => (a.toNat : Int)
theorem bytesLess_cmp : ∀ x y : List UInt8, Op.bytesLess x y = decide (cmpL cmpU8 x y < 0)
  | [], [] => by simp [Op.bytesLess, cmpL]
  | [], _ :: _ => by simp [Op.bytesLess, cmpL]
  | _ :: _, [] => by simp [Op.bytesLess, cmpL]
  | a :: x, b :: y => by
    rw [Op.bytesLess, bytesLess_cmp x y, cmpL]
    have e1 : (a < b) ↔ (a.toNat : Int) < (b.toNat : Int) := by rw [UInt8.lt_iff_toNat_lt]; omega
    have e2 : (a = b) ↔ (a.toNat : Int) = (b.toNat : Int) := by rw [← UInt8.toNat_inj]; omega
    unfold cmpU8 thenC cmpZ
    rw [Bool.eq_iff_iff]
    simp only [Bool.or_eq_true, Bool.and_eq_true, decide_eq_true_eq, beq_iff_eq, e1, e2]
    by_cases h1 : (a.toNat : Int) < (b.toNat : Int)
    · simp [h1]
    · by_cases h2 : (b.toNat : Int) < (a.toNat : Int)
      · simp [h1, h2]; omega
      · have : (a.toNat : Int) = (b.toNat : Int) := by omega
        simp [this]
theorem bytesEq_cmp : ∀ x y : List UInt8, (x == y) = decide (cmpL cmpU8 x y = 0)
  | [], [] => by simp [cmpL]
  | [], _ :: _ => by simp [cmpL]
  | _ :: _, [] => by simp [cmpL]
  | a :: x, b :: y => by
    rw [List.cons_beq_cons, bytesEq_cmp x y, cmpL]
    have e2 : (a = b) ↔ (a.toNat : Int) = (b.toNat : Int) := by rw [← UInt8.toNat_inj]; omega
    have e3 : cmpU8 a b = 0 ↔ (a.toNat : Int) = (b.toNat : Int) := cmpZ_zero
    unfold thenC
    rw [Bool.eq_iff_iff]
    simp only [Bool.and_eq_true, decide_eq_true_eq, beq_iff_eq, e2]
    by_cases h : cmpU8 a b = 0
    · rw [if_pos h]; simp [e3.1 h]
    · rw [if_neg h]
      constructor
      · rintro ⟨g, _⟩; exact absurd (e3.2 g) h
      · intro g; exact absurd g h
def cmpS (a b : ByteArray) : Int := cmpL cmpU8 a.toList b.toList
theorem cmpS_is : IsCmp cmpS := cmpU8_is.list.on fun a : ByteArray => a.toList
theorem strLt_cmp (a b : ByteArray) : strLt a b = decide (cmpS a b < 0) := bytesLess_cmp _ _
theorem strEq_cmp (a b : ByteArray) : strEq a b = decide (cmpS a b = 0) := bytesEq_cmp _ _
theorem strEq_self (a : ByteArray) : strEq a a = true := by unfold strEq; simp
theorem ba_toList_inj {a b : ByteArray} (h : a.toList = b.toList) : a = b := by
  rw [ByteArray.toList_eq, ByteArray.toList_eq] at h
  cases a; cases b
  simp at h
  simp [h]
theorem strEq_iff {a b : ByteArray} : strEq a b = true ↔ a = b := by
  unfold strEq
  rw [beq_iff_eq]
  exact ⟨ba_toList_inj, fun h => by rw [h]⟩
theorem cmpS_zero {a b : ByteArray} : cmpS a b = 0 ↔ a = b := by
  rw [← strEq_iff, strEq_cmp, decide_eq_true_eq]
theorem drop_cons_getD {α : Type} [Inhabited α] {l : List α} {i : Nat} (h : i < l.length) : l.drop i = l.getD i default :: l.drop (i + 1) := by
  rw [List.drop_eq_getElem_cons h, List.getD_eq_getElem?_getD, List.getElem?_eq_getElem h]; rfl
theorem cmpLoop {α : Type} [Inhabited α] {c : α → α → Int} {p0 p1 : List α} {B : Nat → Unit → Option (Ctl Unit Int)} {kn : Unit → Option Int}
    (hB : ∀ i, i < p0.length → B i () = if p1.length ≤ i then some (.ret 1) else if c (p0.getD i default) (p1.getD i default) = 0 then some (.next ()) else some (.ret (c (p0.getD i default) (p1.getD i default))))
    (hk : kn () = some (if p0.length < p1.length then -1 else 0)) : outK (rangeN B p0.length 0 ()) kn (fun x => some x) = some (cmpL c p0 p1) := by
  have key : ∀ k i, i + k = p0.length → i ≤ p1.length → outK (rangeN B k i ()) kn (fun x => some x) = some (cmpL c (p0.drop i) (p1.drop i)) := by
    intro k
    induction k with
    | zero =>
      intro i hi hle
      simp only [rangeN, outK_done, hk]
      rw [List.drop_eq_nil_of_le (by omega : p0.length ≤ i)]
      by_cases h : p0.length < p1.length
      · rw [if_pos h, drop_cons_getD (by omega : i < p1.length)]; rfl
      · rw [if_neg h, List.drop_eq_nil_of_le (by omega : p1.length ≤ i)]; rfl
    | succ k ih =>
      intro i hi hle
      simp only [rangeN, hB i (by omega)]
      rw [drop_cons_getD (by omega : i < p0.length)]
      by_cases h : p1.length ≤ i
      · rw [if_pos h, List.drop_eq_nil_of_le (by omega : p1.length ≤ i)]; rfl
      · rw [if_neg h, drop_cons_getD (by omega : i < p1.length)]
        simp only [cmpL, thenC]
        by_cases h0 : c (p0.getD i default) (p1.getD i default) = 0
        · rw [if_pos h0, if_pos h0]; exact ih (i + 1) (by omega) (by omega)
        · rw [if_neg h0, if_neg h0]; rfl
  exact key p0.length 0 (by omega) (by omega)
end Go.Av
namespace Go.Av
open Go
set_option linter.unusedVariables false
set_option linter.unusedSimpArgs false
section
variable {α : Type} [Inhabited α]
theorem arr_get (d : Array α) (j : Nat) : d.toList.getD j default = d[j]! := by
  rw [List.getD_eq_getElem?_getD, Array.getElem?_toList, getElem!_def]
  cases d[j]? <;> rfl
theorem arr_swp (d : Array α) (i j : Nat) : (d.toList.set i d[j]!).set j d[i]! = (Sort.swp d i j).toList := by
  unfold Sort.swp
  rw [Array.toList_setIfInBounds, Array.toList_setIfInBounds]
theorem swp_sz (d : Array α) (i j : Nat) : (Sort.swp d i j).size = d.size := by unfold Sort.swp; simp
theorem wsub1 {j : Nat} (h1 : 1 ≤ j) (h : j < 4611686018427387904) : IntKind.i64.wrap ((j : Int) - 1) = ((j - 1 : Nat) : Int) := by
  rw [wrap_small (by omega) (by omega)]; omega
theorem wadd1 {j : Nat} (h : j < 4611686018427387904) : IntKind.i64.wrap ((j : Int) + 1) = ((j + 1 : Nat) : Int) := by
  rw [wrap_small (by omega) (by omega)]; omega
theorem wsub {i j : Nat} (h1 : j ≤ i) (h : i < 4611686018427387904) : IntKind.i64.wrap ((i : Int) - (j : Int)) = ((i - j : Nat) : Int) := by
  rw [wrap_small (by omega) (by omega)]; omega
theorem wadd {i j : Nat} (h : i + j < 4611686018427387904) : IntKind.i64.wrap ((i : Int) + (j : Int)) = ((i + j : Nat) : Int) := by
  rw [wrap_small (by omega) (by omega)]; omega
theorem wtwo {i : Nat} (h : 2 * i < 4611686018427387904) : IntKind.i64.wrap ((2 : Int) * (i : Int)) = ((2 * i : Nat) : Int) := by
  rw [wrap_small (by omega) (by omega)]; omega
theorem intle {i j : Nat} : ((i : Int) ≤ (j : Int)) = (i ≤ j) := propext (by omega)
theorem intlt {i j : Nat} : ((i : Int) < (j : Int)) = (i < j) := propext (by omega)
theorem loopN_next {S R : Type} {B : S → Option (Ctl S R)} {fuel : Nat} {s s' : S} (h : B s = some (.next s')) : loopN B (fuel + 1) s = loopN B fuel s' := by rw [loopN, h]
theorem loopN_brk {S R : Type} {B : S → Option (Ctl S R)} {fuel : Nat} {s s' : S} (h : B s = some (.brk s')) : loopN B (fuel + 1) s = some (.done s') := by rw [loopN, h]
theorem outK_ex {X Y R Q : Type} {o : Option (Out (X × Y) R)} {kn : X × Y → Option Q} {kr : R → Option Q} {r : Y} {q : Option Q} (h : ∃ x : X, o = some (.done (x, r))) (hk : ∀ x, kn (x, r) = q) : outK o kn kr = q := by
  obtain ⟨x, h⟩ := h
  rw [h]
  exact hk x
end
end Go.Av
namespace Go.Av
open Go
set_option linter.unusedVariables false
set_option linter.unusedSimpArgs false
section
variable {α : Type} [Inhabited α]
theorem swp_at (d : Array α) {i j : Nat} (hi : i < d.size) (hj : j < d.size) (k : Nat) : (Sort.swp d i j)[k]! = if k = j then d[i]! else if k = i then d[j]! else d[k]! := Sort.swp_get d hi hj k
def swpN (p q : Nat) : Nat → Array α → Array α
  | 0, d => d
  | k + 1, d => Sort.swp (swpN p q k d) (p + k) (q + k)
theorem swpN_sz (p q : Nat) : ∀ (n : Nat) (d : Array α), (swpN p q n d).size = d.size
  | 0, d => rfl
  | k + 1, d => by unfold swpN; rw [swp_sz, swpN_sz p q k]
def srF (p q n : Nat) (d : Array α) (x : Nat) : α := if p ≤ x ∧ x < p + n then d[x - p + q]! else if q ≤ x ∧ x < q + n then d[x - q + p]! else d[x]!
theorem swpN_get {p q : Nat} {d : Array α} : ∀ {n : Nat}, (p + n ≤ q ∨ q + n ≤ p) → p + n ≤ d.size → q + n ≤ d.size → ∀ x, (swpN p q n d)[x]! = srF p q n d x
  | 0, _, _, _, x => by
    unfold swpN srF
    rw [if_neg (by omega), if_neg (by omega)]
  | k + 1, h, hp, hq, x => by
    have ih := swpN_get (p := p) (q := q) (d := d) (n := k) (by omega) (by omega) (by omega)
    unfold swpN
    rw [swp_at _ (by rw [swpN_sz]; omega) (by rw [swpN_sz]; omega), ih, ih, ih]
    unfold srF
    by_cases h1 : x = q + k
    · subst h1
      rw [if_pos rfl, if_neg (by omega), if_neg (by omega), if_neg (by omega), if_pos (by omega)]
      congr 1; omega
    · rw [if_neg h1]
      by_cases h2 : x = p + k
      · subst h2
        rw [if_pos rfl, if_neg (by omega), if_neg (by omega), if_pos (by omega)]
        congr 1; omega
      · rw [if_neg h2]
        by_cases h3 : p ≤ x ∧ x < p + k
        · rw [if_pos h3, if_pos (by omega)]
        · rw [if_neg h3, if_neg (show ¬ (p ≤ x ∧ x < p + (k + 1)) by omega)]
          by_cases h4 : q ≤ x ∧ x < q + k
          · rw [if_pos h4, if_pos (by omega)]
          · rw [if_neg h4, if_neg (by omega)]
theorem swpN_perm {p q a b : Nat} {d : Array α} (hb : b ≤ d.size) : ∀ {n : Nat}, a ≤ p → a ≤ q → p + n ≤ b → q + n ≤ b → Sort.PermIn a b d (swpN p q n d)
  | 0, _, _, _, _ => Sort.permIn_refl d a b
  | k + 1, h1, h2, h3, h4 => by
    unfold swpN
    exact Sort.permIn_trans _ _ _ a b (swpN_perm hb h1 h2 (by omega) (by omega)) (Sort.swp_permIn _ a b _ _ (by omega) (by omega) (by omega) (by omega) (by rw [swpN_sz]; exact hb))
theorem swpN_loop {R : Type} {B : Int × List α → Option (Ctl (Int × List α) R)} {p q n fuel : Nat} {d : Array α} (hf : n < fuel)
    (hB : ∀ (i : Nat) (d' : Array α), d'.size = d.size → i ≤ n → B ((i : Int), d'.toList) = if i < n then some (.next (((i + 1 : Nat) : Int), (Sort.swp d' (p + i) (q + i)).toList)) else some (.brk ((i : Int), d'.toList))) :
    ∃ x : Int, loopN B fuel ((0 : Int), d.toList) = some (.done (x, (swpN p q n d).toList)) := by
  have key : ∀ k i fuel, i + k = n → k < fuel → ∃ x : Int, loopN B fuel ((i : Int), (swpN p q i d).toList) = some (.done (x, (swpN p q n d).toList)) := by
    intro k
    induction k with
    | zero =>
      intro i fuel hi hf
      cases fuel with
      | zero => omega
      | succ fuel =>
        have h := hB i (swpN p q i d) (swpN_sz ..) (by omega)
        rw [if_neg (by omega)] at h
        rw [loopN_brk h, show i = n by omega]
        exact ⟨_, rfl⟩
    | succ k ih =>
      intro i fuel hi hf
      cases fuel with
      | zero => omega
      | succ fuel =>
        have h := hB i (swpN p q i d) (swpN_sz ..) (by omega)
        rw [if_pos (by omega)] at h
        rw [loopN_next h]
        exact ih (i + 1) fuel (by omega) (by omega)
  exact key n 0 fuel (by omega) hf
def rotF (a m b : Nat) (d : Array α) (x : Nat) : α := if a ≤ x ∧ x < a + (b - m) then d[x - a + m]! else if a + (b - m) ≤ x ∧ x < b then d[x - (a + (b - m)) + a]! else d[x]!
structure RotTo (a m b : Nat) (d d' : Array α) : Prop where
  perm : Sort.PermIn a b d d'
  get : ∀ x, d'[x]! = rotF a m b d x
theorem rot_left {m i j : Nat} {d : Array α} (him : i ≤ m) (hij : j < i) (x : Nat) (d' : Array α) (hd' : ∀ x, d'[x]! = srF (m - i) m j d x) : rotF (m - i + j) m (m + j) d' x = rotF (m - i) m (m + j) d x := by
  unfold rotF
  rw [hd', hd', hd']
  unfold srF
  repeat' split
  all_goals first | omega | (congr 1; done) | (congr 1; omega)
theorem rot_right {m i j : Nat} {d : Array α} (him : i ≤ m) (hij : i < j) (x : Nat) (d' : Array α) (hd' : ∀ x, d'[x]! = srF (m - i) (m + j - i) i d x) : rotF (m - i) m (m + j - i) d' x = rotF (m - i) m (m + j) d x := by
  unfold rotF
  rw [hd', hd', hd']
  unfold srF
  repeat' split
  all_goals first | omega | (congr 1; done) | (congr 1; omega)
theorem rot_last {m i : Nat} {d : Array α} (him : i ≤ m) (x : Nat) : srF (m - i) m i d x = rotF (m - i) m (m + i) d x := by
  unfold rotF srF
  repeat' split
  all_goals first | omega | (congr 1; done) | (congr 1; omega)
theorem rot_loop {R : Type} {B : Int × Int × List α → Option (Ctl (Int × Int × List α) R)} {m a b : Nat} {d0 : Array α} (hb : b ≤ d0.size) : ∀ (n i j fuel : Nat) (d : Array α), i + j ≤ n → n < fuel → 1 ≤ i → 1 ≤ j → a ≤ m - i → i ≤ m → m + j ≤ b → d.size = d0.size →
    (∀ (i j : Nat) (d' : Array α), d'.size = d0.size → 1 ≤ i → 1 ≤ j → i ≤ m → m + j ≤ b → B ((i : Int), (j : Int), d'.toList) = if i = j then some (.brk ((i : Int), (j : Int), d'.toList)) else if j < i then some (.next (((i - j : Nat) : Int), (j : Int), (swpN (m - i) m j d').toList)) else some (.next ((i : Int), ((j - i : Nat) : Int), (swpN (m - i) (m + j - i) i d').toList))) →
    ∃ (k : Nat) (d' : Array α), loopN B fuel ((i : Int), (j : Int), d.toList) = some (.done ((k : Int), (k : Int), d'.toList)) ∧ 1 ≤ k ∧ k ≤ i ∧ k ≤ j ∧ d'.size = d.size ∧ Sort.PermIn a b d d' ∧ ∀ x, rotF (m - k) m (m + k) d' x = rotF (m - i) m (m + j) d x := by
  intro n
  induction n with
  | zero => intro i j fuel d hn hf h1 h2; omega
  | succ n ih =>
    intro i j fuel d hn hf h1 h2 h3 h4 h5 h6 hB
    cases fuel with
    | zero => omega
    | succ fuel =>
      have h := hB i j d h6 h1 h2 h4 h5
      by_cases e : i = j
      · rw [if_pos e] at h
        subst e
        exact ⟨i, d, loopN_brk h, h1, Nat.le_refl _, Nat.le_refl _, rfl, Sort.permIn_refl d a b, fun x => rfl⟩
      · rw [if_neg e] at h
        by_cases hl : j < i
        · rw [if_pos hl] at h
          obtain ⟨k, d', g1, g2, g3, g4, g5, g6, g7⟩ := ih (i - j) j fuel (swpN (m - i) m j d) (by omega) (by omega) (by omega) h2 (by omega) (by omega) h5 (by rw [swpN_sz]; exact h6) hB
          refine ⟨k, d', by rw [loopN_next h, g1], g2, by omega, g4, by rw [g5, swpN_sz], Sort.permIn_trans _ _ _ a b (swpN_perm (by omega) (by omega) (by omega) (by omega) (by omega)) g6, fun x => ?_⟩
          rw [g7]
          have := rot_left (m := m) (i := i) (j := j) (d := d) h4 hl x (swpN (m - i) m j d) (swpN_get (by omega) (by omega) (by omega))
          rw [show m - (i - j) = m - i + j by omega]
          exact this
        · rw [if_neg hl] at h
          obtain ⟨k, d', g1, g2, g3, g4, g5, g6, g7⟩ := ih i (j - i) fuel (swpN (m - i) (m + j - i) i d) (by omega) (by omega) h1 (by omega) h3 h4 (by omega) (by rw [swpN_sz]; exact h6) hB
          refine ⟨k, d', by rw [loopN_next h, g1], g2, g3, by omega, by rw [g5, swpN_sz], Sort.permIn_trans _ _ _ a b (swpN_perm (by omega) (by omega) (by omega) (by omega) (by omega)) g6, fun x => ?_⟩
          rw [g7]
          have := rot_right (m := m) (i := i) (j := j) (d := d) h4 (by omega) x (swpN (m - i) (m + j - i) i d) (swpN_get (by omega) (by omega) (by omega))
          rw [show m + (j - i) = m + j - i by omega]
          exact this
end
end Go.Av
namespace Go.Av
open Go
set_option linter.unusedVariables false
set_option linter.unusedSimpArgs false
section
variable {α : Type} [Inhabited α]
theorem bs_loop {R : Type} {B : Int × Int → Option (Ctl (Int × Int) R)} {P : Nat → Bool} {i0 j0 : Nat} : ∀ (n i j fuel : Nat), j - i ≤ n → n < fuel → i0 ≤ i → i ≤ j → j ≤ j0 → (i = i0 ∨ P (i - 1) = true) → (j = j0 ∨ P j = false) →
    (∀ i j : Nat, i0 ≤ i → i ≤ j → j ≤ j0 → B ((i : Int), (j : Int)) = if i < j then (if P ((i + j) / 2) = true then some (.next ((((i + j) / 2 + 1 : Nat) : Int), (j : Int))) else some (.next ((i : Int), (((i + j) / 2 : Nat) : Int)))) else some (.brk ((i : Int), (j : Int)))) →
    ∃ r : Nat, loopN B fuel ((i : Int), (j : Int)) = some (.done ((r : Int), (r : Int))) ∧ i0 ≤ r ∧ r ≤ j0 ∧ (r = i0 ∨ P (r - 1) = true) ∧ (r = j0 ∨ P r = false) := by
  intro n
  induction n with
  | zero =>
    intro i j fuel hn hf h1 h2 h3 h4 h5 hB
    cases fuel with
    | zero => omega
    | succ fuel =>
      have h := hB i j h1 h2 h3
      rw [if_neg (by omega)] at h
      have : i = j := by omega
      subst this
      exact ⟨i, loopN_brk h, h1, h3, h4, h5⟩
  | succ n ih =>
    intro i j fuel hn hf h1 h2 h3 h4 h5 hB
    cases fuel with
    | zero => omega
    | succ fuel =>
      have h := hB i j h1 h2 h3
      by_cases hl : i < j
      · rw [if_pos hl] at h
        by_cases hp : P ((i + j) / 2) = true
        · rw [if_pos hp] at h
          rw [loopN_next h]
          exact ih _ j fuel (by omega) (by omega) (by omega) (by omega) h3 (.inr (by rw [Nat.add_sub_cancel]; exact hp)) h5 hB
        · rw [if_neg hp] at h
          rw [loopN_next h]
          exact ih i _ fuel (by omega) (by omega) h1 (by omega) (by omega) h4 (.inr (by simpa using hp)) hB
      · rw [if_neg hl] at h
        have : i = j := by omega
        subst this
        exact ⟨i, loopN_brk h, h1, h3, h4, h5⟩
variable {lt : α → α → Bool}
theorem glue2 {a mid b : Nat} {d : Array α} (h1 : Sort.SortedIn lt a mid d) (h2 : Sort.SortedIn lt mid b d) (hx : ∀ x y, a ≤ x → x < mid → mid ≤ y → y < b → lt d[y]! d[x]! = false) : Sort.SortedIn lt a b d := by
  intro i j hi hij hj
  by_cases h3 : j < mid
  · exact h1 i j hi hij h3
  · by_cases h4 : mid ≤ i
    · exact h2 i j h4 hij hj
    · exact hx i j hi (by omega) (by omega) hj
theorem rot_cross (hS : Sort.SWO lt) {a m b s e : Nat} {d d' : Array α} (h1 : Sort.SortedIn lt a m d) (h2 : Sort.SortedIn lt m b d) (hs : a ≤ s ∧ s ≤ m) (he : m ≤ e ∧ e ≤ b) (hr : ∀ x, d'[x]! = rotF s m e d x)
    (hA : s = a ∨ e = b ∨ lt d[e]! d[s - 1]! = false) (hB : s = m ∨ e = m ∨ lt d[e - 1]! d[s]! = true) :
    (∀ x y, a ≤ x → x < s + (e - m) → s + (e - m) ≤ y → y < b → lt d'[y]! d'[x]! = false) ∧ Sort.SortedIn lt a s d' ∧ Sort.SortedIn lt s (s + (e - m)) d' ∧ Sort.SortedIn lt (s + (e - m)) e d' ∧ Sort.SortedIn lt e b d' := by
  -- where each one comes from
  have f1 : ∀ x, x < s → d'[x]! = d[x]! := fun x hx => by rw [hr]; unfold rotF; rw [if_neg (by omega), if_neg (by omega)]
  have f2 : ∀ x, s ≤ x → x < s + (e - m) → d'[x]! = d[x - s + m]! := fun x hx hy => by rw [hr]; unfold rotF; rw [if_pos (by omega)]
  have f3 : ∀ x, s + (e - m) ≤ x → x < e → d'[x]! = d[x - (s + (e - m)) + s]! := fun x hx hy => by rw [hr]; unfold rotF; rw [if_neg (by omega), if_pos (by omega)]
  have f4 : ∀ x, e ≤ x → d'[x]! = d[x]! := fun x hx => by rw [hr]; unfold rotF; rw [if_neg (by omega), if_neg (by omega)]
  have le1 : ∀ x y, a ≤ x → x ≤ y → y < m → lt d[y]! d[x]! = false := fun x y g1 g2 g3 => by
    by_cases g : x = y
    · subst g; exact hS.irrefl _
    · exact h1 x y g1 (by omega) g3
  have le2 : ∀ x y, m ≤ x → x ≤ y → y < b → lt d[y]! d[x]! = false := fun x y g1 g2 g3 => by
    by_cases g : x = y
    · subst g; exact hS.irrefl _
    · exact h2 x y g1 (by omega) g3
  refine ⟨?_, ?_, ?_, ?_, ?_⟩
  · intro x y hx1 hx2 hy1 hy2
    by_cases c1 : x < s
    · rw [f1 x c1]
      by_cases c2 : y < e
      · rw [f3 y hy1 c2]
        exact le1 _ _ hx1 (by omega) (by omega)
      · rw [f4 y (by omega)]
        rcases hA with h | h | h
        · omega
        · omega
        · exact hS.ntrans _ _ _ (hS.ntrans _ _ _ (le2 e y (by omega) (by omega) hy2) h) (le1 x (s - 1) hx1 (by omega) (by omega))
    · rw [f2 x (by omega) hx2]
      by_cases c2 : y < e
      · rw [f3 y hy1 c2]
        rcases hB with h | h | h
        · omega
        · omega
        · exact hS.ntrans _ _ _ (hS.ntrans _ _ _ (le1 s _ hs.1 (by omega) (by omega)) (hS.asymm h)) (le2 (x - s + m) (e - 1) (by omega) (by omega) (by omega))
      · rw [f4 y (by omega)]
        exact le2 _ _ (by omega) (by omega) hy2
  · intro i j hi hij hj
    rw [f1 i (by omega), f1 j hj]
    exact h1 i j hi hij (by omega)
  · intro i j hi hij hj
    rw [f2 i hi (by omega), f2 j (by omega) hj]
    exact h2 _ _ (by omega) (by omega) (by omega)
  · intro i j hi hij hj
    rw [f3 i hi (by omega), f3 j (by omega) hj]
    exact h1 _ _ (by omega) (by omega) (by omega)
  · intro i j hi hij hj
    rw [f4 i hi, f4 j (by omega)]
    exact h2 i j (by omega) hij hj
structure MergeTo (lt : α → α → Bool) (a b : Nat) (d d' : Array α) : Prop where
  perm : Sort.PermIn a b d d'
  sorted : Sort.SortedIn lt a b d'
theorem merge_halves (hS : Sort.SWO lt) {a mid b : Nat} {d d1 d2 d3 : Array α} (hab : a ≤ mid ∧ mid ≤ b) (hb : b ≤ d.size) (hp : Sort.PermIn a b d d1)
    (hx : ∀ x y, a ≤ x → x < mid → mid ≤ y → y < b → lt d1[y]! d1[x]! = false) (h2 : MergeTo lt a mid d1 d2) (h3 : MergeTo lt mid b d2 d3) : MergeTo lt a b d d3 := by
  have s1 : d1.size = d.size := hp.1
  have s2 : d2.size = d1.size := h2.perm.1
  have p2 : Sort.PermIn a b d1 d2 := Sort.permIn_mono _ _ a mid a b (Nat.le_refl _) hab.2 (by omega) h2.perm
  have p3 : Sort.PermIn a b d2 d3 := Sort.permIn_mono _ _ mid b a b hab.1 (Nat.le_refl _) (by omega) h3.perm
  refine ⟨Sort.permIn_trans _ _ _ a b hp (Sort.permIn_trans _ _ _ a b p2 p3), glue2 (mid := mid) ?_ h3.sorted ?_⟩
  · intro i j hi hij hj
    rw [h3.perm.2.1 i (.inl (by omega)), h3.perm.2.1 j (.inl hj)]
    exact h2.sorted i j hi hij hj
  · have c1 : ∀ x y, a ≤ x → x < mid → mid ≤ y → y < b → lt d2[y]! d2[x]! = false := fun x y g1 g2 g3 g4 => by
      rw [h2.perm.2.1 y (.inr g3)]
      exact Sort.permIn_all d1 d2 a mid (fun z => lt d1[y]! z = false) (by omega) h2.perm (fun i k1 k2 => hx i y k1 k2 g3 g4) x g1 g2
    intro x y g1 g2 g3 g4
    rw [h3.perm.2.1 x (.inl g2)]
    exact Sort.permIn_all d2 d3 mid b (fun z => lt z d2[x]! = false) (by omega) h3.perm (fun i k1 k2 => c1 x i g1 g2 k1 k2) y g3 g4
theorem merge_self {a b : Nat} {d : Array α} (h : Sort.SortedIn lt a b d) : MergeTo lt a b d d := ⟨Sort.permIn_refl d a b, h⟩
theorem sorted_empty {a b : Nat} {d : Array α} (h : b ≤ a + 1) : Sort.SortedIn lt a b d := fun i j h1 h2 h3 => by omega
end
end Go.Av
namespace Go.Av
open Go
set_option linter.unusedVariables false
section
variable {α : Type} [Inhabited α]
def insG (cmp : α → α → Option Int) (fuel : Nat) (p1 : Int) (p2 : Int) (l0 : List α) : Option (List α) :=
  outK (loopN (S := Int × (List α)) (R := Empty) (fun (a1 : Int × (List α)) => bf (decide (a1.1 < p2)) (outK (loopN (S := Int × (List α)) (R := Empty) (fun (a3 : Int × (List α)) => jn (fun (a5 : Bool) => bf a5 (need ((0 : Int) ≤ (IntKind.i64.wrap (a3.1 - 1)) ∧ (IntKind.i64.wrap (a3.1 - 1)) < (a3.2.length : Int)) <| need ((0 + (IntKind.i64.wrap (a3.1 - 1)).toNat) < a3.2.length) <| need ((0 : Int) ≤ a3.1 ∧ a3.1 < (a3.2.length : Int)) <| need ((0 + a3.1.toNat) < a3.2.length) <| need ((0 : Int) ≤ a3.1 ∧ a3.1 < (a3.2.length : Int)) <| need ((0 + a3.1.toNat) < a3.2.length) <| need ((0 : Int) ≤ (IntKind.i64.wrap (a3.1 - 1)) ∧ (IntKind.i64.wrap (a3.1 - 1)) < (a3.2.length : Int)) <| need ((0 + (IntKind.i64.wrap (a3.1 - 1)).toNat) < (a3.2.set (0 + a3.1.toNat) (a3.2.getD (0 + (IntKind.i64.wrap (a3.1 - 1)).toNat) default)).length) <| some (.next ((IntKind.i64.wrap (a3.1 - 1)), ((a3.2.set (0 + a3.1.toNat) (a3.2.getD (0 + (IntKind.i64.wrap (a3.1 - 1)).toNat) default)).set (0 + (IntKind.i64.wrap (a3.1 - 1)).toNat) (a3.2.getD (0 + a3.1.toNat) default))))) (some (.brk (a3.1, a3.2)))) fun j6 => bf (decide (p1 < a3.1)) (need ((0 : Int) ≤ a3.1 ∧ a3.1 < (a3.2.length : Int)) <| need ((0 + a3.1.toNat) < a3.2.length) <| need ((0 : Int) ≤ (IntKind.i64.wrap (a3.1 - 1)) ∧ (IntKind.i64.wrap (a3.1 - 1)) < (a3.2.length : Int)) <| need ((0 + (IntKind.i64.wrap (a3.1 - 1)).toNat) < a3.2.length) <| (cmp (a3.2.getD (0 + a3.1.toNat) default) (a3.2.getD (0 + (IntKind.i64.wrap (a3.1 - 1)).toNat) default)).bind fun r20 => j6 (decide (r20 < 0))) (j6 false)) fuel (a1.1, a1.2)) (fun (a4 : Int × (List α)) => some (.next ((IntKind.i64.wrap (a1.1 + 1)), a4.2))) (fun (x : Empty) => x.elim)) (some (.brk (a1.1, a1.2)))) fuel ((IntKind.i64.wrap (p1 + 1)), l0)) (fun (a2 : Int × (List α)) => some a2.2) (fun (x : Empty) => x.elim)
def swapG (fuel : Nat) (p1 : Int) (p2 : Int) (p3 : Int) (l0 : List α) : Option (List α) :=
  outK (loopN (S := Int × (List α)) (R := Empty) (fun (a1 : Int × (List α)) => bf (decide (a1.1 < p3)) (need ((0 : Int) ≤ (IntKind.i64.wrap (p2 + a1.1)) ∧ (IntKind.i64.wrap (p2 + a1.1)) < (a1.2.length : Int)) <| need ((0 + (IntKind.i64.wrap (p2 + a1.1)).toNat) < a1.2.length) <| need ((0 : Int) ≤ (IntKind.i64.wrap (p1 + a1.1)) ∧ (IntKind.i64.wrap (p1 + a1.1)) < (a1.2.length : Int)) <| need ((0 + (IntKind.i64.wrap (p1 + a1.1)).toNat) < a1.2.length) <| need ((0 : Int) ≤ (IntKind.i64.wrap (p1 + a1.1)) ∧ (IntKind.i64.wrap (p1 + a1.1)) < (a1.2.length : Int)) <| need ((0 + (IntKind.i64.wrap (p1 + a1.1)).toNat) < a1.2.length) <| need ((0 : Int) ≤ (IntKind.i64.wrap (p2 + a1.1)) ∧ (IntKind.i64.wrap (p2 + a1.1)) < (a1.2.length : Int)) <| need ((0 + (IntKind.i64.wrap (p2 + a1.1)).toNat) < (a1.2.set (0 + (IntKind.i64.wrap (p1 + a1.1)).toNat) (a1.2.getD (0 + (IntKind.i64.wrap (p2 + a1.1)).toNat) default)).length) <| some (.next ((IntKind.i64.wrap (a1.1 + 1)), ((a1.2.set (0 + (IntKind.i64.wrap (p1 + a1.1)).toNat) (a1.2.getD (0 + (IntKind.i64.wrap (p2 + a1.1)).toNat) default)).set (0 + (IntKind.i64.wrap (p2 + a1.1)).toNat) (a1.2.getD (0 + (IntKind.i64.wrap (p1 + a1.1)).toNat) default))))) (some (.brk (a1.1, a1.2)))) fuel (0, l0)) (fun (a2 : Int × (List α)) => some a2.2) (fun (x : Empty) => x.elim)
def rotG (fuel : Nat) (p1 : Int) (p2 : Int) (p3 : Int) (l0 : List α) : Option (List α) :=
  outK (loopN (S := Int × Int × (List α)) (R := Empty) (fun (a1 : Int × Int × (List α)) => bf (!decide (a1.1 = a1.2.1)) (bf (decide (a1.2.1 < a1.1)) ((swapG fuel (IntKind.i64.wrap (p2 - a1.1)) p2 a1.2.1 a1.2.2).bind fun r4 => need (r4.length = a1.2.2.length) <| some (.next ((IntKind.i64.wrap (a1.1 - a1.2.1)), a1.2.1, r4))) ((swapG fuel (IntKind.i64.wrap (p2 - a1.1)) (IntKind.i64.wrap ((IntKind.i64.wrap (p2 + a1.2.1)) - a1.1)) a1.1 a1.2.2).bind fun r6 => need (r6.length = a1.2.2.length) <| some (.next (a1.1, (IntKind.i64.wrap (a1.2.1 - a1.1)), r6)))) (some (.brk (a1.1, a1.2.1, a1.2.2)))) fuel ((IntKind.i64.wrap (p2 - p1)), (IntKind.i64.wrap (p3 - p2)), l0)) (fun (a2 : Int × Int × (List α)) => (swapG fuel (IntKind.i64.wrap (p2 - a2.1)) p2 a2.1 a2.2.2).bind fun r3 => some r3) (fun (x : Empty) => x.elim)
def symG (cmp : α → α → Option Int) : Nat → Int → Int → Int → (List α) → Option (List α)
  | 0, _, _, _, _ => none
  | fuel + 1, p1, p2, p3, l0 =>
  bf (decide ((IntKind.i64.wrap (p2 - p1)) = 1)) (outK (loopN (S := Int × Int) (R := Empty) (fun (a1 : Int × Int) => bf (decide (a1.1 < a1.2)) (need ((0 : Int) ≤ (IntKind.i64.wrap (shrOp .u64 (IntKind.u64.wrap (IntKind.i64.wrap (a1.1 + a1.2))) 1)) ∧ (IntKind.i64.wrap (shrOp .u64 (IntKind.u64.wrap (IntKind.i64.wrap (a1.1 + a1.2))) 1)) < (l0.length : Int)) <| need ((0 + (IntKind.i64.wrap (shrOp .u64 (IntKind.u64.wrap (IntKind.i64.wrap (a1.1 + a1.2))) 1)).toNat) < l0.length) <| need ((0 : Int) ≤ p1 ∧ p1 < (l0.length : Int)) <| need ((0 + p1.toNat) < l0.length) <| (cmp (l0.getD (0 + (IntKind.i64.wrap (shrOp .u64 (IntKind.u64.wrap (IntKind.i64.wrap (a1.1 + a1.2))) 1)).toNat) default) (l0.getD (0 + p1.toNat) default)).bind fun r17 => bf (decide (r17 < 0)) (some (.next ((IntKind.i64.wrap ((IntKind.i64.wrap (shrOp .u64 (IntKind.u64.wrap (IntKind.i64.wrap (a1.1 + a1.2))) 1)) + 1)), a1.2))) (some (.next (a1.1, (IntKind.i64.wrap (shrOp .u64 (IntKind.u64.wrap (IntKind.i64.wrap (a1.1 + a1.2))) 1)))))) (some (.brk (a1.1, a1.2)))) fuel (p2, p3)) (fun (a2 : Int × Int) => outK (loopN (S := Int × (List α)) (R := Empty) (fun (a3 : Int × (List α)) => bf (decide (a3.1 < (IntKind.i64.wrap (a2.1 - 1)))) (need ((0 : Int) ≤ (IntKind.i64.wrap (a3.1 + 1)) ∧ (IntKind.i64.wrap (a3.1 + 1)) < (a3.2.length : Int)) <| need ((0 + (IntKind.i64.wrap (a3.1 + 1)).toNat) < a3.2.length) <| need ((0 : Int) ≤ a3.1 ∧ a3.1 < (a3.2.length : Int)) <| need ((0 + a3.1.toNat) < a3.2.length) <| need ((0 : Int) ≤ a3.1 ∧ a3.1 < (a3.2.length : Int)) <| need ((0 + a3.1.toNat) < a3.2.length) <| need ((0 : Int) ≤ (IntKind.i64.wrap (a3.1 + 1)) ∧ (IntKind.i64.wrap (a3.1 + 1)) < (a3.2.length : Int)) <| need ((0 + (IntKind.i64.wrap (a3.1 + 1)).toNat) < (a3.2.set (0 + a3.1.toNat) (a3.2.getD (0 + (IntKind.i64.wrap (a3.1 + 1)).toNat) default)).length) <| some (.next ((IntKind.i64.wrap (a3.1 + 1)), ((a3.2.set (0 + a3.1.toNat) (a3.2.getD (0 + (IntKind.i64.wrap (a3.1 + 1)).toNat) default)).set (0 + (IntKind.i64.wrap (a3.1 + 1)).toNat) (a3.2.getD (0 + a3.1.toNat) default))))) (some (.brk (a3.1, a3.2)))) fuel (p1, l0)) (fun (a4 : Int × (List α)) => some a4.2) (fun (x : Empty) => x.elim)) (fun (x : Empty) => x.elim)) (bf (decide ((IntKind.i64.wrap (p3 - p2)) = 1)) (outK (loopN (S := Int × Int) (R := Empty) (fun (a18 : Int × Int) => bf (decide (a18.1 < a18.2)) (need ((0 : Int) ≤ p2 ∧ p2 < (l0.length : Int)) <| need ((0 + p2.toNat) < l0.length) <| need ((0 : Int) ≤ (IntKind.i64.wrap (shrOp .u64 (IntKind.u64.wrap (IntKind.i64.wrap (a18.1 + a18.2))) 1)) ∧ (IntKind.i64.wrap (shrOp .u64 (IntKind.u64.wrap (IntKind.i64.wrap (a18.1 + a18.2))) 1)) < (l0.length : Int)) <| need ((0 + (IntKind.i64.wrap (shrOp .u64 (IntKind.u64.wrap (IntKind.i64.wrap (a18.1 + a18.2))) 1)).toNat) < l0.length) <| (cmp (l0.getD (0 + p2.toNat) default) (l0.getD (0 + (IntKind.i64.wrap (shrOp .u64 (IntKind.u64.wrap (IntKind.i64.wrap (a18.1 + a18.2))) 1)).toNat) default)).bind fun r34 => bf (!(decide (r34 < 0))) (some (.next ((IntKind.i64.wrap ((IntKind.i64.wrap (shrOp .u64 (IntKind.u64.wrap (IntKind.i64.wrap (a18.1 + a18.2))) 1)) + 1)), a18.2))) (some (.next (a18.1, (IntKind.i64.wrap (shrOp .u64 (IntKind.u64.wrap (IntKind.i64.wrap (a18.1 + a18.2))) 1)))))) (some (.brk (a18.1, a18.2)))) fuel (p1, p2)) (fun (a19 : Int × Int) => outK (loopN (S := Int × (List α)) (R := Empty) (fun (a20 : Int × (List α)) => bf (decide (a19.1 < a20.1)) (need ((0 : Int) ≤ (IntKind.i64.wrap (a20.1 - 1)) ∧ (IntKind.i64.wrap (a20.1 - 1)) < (a20.2.length : Int)) <| need ((0 + (IntKind.i64.wrap (a20.1 - 1)).toNat) < a20.2.length) <| need ((0 : Int) ≤ a20.1 ∧ a20.1 < (a20.2.length : Int)) <| need ((0 + a20.1.toNat) < a20.2.length) <| need ((0 : Int) ≤ a20.1 ∧ a20.1 < (a20.2.length : Int)) <| need ((0 + a20.1.toNat) < a20.2.length) <| need ((0 : Int) ≤ (IntKind.i64.wrap (a20.1 - 1)) ∧ (IntKind.i64.wrap (a20.1 - 1)) < (a20.2.length : Int)) <| need ((0 + (IntKind.i64.wrap (a20.1 - 1)).toNat) < (a20.2.set (0 + a20.1.toNat) (a20.2.getD (0 + (IntKind.i64.wrap (a20.1 - 1)).toNat) default)).length) <| some (.next ((IntKind.i64.wrap (a20.1 - 1)), ((a20.2.set (0 + a20.1.toNat) (a20.2.getD (0 + (IntKind.i64.wrap (a20.1 - 1)).toNat) default)).set (0 + (IntKind.i64.wrap (a20.1 - 1)).toNat) (a20.2.getD (0 + a20.1.toNat) default))))) (some (.brk (a20.1, a20.2)))) fuel (p2, l0)) (fun (a21 : Int × (List α)) => some a21.2) (fun (x : Empty) => x.elim)) (fun (x : Empty) => x.elim)) (jn (fun (a35 : Int × Int × Int × Int) => outK (loopN (S := Int × Int) (R := Empty) (fun (a37 : Int × Int) => bf (decide (a37.1 < a37.2)) (need ((0 : Int) ≤ (IntKind.i64.wrap ((IntKind.i64.wrap (a35.2.1 - 1)) - (IntKind.i64.wrap (shrOp .u64 (IntKind.u64.wrap (IntKind.i64.wrap (a37.1 + a37.2))) 1)))) ∧ (IntKind.i64.wrap ((IntKind.i64.wrap (a35.2.1 - 1)) - (IntKind.i64.wrap (shrOp .u64 (IntKind.u64.wrap (IntKind.i64.wrap (a37.1 + a37.2))) 1)))) < (l0.length : Int)) <| need ((0 + (IntKind.i64.wrap ((IntKind.i64.wrap (a35.2.1 - 1)) - (IntKind.i64.wrap (shrOp .u64 (IntKind.u64.wrap (IntKind.i64.wrap (a37.1 + a37.2))) 1)))).toNat) < l0.length) <| need ((0 : Int) ≤ (IntKind.i64.wrap (shrOp .u64 (IntKind.u64.wrap (IntKind.i64.wrap (a37.1 + a37.2))) 1)) ∧ (IntKind.i64.wrap (shrOp .u64 (IntKind.u64.wrap (IntKind.i64.wrap (a37.1 + a37.2))) 1)) < (l0.length : Int)) <| need ((0 + (IntKind.i64.wrap (shrOp .u64 (IntKind.u64.wrap (IntKind.i64.wrap (a37.1 + a37.2))) 1)).toNat) < l0.length) <| (cmp (l0.getD (0 + (IntKind.i64.wrap ((IntKind.i64.wrap (a35.2.1 - 1)) - (IntKind.i64.wrap (shrOp .u64 (IntKind.u64.wrap (IntKind.i64.wrap (a37.1 + a37.2))) 1)))).toNat) default) (l0.getD (0 + (IntKind.i64.wrap (shrOp .u64 (IntKind.u64.wrap (IntKind.i64.wrap (a37.1 + a37.2))) 1)).toNat) default)).bind fun r58 => bf (!(decide (r58 < 0))) (some (.next ((IntKind.i64.wrap ((IntKind.i64.wrap (shrOp .u64 (IntKind.u64.wrap (IntKind.i64.wrap (a37.1 + a37.2))) 1)) + 1)), a37.2))) (some (.next (a37.1, (IntKind.i64.wrap (shrOp .u64 (IntKind.u64.wrap (IntKind.i64.wrap (a37.1 + a37.2))) 1)))))) (some (.brk (a37.1, a37.2)))) fuel (a35.2.2.1, a35.2.2.2)) (fun (a38 : Int × Int) => jn (fun (a39 : Int × (List α)) => jn (fun (a41 : List α) => jn (fun (a43 : Bool) => bf a43 ((symG cmp fuel a35.1 a39.1 p3 a41).bind fun r45 => some r45) (some a41)) fun j44 => bf (decide (a35.1 < a39.1)) (j44 (decide (a39.1 < p3))) (j44 false)) fun j42 => jn (fun (a46 : Bool) => bf a46 ((symG cmp fuel p1 a38.1 a35.1 a39.2).bind fun r48 => need (r48.length = a39.2.length) <| j42 r48) (j42 a39.2)) fun j47 => bf (decide (p1 < a38.1)) (j47 (decide (a38.1 < a35.1))) (j47 false)) fun j40 => jn (fun (a50 : Int × Bool) => bf a50.2 ((rotG fuel a38.1 p2 a50.1 l0).bind fun r52 => need (r52.length = l0.length) <| j40 (a50.1, r52)) (j40 (a50.1, l0))) fun j51 => bf (decide (a38.1 < p2)) (j51 ((IntKind.i64.wrap (a35.2.1 - a38.1)), (decide (p2 < (IntKind.i64.wrap (a35.2.1 - a38.1)))))) (j51 ((IntKind.i64.wrap (a35.2.1 - a38.1)), false))) (fun (x : Empty) => x.elim)) fun j36 => bf (decide ((IntKind.i64.wrap (shrOp .u64 (IntKind.u64.wrap (IntKind.i64.wrap (p1 + p3))) 1)) < p2)) (j36 ((IntKind.i64.wrap (shrOp .u64 (IntKind.u64.wrap (IntKind.i64.wrap (p1 + p3))) 1)), (IntKind.i64.wrap ((IntKind.i64.wrap (shrOp .u64 (IntKind.u64.wrap (IntKind.i64.wrap (p1 + p3))) 1)) + p2)), (IntKind.i64.wrap ((IntKind.i64.wrap ((IntKind.i64.wrap (shrOp .u64 (IntKind.u64.wrap (IntKind.i64.wrap (p1 + p3))) 1)) + p2)) - p3)), (IntKind.i64.wrap (shrOp .u64 (IntKind.u64.wrap (IntKind.i64.wrap (p1 + p3))) 1)))) (j36 ((IntKind.i64.wrap (shrOp .u64 (IntKind.u64.wrap (IntKind.i64.wrap (p1 + p3))) 1)), (IntKind.i64.wrap ((IntKind.i64.wrap (shrOp .u64 (IntKind.u64.wrap (IntKind.i64.wrap (p1 + p3))) 1)) + p2)), p1, p2))))
def stabG (cmp : α → α → Option Int) (fuel : Nat) (p1 : Int) (l0 : List α) : Option (List α) :=
  outK (loopN (S := Int × Int × (List α)) (R := Empty) (fun (a1 : Int × Int × (List α)) => bf (decide (a1.2.1 ≤ p1)) ((insG cmp fuel a1.1 a1.2.1 a1.2.2).bind fun r15 => need (r15.length = a1.2.2.length) <| some (.next (a1.2.1, (IntKind.i64.wrap (a1.2.1 + 20)), r15))) (some (.brk (a1.1, a1.2.1, a1.2.2)))) fuel (0, 20, l0)) (fun (a2 : Int × Int × (List α)) => (insG cmp fuel a2.1 p1 a2.2.2).bind fun r3 => need (r3.length = a2.2.2.length) <| outK (loopN (S := Int × (List α)) (R := Empty) (fun (a5 : Int × (List α)) => bf (decide (a5.1 < p1)) (outK (loopN (S := Int × Int × (List α)) (R := Empty) (fun (a7 : Int × Int × (List α)) => bf (decide (a7.2.1 ≤ p1)) ((symG cmp fuel a7.1 (IntKind.i64.wrap (a7.1 + a5.1)) a7.2.1 a7.2.2).bind fun r13 => need (r13.length = a7.2.2.length) <| some (.next (a7.2.1, (IntKind.i64.wrap (a7.2.1 + (IntKind.i64.wrap ((2 : Int) * a5.1)))), r13))) (some (.brk (a7.1, a7.2.1, a7.2.2)))) fuel (0, (IntKind.i64.wrap ((2 : Int) * a5.1)), a5.2)) (fun (a8 : Int × Int × (List α)) => jn (fun (a9 : List α) => some (.next ((IntKind.i64.wrap (a5.1 * 2)), a9))) fun j10 => bf (decide ((IntKind.i64.wrap (a8.1 + a5.1)) < p1)) ((symG cmp fuel a8.1 (IntKind.i64.wrap (a8.1 + a5.1)) p1 a8.2.2).bind fun r11 => need (r11.length = a8.2.2.length) <| j10 r11) (j10 a8.2.2)) (fun (x : Empty) => x.elim)) (some (.brk (a5.1, a5.2)))) fuel (20, r3)) (fun (a6 : Int × (List α)) => some a6.2) (fun (x : Empty) => x.elim)) (fun (x : Empty) => x.elim)
end
end Go.Av
namespace Go.Av
open Go
set_option linter.unusedVariables false
set_option linter.unusedSimpArgs false
section
variable {α : Type} [Inhabited α] {cmp : α → α → Option Int} {c : α → α → Int}
def ltC (c : α → α → Int) (x y : α) : Bool := decide (c x y < 0)
theorem insInnerG {a fuel : Nat} {B : Int × List α → Option (Ctl (Int × List α) Empty)} {j : Nat} {d : Array α} (hj : j < d.size) (hf : j < fuel)
    (hB : ∀ (j : Nat) (d' : Array α), j < d'.size → d'.size = d.size → B ((j : Int), d'.toList) = if a < j ∧ ltC c d'[j]! d'[j - 1]! = true then some (.next (((j - 1 : Nat) : Int), (Sort.swp d' j (j - 1)).toList)) else some (.brk ((j : Int), d'.toList))) :
    ∃ x : Int, loopN B fuel ((j : Int), d.toList) = some (.done (x, (Sort.insInner (ltC c) a j d).toList)) := by
  induction j generalizing d fuel with
  | zero =>
    cases fuel with
    | zero => omega
    | succ fuel =>
      refine ⟨0, loopN_brk (s' := (((0 : Nat) : Int), d.toList)) ?_⟩
      rw [hB 0 d hj rfl, if_neg (by omega)]
  | succ j ih =>
    cases fuel with
    | zero => omega
    | succ fuel =>
      have h := hB (j + 1) d hj rfl
      rw [Nat.add_sub_cancel] at h
      unfold Sort.insInner
      by_cases hc : a < j + 1 ∧ ltC c d[j + 1]! d[j]! = true
      · rw [if_pos hc] at h
        rw [loopN_next h, if_pos (by simp [hc.1, hc.2])]
        exact ih (by rw [swp_sz]; omega) (by omega) (fun k d' h1 h2 => hB k d' h1 (by rw [h2, swp_sz]))
      · rw [if_neg hc] at h
        rw [loopN_brk h, if_neg (by simpa using hc)]
        exact ⟨_, rfl⟩
theorem insOuterG {a b fuel : Nat} {B : Int × List α → Option (Ctl (Int × List α) Empty)} {n i : Nat} {d : Array α} (hn : b - i = n) (hb : b ≤ d.size) (hf : b - i < fuel)
    (hB : ∀ (i : Nat) (d' : Array α), d'.size = d.size → B ((i : Int), d'.toList) = if i < b then some (.next (((i + 1 : Nat) : Int), (Sort.insInner (ltC c) a i d').toList)) else some (.brk ((i : Int), d'.toList)))
    (hs : ∀ (i : Nat) (d' : Array α), (Sort.insInner (ltC c) a i d').size = d'.size) :
    ∃ x : Int, loopN B fuel ((i : Int), d.toList) = some (.done (x, (Sort.insOuter (ltC c) a b i d).toList)) := by
  induction n generalizing i d fuel with
  | zero =>
    cases fuel with
    | zero => omega
    | succ fuel =>
      have h := hB i d rfl
      rw [if_neg (by omega)] at h
      rw [loopN_brk h, Sort.insOuter, if_neg (by omega)]
      exact ⟨_, rfl⟩
  | succ n ih =>
    cases fuel with
    | zero => omega
    | succ fuel =>
      have h := hB i d rfl
      rw [if_pos (by omega)] at h
      rw [loopN_next h, Sort.insOuter, if_pos (by omega)]
      exact ih (by omega) (by rw [hs]; omega) (by omega) (fun k d' h1 => hB k d' (by rw [h1, hs]))
theorem insInner_szG (a : Nat) : ∀ (j : Nat) (d : Array α), (Sort.insInner (ltC c) a j d).size = d.size
  | 0, d => rfl
  | j + 1, d => by
    unfold Sort.insInner
    split
    · rw [insInner_szG a j, swp_sz]
    · rfl
theorem insG_eq (hc : ∀ x y, cmp x y = some (c x y)) {fuel a b : Nat} {d : Array α} (hb : b ≤ d.size) (hd : d.size < 4611686018427387904) (ha : a < 4611686018427387903) (hf : d.size < fuel) :
    insG cmp fuel (a : Int) (b : Int) d.toList = some (Sort.insertionSort (ltC c) d a b).toList := by
  unfold insG Sort.insertionSort
  rw [wadd1 (by omega)]
  refine outK_ex (insOuterG (c := c) (a := a) (b := b) (i := a + 1) (d := d) rfl hb (by omega) ?_ (insInner_szG a)) (fun x => rfl)
  intro i d' hd'
  simp only [bf_decide, intlt]
  by_cases hi : i < b
  · rw [if_pos hi, if_pos hi]
    refine outK_ex (insInnerG (c := c) (a := a) (j := i) (d := d') (by omega) (by omega) ?_) (fun x => ?_)
    · intro j e hj he
      simp only [jn_eq, bf_decide, intlt]
      by_cases h1 : a < j
      · simp (disch := omega) only [h1, if_true, wsub1, need_true, Int.toNat_natCast, Nat.zero_add, Array.length_toList, List.length_set, hc, Option.bind_some, arr_get, arr_swp, true_and]
        unfold ltC
        by_cases h2 : c e[j]! e[j - 1]! < 0
        · simp [h2]
        · simp [h2]
      · rw [if_neg h1, if_neg (fun h => h1 h.1)]
        rfl
    · rw [wadd1 (by omega)]
  · rw [if_neg hi, if_neg hi]
theorem swapG_eq {fuel p q n : Nat} {d : Array α} (hp : p + n ≤ d.size) (hq : q + n ≤ d.size) (hd : d.size < 4611686018427387904) (hf : d.size < fuel) :
    swapG fuel (p : Int) (q : Int) (n : Int) d.toList = some (swpN p q n d).toList := by
  unfold swapG
  refine outK_ex (swpN_loop (p := p) (q := q) (n := n) (d := d) (by omega) ?_) (fun x => rfl)
  intro i d' hd' hi
  simp only [bf_decide, intlt]
  by_cases h : i < n
  · rw [if_pos h, if_pos h]
    simp (disch := omega) only [wadd, wadd1, need_true, Int.toNat_natCast, Nat.zero_add, Array.length_toList, List.length_set, arr_get, arr_swp]
  · rw [if_neg h, if_neg h]
theorem rotG_eq {fuel s m e : Nat} {d : Array α} (h1 : s < m) (h2 : m < e) (he : e ≤ d.size) (hd : d.size < 4611686018427387904) (hf : d.size < fuel) :
    ∃ d' : Array α, rotG fuel (s : Int) (m : Int) (e : Int) d.toList = some d'.toList ∧ RotTo s m e d d' := by
  obtain ⟨k, d1, g1, g2, g3, g4, g5, g6, g7⟩ := rot_loop (R := Empty) (m := m) (a := s) (b := e) (d0 := d) he (m - s + (e - m)) (m - s) (e - m) fuel d (Nat.le_refl _) (by omega) (by omega) (by omega) (by omega) (by omega) (by omega) rfl
    (B := fun (a1 : Int × Int × (List α)) => bf (!decide (a1.1 = a1.2.1)) (bf (decide (a1.2.1 < a1.1)) ((swapG fuel (IntKind.i64.wrap ((m : Int) - a1.1)) (m : Int) a1.2.1 a1.2.2).bind fun r4 => need (r4.length = a1.2.2.length) <| some (.next ((IntKind.i64.wrap (a1.1 - a1.2.1)), a1.2.1, r4))) ((swapG fuel (IntKind.i64.wrap ((m : Int) - a1.1)) (IntKind.i64.wrap ((IntKind.i64.wrap ((m : Int) + a1.2.1)) - a1.1)) a1.1 a1.2.2).bind fun r6 => need (r6.length = a1.2.2.length) <| some (.next (a1.1, (IntKind.i64.wrap (a1.2.1 - a1.1)), r6)))) (some (.brk (a1.1, a1.2.1, a1.2.2))))
    (by
      intro i j d' hs hi hj him hjb
      simp only [bf_not, bf_decide, intlt]
      by_cases h : i = j
      · subst h
        rw [if_pos rfl, if_pos rfl]
      · rw [if_neg (by omega), if_neg h]
        by_cases h3 : j < i
        · rw [if_pos h3, if_pos h3]
          rw [wsub (by omega) (by omega), wsub (by omega) (by omega), swapG_eq (by omega) (by omega) (by omega) (by omega)]
          simp only [Option.bind_some]
          rw [need_true (by simp [swpN_sz])]
        · rw [if_neg h3, if_neg h3]
          rw [wsub (by omega) (by omega), wadd (by omega), wsub (by omega) (by omega), wsub (by omega) (by omega), swapG_eq (by omega) (by omega) (by omega) (by omega)]
          simp only [Option.bind_some]
          rw [need_true (by simp [swpN_sz])])
  refine ⟨swpN (m - k) m k d1, ?_, Sort.permIn_trans _ _ _ s e g6 (swpN_perm (by omega) (by omega) (by omega) (by omega) (by omega)), fun x => ?_⟩
  · unfold rotG
    rw [wsub (by omega) (by omega), wsub (by omega) (by omega)]
    rw [g1]
    simp only [outK_done]
    rw [wsub (by omega) (by omega), swapG_eq (by omega) (by omega) (by omega) (by omega)]
    rfl
  · rw [swpN_get (by omega) (by omega) (by omega), rot_last (by omega), g7]
    congr 1 <;> omega
end
end Go.Av
namespace Go.Av
open Go
set_option linter.unusedVariables false
set_option linter.unusedSimpArgs false
section
variable {α : Type} [Inhabited α] {cmp : α → α → Option Int} {c : α → α → Int}
theorem half_eq {x y : Nat} (h : x + y < 4611686018427387904) : IntKind.i64.wrap (shrOp .u64 (IntKind.u64.wrap (IntKind.i64.wrap ((x : Int) + (y : Int)))) 1) = (((x + y) / 2 : Nat) : Int) := by
  rw [wadd h, wrap_u64, Int.emod_eq_of_lt (by omega) (by omega), show (1 : Int) = ((1 : Nat) : Int) from rfl, shr_nat .u64 (x + y) 1 (by decide), wrap_small (by omega) (by omega)]
def shR (a : Nat) : Nat → Array α → Array α
  | 0, d => d
  | k + 1, d => Sort.swp (shR a k d) (a + k) (a + k + 1)
def shL (m : Nat) : Nat → Array α → Array α
  | 0, d => d
  | k + 1, d => Sort.swp (shL m k d) (m - k) (m - k - 1)
theorem shR_sz (a : Nat) : ∀ (k : Nat) (d : Array α), (shR a k d).size = d.size
  | 0, d => rfl
  | k + 1, d => by unfold shR; rw [swp_sz, shR_sz a k]
theorem shL_sz (m : Nat) : ∀ (k : Nat) (d : Array α), (shL m k d).size = d.size
  | 0, d => rfl
  | k + 1, d => by unfold shL; rw [swp_sz, shL_sz m k]
theorem shR_get {a : Nat} {d : Array α} : ∀ {k : Nat}, a + k < d.size → ∀ x, (shR a k d)[x]! = rotF a (a + 1) (a + 1 + k) d x
  | 0, h, x => by
    unfold shR rotF
    repeat' split
    all_goals first | omega | rfl | (congr 1; omega)
  | k + 1, h, x => by
    have ih := shR_get (a := a) (d := d) (k := k) (by omega)
    unfold shR
    rw [swp_at _ (by rw [shR_sz]; omega) (by rw [shR_sz]; omega), ih, ih, ih]
    unfold rotF
    repeat' split
    all_goals first | omega | rfl | (congr 1; omega)
theorem shL_get {m : Nat} {d : Array α} (hm : m < d.size) : ∀ {k : Nat}, k ≤ m → ∀ x, (shL m k d)[x]! = rotF (m - k) m (m + 1) d x
  | 0, h, x => by
    unfold shL rotF
    repeat' split
    all_goals first | omega | rfl | (congr 1; omega)
  | k + 1, h, x => by
    have ih := shL_get (m := m) (d := d) hm (k := k) (by omega)
    unfold shL
    rw [swp_at _ (by rw [shL_sz]; omega) (by rw [shL_sz]; omega), ih, ih, ih]
    unfold rotF
    repeat' split
    all_goals first | omega | rfl | (congr 1; omega)
theorem shR_perm {a b : Nat} {d : Array α} (hb : b ≤ d.size) : ∀ {k : Nat}, a + k < b → Sort.PermIn a b d (shR a k d)
  | 0, _ => Sort.permIn_refl d a b
  | k + 1, h => by
    unfold shR
    exact Sort.permIn_trans _ _ _ a b (shR_perm hb (by omega)) (Sort.swp_permIn _ a b _ _ (by omega) (by omega) (by omega) (by omega) (by rw [shR_sz]; exact hb))
theorem shL_perm {a m b : Nat} {d : Array α} (hb : b ≤ d.size) (hm : m < b) : ∀ {k : Nat}, a + k ≤ m → Sort.PermIn a b d (shL m k d)
  | 0, _ => Sort.permIn_refl d a b
  | k + 1, h => by
    unfold shL
    exact Sort.permIn_trans _ _ _ a b (shL_perm hb hm (by omega)) (Sort.swp_permIn _ a b _ _ (by omega) (by omega) (by omega) (by omega) (by rw [shL_sz]; exact hb))
theorem shR_loop {R : Type} {B : Int × List α → Option (Ctl (Int × List α) R)} {a n fuel : Nat} {d : Array α} (hf : n < fuel)
    (hB : ∀ (i : Nat) (d' : Array α), d'.size = d.size → i ≤ n → B (((a + i : Nat) : Int), d'.toList) = if i < n then some (.next (((a + i + 1 : Nat) : Int), (Sort.swp d' (a + i) (a + i + 1)).toList)) else some (.brk (((a + i : Nat) : Int), d'.toList))) :
    ∃ x : Int, loopN B fuel ((a : Int), d.toList) = some (.done (x, (shR a n d).toList)) := by
  have key : ∀ k i fuel, i + k = n → k < fuel → ∃ x : Int, loopN B fuel (((a + i : Nat) : Int), (shR a i d).toList) = some (.done (x, (shR a n d).toList)) := by
    intro k
    induction k with
    | zero =>
      intro i fuel hi hf
      cases fuel with
      | zero => omega
      | succ fuel =>
        have h := hB i (shR a i d) (shR_sz ..) (by omega)
        rw [if_neg (by omega)] at h
        rw [loopN_brk h, show i = n by omega]
        exact ⟨_, rfl⟩
    | succ k ih =>
      intro i fuel hi hf
      cases fuel with
      | zero => omega
      | succ fuel =>
        have h := hB i (shR a i d) (shR_sz ..) (by omega)
        rw [if_pos (by omega)] at h
        rw [loopN_next h]
        exact ih (i + 1) fuel (by omega) (by omega)
  exact key n 0 fuel (by omega) hf
theorem shL_loop {R : Type} {B : Int × List α → Option (Ctl (Int × List α) R)} {m n fuel : Nat} {d : Array α} (hn : n ≤ m) (hf : n < fuel)
    (hB : ∀ (i : Nat) (d' : Array α), d'.size = d.size → i ≤ n → B (((m - i : Nat) : Int), d'.toList) = if i < n then some (.next (((m - i - 1 : Nat) : Int), (Sort.swp d' (m - i) (m - i - 1)).toList)) else some (.brk (((m - i : Nat) : Int), d'.toList))) :
    ∃ x : Int, loopN B fuel ((m : Int), d.toList) = some (.done (x, (shL m n d).toList)) := by
  have key : ∀ k i fuel, i + k = n → k < fuel → ∃ x : Int, loopN B fuel (((m - i : Nat) : Int), (shL m i d).toList) = some (.done (x, (shL m n d).toList)) := by
    intro k
    induction k with
    | zero =>
      intro i fuel hi hf
      cases fuel with
      | zero => omega
      | succ fuel =>
        have h := hB i (shL m i d) (shL_sz ..) (by omega)
        rw [if_neg (by omega)] at h
        rw [loopN_brk h, show i = n by omega]
        exact ⟨_, rfl⟩
    | succ k ih =>
      intro i fuel hi hf
      cases fuel with
      | zero => omega
      | succ fuel =>
        have h := hB i (shL m i d) (shL_sz ..) (by omega)
        rw [if_pos (by omega)] at h
        rw [loopN_next h]
        have := ih (i + 1) fuel (by omega) (by omega)
        rwa [show m - (i + 1) = m - i - 1 by omega] at this
  exact key n 0 fuel (by omega) hf
omit [Inhabited α] in
theorem swo_of (h : IsCmp c) : Sort.SWO (ltC c) where
  irrefl x := by unfold ltC; rw [h.refl]; rfl
  trans x y z h1 h2 := by
    unfold ltC at *
    simp only [decide_eq_true_eq] at *
    exact h.lt_tr h1 (by omega)
  ntrans x y z h1 h2 := by
    unfold ltC at *
    simp only [decide_eq_false_iff_not, Int.not_lt] at *
    have a1 := h.anti x y; have a2 := h.anti y z; have a3 := h.anti x z
    by_cases g : 0 ≤ c x z
    · exact g
    · exfalso
      have := h.lt_tr (a := x) (b := z) (d := y) (by omega) (by omega)
      omega
end
end Go.Av
namespace Go.Av
open Go
set_option linter.unusedVariables false
set_option linter.unusedSimpArgs false
section
variable {α : Type} [Inhabited α] {cmp : α → α → Option Int} {c : α → α → Int}
theorem merge_r1 {lt : α → α → Bool} (hS : Sort.SWO lt) {a b r : Nat} {d : Array α} (hr : a + 1 ≤ r ∧ r ≤ b) (hb : b ≤ d.size) (h2 : Sort.SortedIn lt (a + 1) b d)
    (hA : r = a + 1 ∨ lt d[r - 1]! d[a]! = true) (hB : r = b ∨ lt d[r]! d[a]! = false) : MergeTo lt a b d (shR a (r - (a + 1)) d) := by
  have hg : ∀ x, (shR a (r - (a + 1)) d)[x]! = rotF a (a + 1) r d x := fun x => by
    rw [shR_get (by omega), show a + 1 + (r - (a + 1)) = r by omega]
  obtain ⟨h3, _, h5, h6, h7⟩ := rot_cross hS (d' := shR a (r - (a + 1)) d) (a := a) (m := a + 1) (b := b) (s := a) (e := r) (sorted_empty (by omega)) h2 ⟨by omega, by omega⟩ hr hg (.inl rfl) (.inr hA)
  refine ⟨shR_perm hb (by omega), glue2 (mid := a + (r - (a + 1))) h5 (glue2 (mid := r) h6 h7 ?_) h3⟩
  intro x y g1 g2 g3 g4
  rw [hg, hg, show x = r - 1 by omega]
  unfold rotF
  rw [if_neg (by omega), if_neg (by omega), if_neg (by omega), if_pos (by omega)]
  rw [show r - 1 - (a + (r - (a + 1))) + a = a by omega]
  rcases hB with h | h
  · omega
  · by_cases e : y = r
    · subst e; exact h
    · exact hS.ntrans _ _ _ (h2 r y (by omega) (by omega) g4) h
theorem merge_l1 {lt : α → α → Bool} (hS : Sort.SWO lt) {a m r : Nat} {d : Array α} (hr : a ≤ r ∧ r ≤ m) (hb : m + 1 ≤ d.size) (h1 : Sort.SortedIn lt a m d)
    (hA : r = a ∨ lt d[m]! d[r - 1]! = false) (hB : r = m ∨ lt d[m]! d[r]! = true) : MergeTo lt a (m + 1) d (shL m (m - r) d) := by
  have hg : ∀ x, (shL m (m - r) d)[x]! = rotF r m (m + 1) d x := fun x => by
    rw [shL_get (by omega) (by omega), show m - (m - r) = r by omega]
  obtain ⟨h3, h4, h5, h6, h7⟩ := rot_cross hS (d' := shL m (m - r) d) (a := a) (m := m) (b := m + 1) (s := r) (e := m + 1) h1 (sorted_empty (by omega)) hr ⟨by omega, by omega⟩ hg (.inr (.inl rfl))
    (by rcases hB with h | h
        · exact .inl h
        · exact .inr (.inr (by rw [Nat.add_sub_cancel]; exact h)))
  refine ⟨shL_perm hb (by omega) (by omega), glue2 (mid := r + (m + 1 - m)) (glue2 (mid := r) h4 h5 ?_) h6 h3⟩
  intro x y g1 g2 g3 g4
  rw [hg, hg, show y = r by omega]
  unfold rotF
  rw [if_pos (by omega), if_neg (by omega), if_neg (by omega)]
  rw [show r - r + m = m by omega]
  rcases hA with h | h
  · omega
  · by_cases e : x = r - 1
    · subst e; exact h
    · exact hS.ntrans _ _ _ h (h1 x (r - 1) g1 (by omega) (by omega))
theorem outK_P {S R Q : Type} {G : Option Q → Prop} {P : S → Prop} {o : Option (Out S R)} {kn : S → Option Q} {kr : R → Option Q} (h : ∃ s, o = some (.done s) ∧ P s) (hk : ∀ s, P s → G (kn s)) : G (outK o kn kr) := by
  obtain ⟨s, h, hp⟩ := h
  rw [h]
  exact hk s hp
theorem bs_ex {R : Type} {B : Int × Int → Option (Ctl (Int × Int) R)} {P : Nat → Bool} {Q : Int × Int → Prop} {i0 j0 fuel : Nat} (hf : j0 - i0 < fuel) (hij : i0 ≤ j0)
    (hQ : ∀ r : Nat, i0 ≤ r → r ≤ j0 → (r = i0 ∨ P (r - 1) = true) → (r = j0 ∨ P r = false) → Q ((r : Int), (r : Int)))
    (hB : ∀ i j : Nat, i0 ≤ i → i ≤ j → j ≤ j0 → B ((i : Int), (j : Int)) = if i < j then (if P ((i + j) / 2) = true then some (.next ((((i + j) / 2 + 1 : Nat) : Int), (j : Int))) else some (.next ((i : Int), (((i + j) / 2 : Nat) : Int)))) else some (.brk ((i : Int), (j : Int)))) :
    ∃ s, loopN B fuel ((i0 : Int), (j0 : Int)) = some (.done s) ∧ Q s := by
  obtain ⟨r, g1, g2, g3, g4, g5⟩ := bs_loop (P := P) (j0 - i0) i0 j0 fuel (Nat.le_refl _) hf (Nat.le_refl _) hij (Nat.le_refl _) (.inl rfl) (.inl rfl) hB
  exact ⟨_, g1, hQ r g2 g3 g4 g5⟩
theorem jn_P {A Q : Type} {G : Option Q → Prop} {P : A → Prop} {K : A → Option Q} {f : (A → Option Q) → Option Q} (hK : ∀ a, P a → G (K a)) (hf : ∃ a, P a ∧ f K = K a) : G (jn K f) := by
  obtain ⟨a, h1, h2⟩ := hf
  rw [jn_eq, h2]
  exact hK a h1
theorem symG_ok (hc : ∀ x y, cmp x y = some (c x y)) (hC : IsCmp c) : ∀ (fuel a m b : Nat) (d : Array α), a < m → m < b → b ≤ d.size → d.size < 1152921504606846976 → d.size + (b - a) < fuel →
    Sort.SortedIn (ltC c) a m d → Sort.SortedIn (ltC c) m b d → ∃ d' : Array α, symG cmp fuel (a : Int) (m : Int) (b : Int) d.toList = some d'.toList ∧ MergeTo (ltC c) a b d d'
  | 0, a, m, b, d, _, _, _, _, hf, _, _ => by omega
  | fuel + 1, a, m, b, d, ham, hmb, hb, hd, hf, h1, h2 => by
    have hS := swo_of hC
    unfold symG
    simp only [bf_decide]
    rw [wsub (by omega) (by omega), wsub (by omega) (by omega)]
    by_cases c1 : m - a = 1
    · rw [if_pos (by omega)]
      have hm : m = a + 1 := by omega
      subst hm
      refine outK_P (G := fun q => ∃ d' : Array α, q = some d'.toList ∧ MergeTo (ltC c) a b d d') (P := fun s => ∃ r : Nat, s = ((r : Int), (r : Int)) ∧ a + 1 ≤ r ∧ r ≤ b ∧ (r = a + 1 ∨ ltC c d[r - 1]! d[a]! = true) ∧ (r = b ∨ ltC c d[r]! d[a]! = false)) ?_ ?_
      · refine bs_ex (P := fun h => ltC c d[h]! d[a]!) (by omega) (by omega) (fun r g2 g3 g4 g5 => ⟨r, rfl, g2, g3, g4, g5⟩) ?_
        intro i j hi hij hj
        simp only [bf_decide, intlt]
        rw [half_eq (by omega)]
        by_cases h : i < j
        · rw [if_pos h, if_pos h]
          simp (disch := omega) only [need_true, wadd1, Int.toNat_natCast, Nat.zero_add, Array.length_toList, hc, Option.bind_some, arr_get]
          unfold ltC
          by_cases g : c d[(i + j) / 2]! d[a]! < 0 <;> simp [g]
        · rw [if_neg h, if_neg h]
      · rintro s ⟨r, rfl, g2, g3, g4, g5⟩
        simp only
        rw [wsub1 (by omega) (by omega)]
        refine ⟨shR a (r - (a + 1)) d, outK_ex (shR_loop (a := a) (n := r - (a + 1)) (by omega) ?_) (fun x => rfl), merge_r1 hS ⟨g2, g3⟩ hb h2 g4 g5⟩
        intro i d' hs hi
        simp only [bf_decide, intlt]
        by_cases h : i < r - (a + 1)
        · rw [if_pos (by omega), if_pos h]
          simp (disch := omega) only [need_true, wadd1, Int.toNat_natCast, Nat.zero_add, Array.length_toList, List.length_set, arr_get, arr_swp]
        · rw [if_neg (by omega), if_neg h]
    · rw [if_neg (by omega)]
      by_cases c2 : b - m = 1
      · rw [if_pos (by omega)]
        have hbm : b = m + 1 := by omega
        subst hbm
        refine outK_P (G := fun q => ∃ d' : Array α, q = some d'.toList ∧ MergeTo (ltC c) a (m + 1) d d') (P := fun s => ∃ r : Nat, s = ((r : Int), (r : Int)) ∧ a ≤ r ∧ r ≤ m ∧ (r = a ∨ ltC c d[m]! d[r - 1]! = false) ∧ (r = m ∨ ltC c d[m]! d[r]! = true)) ?_ ?_
        · refine bs_ex (P := fun h => !ltC c d[m]! d[h]!) (by omega) (by omega) (fun r g2 g3 g4 g5 => ⟨r, rfl, g2, g3, by simpa using g4, by simpa using g5⟩) ?_
          intro i j hi hij hj
          simp only [bf_decide, bf_not, intlt]
          rw [half_eq (by omega)]
          by_cases h : i < j
          · rw [if_pos h, if_pos h]
            simp (disch := omega) only [need_true, wadd1, Int.toNat_natCast, Nat.zero_add, Array.length_toList, hc, Option.bind_some, arr_get]
            unfold ltC
            by_cases g : c d[m]! d[(i + j) / 2]! < 0 <;> simp [g]
          · rw [if_neg h, if_neg h]
        · rintro s ⟨r, rfl, g2, g3, g4, g5⟩
          simp only
          refine ⟨shL m (m - r) d, outK_ex (shL_loop (m := m) (n := m - r) (by omega) (by omega) ?_) (fun x => rfl), merge_l1 hS ⟨g2, g3⟩ hb h1 g4 g5⟩
          intro i d' hs hi
          simp only [bf_decide, intlt]
          by_cases h : i < m - r
          · rw [if_pos (by omega), if_pos h]
            simp (disch := omega) only [need_true, wsub1, Int.toNat_natCast, Nat.zero_add, Array.length_toList, List.length_set, arr_get, arr_swp]
          · rw [if_neg (by omega), if_neg h]
      · rw [if_neg (by omega)]
        rw [half_eq (by omega), wadd (by omega)]
        let G : Option (List α) → Prop := fun q => ∃ d' : Array α, q = some d'.toList ∧ MergeTo (ltC c) a b d d'
        refine jn_P (G := G) (P := fun x => ∃ st r0 : Nat, x = ((((a + b) / 2 : Nat) : Int), (((a + b) / 2 + m : Nat) : Int), (st : Int), (r0 : Int)) ∧ a ≤ st ∧ st ≤ r0 ∧ r0 ≤ m ∧ r0 ≤ (a + b) / 2 + m - m ∧ (st = a ∨ (a + b) / 2 + m - st = b) ∧ (a + b) / 2 + m - st ≤ b ∧ (r0 = m ∨ r0 = (a + b) / 2)) ?_ ?_
        · rintro _ ⟨st, r0, rfl, k1, k2, k3, k4, k5, k6, k7⟩
          refine outK_P (G := G) (P := fun s => ∃ r : Nat, s = ((r : Int), (r : Int)) ∧ st ≤ r ∧ r ≤ r0 ∧ (r = st ∨ ltC c d[(a + b) / 2 + m - r]! d[r - 1]! = false) ∧ (r = r0 ∨ ltC c d[(a + b) / 2 + m - r - 1]! d[r]! = true)) ?_ ?_
          · refine bs_ex (P := fun h => !ltC c d[(a + b) / 2 + m - 1 - h]! d[h]!) (by omega) (by omega) (fun r g2 g3 g4 g5 => ⟨r, rfl, g2, g3, ?_, ?_⟩) ?_
            · rcases g4 with g4 | g4
              · exact .inl g4
              · by_cases e : r = st
                · exact .inl e
                · right
                  rw [show (a + b) / 2 + m - 1 - (r - 1) = (a + b) / 2 + m - r by omega] at g4
                  simpa using g4
            · rcases g5 with g5 | g5
              · exact .inl g5
              · right
                rw [show (a + b) / 2 + m - 1 - r = (a + b) / 2 + m - r - 1 by omega] at g5
                simpa using g5
            · intro i j hi hij hj
              simp only [bf_decide, bf_not, intlt]
              rw [half_eq (by omega), wsub1 (by omega) (by omega)]
              by_cases h : i < j
              · rw [if_pos h, if_pos h, wsub (by omega) (by omega)]
                simp (disch := omega) only [need_true, wadd1, Int.toNat_natCast, Nat.zero_add, Array.length_toList, hc, Option.bind_some, arr_get]
                unfold ltC
                by_cases g : c d[(a + b) / 2 + m - 1 - (i + j) / 2]! d[(i + j) / 2]! < 0 <;> simp [g]
              · rw [if_neg h, if_neg h]
          · rintro s ⟨r, rfl, g2, g3, g4, g5⟩
            simp only
            rw [wsub (by omega) (by omega)]
            have hmid : r + ((a + b) / 2 + m - r - m) = (a + b) / 2 := by omega
            refine jn_P (G := G) (P := fun x => ∃ d1 : Array α, x = ((((a + b) / 2 + m - r : Nat) : Int), d1.toList) ∧ Sort.PermIn a b d d1 ∧ ∀ x, d1[x]! = rotF r m ((a + b) / 2 + m - r) d x) ?_ ?_
            · rintro _ ⟨d1, rfl, p1, p2⟩
              obtain ⟨q1, q2, q3, q4, q5⟩ := rot_cross hS h1 h2 ⟨by omega, by omega⟩ ⟨by omega, by omega⟩ p2 (by
                rcases g4 with g | g
                · rcases k5 with k | k
                  · exact .inl (by omega)
                  · exact .inr (.inl (by omega))
                · exact .inr (.inr g)) (by
                rcases g5 with g | g
                · rcases k7 with k | k
                  · exact .inl (by omega)
                  · exact .inr (.inl (by omega))
                · exact .inr (.inr g))
              rw [hmid] at q1 q3 q4
              have s1 : d1.size = d.size := p1.1
              refine jn_P (G := G) (P := fun x => ∃ d2 : Array α, x = d2.toList ∧ MergeTo (ltC c) a ((a + b) / 2) d1 d2) ?_ ?_
              · rintro _ ⟨d2, rfl, m1⟩
                have s2 : d2.size = d1.size := m1.perm.1
                have e1 : Sort.SortedIn (ltC c) ((a + b) / 2) ((a + b) / 2 + m - r) d2 := fun i j h1 h2 h3 => by
                  rw [m1.perm.2.1 i (.inr (by omega)), m1.perm.2.1 j (.inr (by omega))]; exact q4 i j h1 h2 h3
                have e2 : Sort.SortedIn (ltC c) ((a + b) / 2 + m - r) b d2 := fun i j h1 h2 h3 => by
                  rw [m1.perm.2.1 i (.inr (by omega)), m1.perm.2.1 j (.inr (by omega))]; exact q5 i j h1 h2 h3
                have fin : ∀ d3 : Array α, MergeTo (ltC c) ((a + b) / 2) b d2 d3 → MergeTo (ltC c) a b d d3 := fun d3 m3 => merge_halves hS ⟨by omega, by omega⟩ hb p1 q1 m1 m3
                simp only [jn_eq, bf_decide, intlt]
                by_cases w1 : (a + b) / 2 < (a + b) / 2 + m - r
                · by_cases w2 : (a + b) / 2 + m - r < b
                  · rw [if_pos w1, if_pos w2]
                    obtain ⟨d3, t1, t2⟩ := symG_ok hc hC fuel ((a + b) / 2) ((a + b) / 2 + m - r) b d2 w1 w2 (by omega) (by omega) (by omega) e1 e2
                    rw [t1]
                    exact ⟨d3, rfl, fin d3 t2⟩
                  · rw [if_pos w1, if_neg w2]
                    rw [show (a + b) / 2 + m - r = b by omega] at e1
                    exact ⟨d2, rfl, fin d2 (merge_self e1)⟩
                · rw [if_neg w1, bf_false]
                  rw [show (a + b) / 2 + m - r = (a + b) / 2 by omega] at e2
                  exact ⟨d2, rfl, fin d2 (merge_self e2)⟩
              · simp only [jn_eq, bf_decide, intlt]
                by_cases w1 : a < r
                · by_cases w2 : r < (a + b) / 2
                  · rw [if_pos w1, if_pos w2]
                    obtain ⟨d3, t1, t2⟩ := symG_ok hc hC fuel a r ((a + b) / 2) d1 w1 w2 (by omega) (by omega) (by omega) q2 q3
                    refine ⟨_, ⟨d3, rfl, t2⟩, ?_⟩
                    rw [t1]
                    simp only [Option.bind_some]
                    rw [need_true (by have := t2.perm.1; simp only [Array.length_toList]; omega)]
                  · rw [if_pos w1, if_neg w2]
                    rw [show r = (a + b) / 2 by omega] at q2
                    exact ⟨_, ⟨d1, rfl, merge_self q2⟩, rfl⟩
                · rw [if_neg w1, bf_false]
                  rw [show r = a by omega] at q3
                  exact ⟨_, ⟨d1, rfl, merge_self q3⟩, rfl⟩
            · simp only [jn_eq, bf_decide, intlt]
              by_cases w1 : r < m
              · by_cases w2 : m < (a + b) / 2 + m - r
                · obtain ⟨d1, t1, t2⟩ := rotG_eq (fuel := fuel) (s := r) (m := m) (e := (a + b) / 2 + m - r) (d := d) w1 w2 (by omega) (by omega) (by omega)
                  refine ⟨_, ⟨d1, rfl, Sort.permIn_mono _ _ _ _ a b (by omega) (by omega) hb t2.perm, t2.get⟩, ?_⟩
                  rw [if_pos w1, if_pos w2, t1, Option.bind_some]
                  rw [need_true (by have := t2.perm.1; simp only [Array.length_toList]; omega)]
                  simp only [intlt]
                · rw [if_pos w1, if_neg w2]
                  refine ⟨_, ⟨d, rfl, Sort.permIn_refl d a b, fun x => ?_⟩, by simp only [intlt]⟩
                  unfold rotF
                  repeat' split
                  all_goals first | omega | rfl | (congr 1; omega)
              · rw [if_neg w1, bf_false]
                refine ⟨_, ⟨d, rfl, Sort.permIn_refl d a b, fun x => ?_⟩, by simp only [intlt]⟩
                unfold rotF
                repeat' split
                all_goals first | omega | rfl | (congr 1; omega)
        · simp only [bf_decide, intlt]
          by_cases w : (a + b) / 2 < m
          · rw [if_pos w, wsub (by omega) (by omega)]
            exact ⟨_, ⟨(a + b) / 2 + m - b, (a + b) / 2, rfl, by omega, by omega, by omega, by omega, by omega, by omega, .inr rfl⟩, rfl⟩
          · rw [if_neg w]
            exact ⟨_, ⟨a, m, rfl, by omega, by omega, by omega, by omega, .inl rfl, by omega, .inl rfl⟩, rfl⟩
end
end Go.Av
namespace Go.Av
open Go
set_option linter.unusedVariables false
set_option linter.unusedSimpArgs false
section
variable {α : Type} [Inhabited α] {cmp : α → α → Option Int} {c : α → α → Int}
theorem loopN_iter {S R : Type} {B : S → Option (Ctl S R)} (I : Nat → S → Prop) (Dn : S → Prop) {n fuel : Nat} {s : S} (hf : n < fuel) (h0 : I 0 s)
    (h : ∀ i s, I i s → (∃ s', B s = some (.next s') ∧ I (i + 1) s' ∧ i < n) ∨ (∃ s', B s = some (.brk s') ∧ Dn s')) : ∃ s', loopN B fuel s = some (.done s') ∧ Dn s' := by
  have key : ∀ k i s fuel, i + k = n → k < fuel → I i s → ∃ s', loopN B fuel s = some (.done s') ∧ Dn s' := by
    intro k
    induction k with
    | zero =>
      intro i s fuel hi hf hI
      cases fuel with
      | zero => omega
      | succ fuel =>
        rcases h i s hI with ⟨s', _, _, g⟩ | ⟨s', g1, g2⟩
        · omega
        · exact ⟨s', loopN_brk g1, g2⟩
    | succ k ih =>
      intro i s fuel hi hf hI
      cases fuel with
      | zero => omega
      | succ fuel =>
        rcases h i s hI with ⟨s', g1, g2, g⟩ | ⟨s', g1, g2⟩
        · rw [loopN_next g1]
          exact ih (i + 1) s' fuel (by omega) (by omega) g2
        · exact ⟨s', loopN_brk g1, g2⟩
  exact key n 0 s fuel (by omega) hf h0
theorem sorted_out {lt : α → α → Bool} {a b x y : Nat} {d d' : Array α} (h : Sort.SortedIn lt x y d) (hp : Sort.PermIn a b d d') (ho : y ≤ a ∨ b ≤ x) : Sort.SortedIn lt x y d' := fun i j h1 h2 h3 => by
  rw [hp.2.1 i (by omega), hp.2.1 j (by omega)]
  exact h i j h1 h2 h3
theorem mul_step {i j k : Nat} (h : i < j) : i * k + k ≤ j * k := by
  have := Nat.mul_le_mul_right k (show i + 1 ≤ j by omega)
  rw [Nat.add_mul, Nat.one_mul] at this
  exact this
theorem stabG_ok (hc : ∀ x y, cmp x y = some (c x y)) (hC : IsCmp c) {fuel : Nat} {d : Array α} (hd : d.size < 1152921504606846) (hf : 4 * d.size + 100 < fuel) :
    ∃ d' : Array α, stabG cmp fuel (d.size : Int) d.toList = some d'.toList ∧ Sort.PermIn 0 d.size d d' ∧ Sort.SortedIn (ltC c) 0 d.size d' := by
  have hS := swo_of hC
  generalize hn : d.size = n at *
  let G : Option (List α) → Prop := fun q => ∃ d' : Array α, q = some d'.toList ∧ Sort.PermIn 0 n d d' ∧ Sort.SortedIn (ltC c) 0 n d'
  unfold stabG
  refine outK_P (G := G) (P := fun s => ∃ (i : Nat) (d1 : Array α), s = (((i * 20 : Nat) : Int), ((i * 20 + 20 : Nat) : Int), d1.toList) ∧ i * 20 ≤ n ∧ n < i * 20 + 20 ∧ Sort.PermIn 0 n d d1 ∧ ∀ j, j < i → Sort.SortedIn (ltC c) (j * 20) (j * 20 + 20) d1) ?_ ?_
  · refine loopN_iter (I := fun i s => ∃ d1 : Array α, s = (((i * 20 : Nat) : Int), ((i * 20 + 20 : Nat) : Int), d1.toList) ∧ i * 20 ≤ n ∧ Sort.PermIn 0 n d d1 ∧ ∀ j, j < i → Sort.SortedIn (ltC c) (j * 20) (j * 20 + 20) d1) (n := n) _ (by omega) ⟨d, by rfl, by omega, Sort.permIn_refl d 0 n, fun j hj => by omega⟩ ?_
    rintro i _ ⟨d1, rfl, k1, k2, k3⟩
    have s1 : d1.size = n := k2.1.trans hn
    simp only [bf_decide, intle]
    by_cases h : i * 20 + 20 ≤ n
    · left
      obtain ⟨p1, p2⟩ := Sort.insertionSort_holds hS d1 (i * 20) (i * 20 + 20) (by omega) (by omega)
      refine ⟨_, ?_, ⟨Sort.insertionSort (ltC c) d1 (i * 20) (i * 20 + 20), rfl, by omega, Sort.permIn_trans _ _ _ 0 n k2 (Sort.permIn_mono _ _ _ _ 0 n (by omega) (by omega) (by omega) p1), ?_⟩, by omega⟩
      · rw [if_pos h, insG_eq hc (by omega) (by omega) (by omega) (by omega)]
        simp only [Option.bind_some]
        rw [need_true (by have := p1.1; simp only [Array.length_toList]; omega), show (20 : Int) = ((20 : Nat) : Int) from rfl, wadd (by omega)]
        rw [show (i + 1) * 20 = i * 20 + 20 by omega]
      · intro j hj
        by_cases e : j = i
        · subst e; exact p2
        · exact sorted_out (k3 j (by omega)) p1 (by have := mul_step (k := 20) (show j < i by omega); omega)
    · right
      rw [if_neg h]
      exact ⟨_, rfl, i, d1, rfl, k1, by omega, k2, k3⟩
  · rintro _ ⟨i, d1, rfl, k1, k2, k3, k4⟩
    have s1 : d1.size = n := k3.1.trans hn
    simp only
    obtain ⟨p1, p2⟩ := Sort.insertionSort_holds hS d1 (i * 20) n (by omega) (by omega)
    rw [insG_eq hc (by omega) (by omega) (by omega) (by omega)]
    simp only [Option.bind_some]
    rw [need_true (by have := p1.1; simp only [Array.length_toList]; omega)]
    generalize hd2 : Sort.insertionSort (ltC c) d1 (i * 20) n = d2 at p1 p2
    have q1 : Sort.PermIn 0 n d d2 := Sort.permIn_trans _ _ _ 0 n k3 (Sort.permIn_mono _ _ _ _ 0 n (by omega) (by omega) (by omega) p1)
    have q2 : ∀ j, Sort.SortedIn (ltC c) (j * 20) (min (j * 20 + 20) n) d2 := fun j => by
      by_cases e : j < i
      · have := mul_step (k := 20) e
        rw [show min (j * 20 + 20) n = j * 20 + 20 by omega]
        exact sorted_out (k4 j e) p1 (by omega)
      · by_cases e2 : j = i
        · subst e2
          rw [show min (j * 20 + 20) n = n by omega]
          exact p2
        · exact sorted_empty (by omega)
    refine outK_P (G := G) (P := fun s => ∃ (x : Int) (d3 : Array α), s = (x, d3.toList) ∧ Sort.PermIn 0 n d d3 ∧ Sort.SortedIn (ltC c) 0 n d3) ?_ ?_
    · refine loopN_iter (I := fun r s => ∃ (k : Nat) (d3 : Array α), s = ((k : Int), d3.toList) ∧ r + 20 ≤ k ∧ k ≤ 2 * n + 20 ∧ Sort.PermIn 0 n d d3 ∧ ∀ j, Sort.SortedIn (ltC c) (j * k) (min (j * k + k) n) d3) (n := n) _ (by omega) ⟨20, d2, by rfl, by omega, by omega, q1, q2⟩ ?_
      rintro r _ ⟨k, d3, rfl, g1, g2, g3, g4⟩
      have s3 : d3.size = n := g3.1.trans hn
      simp only [bf_decide, intlt]
      by_cases h : k < n
      · left
        rw [if_pos h]
        let G2 : Option (Ctl (Int × List α) Empty) → Prop := fun q => ∃ s', q = some (.next s') ∧ (∃ (k : Nat) (d3 : Array α), s' = ((k : Int), d3.toList) ∧ r + 1 + 20 ≤ k ∧ k ≤ 2 * n + 20 ∧ Sort.PermIn 0 n d d3 ∧ ∀ j, Sort.SortedIn (ltC c) (j * k) (min (j * k + k) n) d3) ∧ r < n
        refine outK_P (G := G2) (P := fun s => ∃ (i : Nat) (d4 : Array α), s = (((i * (2 * k) : Nat) : Int), ((i * (2 * k) + 2 * k : Nat) : Int), d4.toList) ∧ i * (2 * k) ≤ n ∧ n < i * (2 * k) + 2 * k ∧ Sort.PermIn 0 n d d4 ∧ (∀ j, j < i → Sort.SortedIn (ltC c) (j * (2 * k)) (j * (2 * k) + 2 * k) d4) ∧ ∀ j, i * (2 * k) ≤ j * k → Sort.SortedIn (ltC c) (j * k) (min (j * k + k) n) d4) ?_ ?_
        · rw [wtwo (by omega)]
          refine loopN_iter (I := fun i s => ∃ d4 : Array α, s = (((i * (2 * k) : Nat) : Int), ((i * (2 * k) + 2 * k : Nat) : Int), d4.toList) ∧ i * (2 * k) ≤ n ∧ i ≤ i * (2 * k) ∧ Sort.PermIn 0 n d d4 ∧ (∀ j, j < i → Sort.SortedIn (ltC c) (j * (2 * k)) (j * (2 * k) + 2 * k) d4) ∧ ∀ j, i * (2 * k) ≤ j * k → Sort.SortedIn (ltC c) (j * k) (min (j * k + k) n) d4) (n := n) _ (by omega) ⟨d3, by simp, by omega, by omega, g3, fun j hj => by omega, fun j _ => g4 j⟩ ?_
          rintro i _ ⟨d4, rfl, f1, f0, f2, f3, f4⟩
          have s4 : d4.size = n := f2.1.trans hn
          have e1 : (2 * i) * k = i * (2 * k) := by rw [Nat.mul_comm 2 i, Nat.mul_assoc]
          have e2 : (2 * i + 1) * k = i * (2 * k) + k := by rw [Nat.add_mul, Nat.one_mul, e1]
          have e3 : (i + 1) * (2 * k) = i * (2 * k) + 2 * k := by rw [Nat.add_mul, Nat.one_mul]
          have t1 := f4 (2 * i) (by omega)
          have t2 := f4 (2 * i + 1) (by omega)
          rw [e1] at t1
          rw [e2] at t2
          generalize hp : i * (2 * k) = p at *
          simp only [bf_decide, intle]
          by_cases h2 : p + 2 * k ≤ n
          · left
            rw [if_pos h2, wadd (by omega)]
            rw [show min (p + k) n = p + k by omega] at t1
            rw [show min (p + k + k) n = p + 2 * k by omega] at t2
            obtain ⟨d5, u1, u2⟩ := symG_ok hc hC fuel p (p + k) (p + 2 * k) d4 (by omega) (by omega) (by omega) (by omega) (by omega) t1 t2
            refine ⟨_, ?_, ⟨d5, rfl, by omega, by omega, Sort.permIn_trans _ _ _ 0 n f2 (Sort.permIn_mono _ _ _ _ 0 n (by omega) (by omega) (by omega) u2.perm), ?_, ?_⟩, by omega⟩
            · rw [u1]
              simp only [Option.bind_some]
              rw [need_true (by have := u2.perm.1; simp only [Array.length_toList]; omega), wadd (by omega), e3]
            · intro j hj
              by_cases e : j = i
              · subst e
                rw [hp]
                exact u2.sorted
              · have := mul_step (k := 2 * k) (show j < i by omega)
                exact sorted_out (f3 j (by omega)) u2.perm (.inl (by omega))
            · intro j hj
              exact sorted_out (f4 j (by omega)) u2.perm (.inr (by omega))
          · right
            rw [if_neg h2]
            exact ⟨_, rfl, i, d4, by rw [hp], by omega, by omega, f2, f3, by rw [hp]; exact f4⟩
        · rintro _ ⟨i, d4, rfl, f1, f1', f2, f3, f4⟩
          have s4 : d4.size = n := f2.1.trans hn
          have e1 : (2 * i) * k = i * (2 * k) := by rw [Nat.mul_comm 2 i, Nat.mul_assoc]
          have e2 : (2 * i + 1) * k = i * (2 * k) + k := by rw [Nat.add_mul, Nat.one_mul, e1]
          have t1 := f4 (2 * i) (by omega)
          have t2 := f4 (2 * i + 1) (by omega)
          rw [e1] at t1
          rw [e2] at t2
          have e4 : ∀ j, i < j → n ≤ j * (2 * k) := fun j hj => by have := mul_step (k := 2 * k) hj; omega
          generalize hp : i * (2 * k) = p at *
          simp only
          refine jn_P (G := G2) (P := fun l => ∃ d5 : Array α, l = d5.toList ∧ Sort.PermIn 0 n d d5 ∧ ∀ j, Sort.SortedIn (ltC c) (j * (2 * k)) (min (j * (2 * k) + 2 * k) n) d5) ?_ ?_
          · rintro _ ⟨d5, rfl, u1, u2⟩
            refine ⟨_, rfl, ⟨2 * k, d5, ?_, by omega, by omega, u1, u2⟩, by omega⟩
            rw [show (k : Int) * 2 = 2 * (k : Int) by omega, wtwo (by omega)]
          · simp only [bf_decide]
            rw [wadd (by omega)]
            simp only [intlt]
            by_cases h2 : p + k < n
            · rw [if_pos h2]
              rw [show min (p + k) n = p + k by omega] at t1
              rw [show min (p + k + k) n = n by omega] at t2
              obtain ⟨d5, u1, u2⟩ := symG_ok hc hC fuel p (p + k) n d4 (by omega) (by omega) (by omega) (by omega) (by omega) t1 t2
              refine ⟨_, ⟨d5, rfl, Sort.permIn_trans _ _ _ 0 n f2 (Sort.permIn_mono _ _ _ _ 0 n (by omega) (by omega) (by omega) u2.perm), fun j => ?_⟩, ?_⟩
              · by_cases e : j < i
                · have := mul_step (k := 2 * k) e
                  rw [show min (j * (2 * k) + 2 * k) n = j * (2 * k) + 2 * k by omega]
                  exact sorted_out (f3 j e) u2.perm (.inl (by omega))
                · by_cases e5 : j = i
                  · subst e5
                    rw [hp, show min (p + 2 * k) n = n by omega]
                    exact u2.sorted
                  · have := e4 j (by omega)
                    exact sorted_empty (by omega)
              · rw [u1]
                simp only [Option.bind_some]
                rw [need_true (by have := u2.perm.1; simp only [Array.length_toList]; omega)]
            · rw [if_neg h2]
              refine ⟨_, ⟨d4, rfl, f2, fun j => ?_⟩, rfl⟩
              by_cases e : j < i
              · have := mul_step (k := 2 * k) e
                rw [show min (j * (2 * k) + 2 * k) n = j * (2 * k) + 2 * k by omega]
                exact f3 j e
              · by_cases e5 : j = i
                · subst e5
                  rw [hp, show min (p + 2 * k) n = n by omega]
                  rw [show min (p + k) n = n by omega] at t1
                  exact t1
                · have := e4 j (by omega)
                  exact sorted_empty (by omega)
      · right
        rw [if_neg h]
        have := g4 0
        rw [Nat.zero_mul, show min (0 + k) n = n by omega] at this
        exact ⟨_, rfl, _, d3, rfl, g3, this⟩
    · rintro _ ⟨x, d3, rfl, u1, u2⟩
      exact ⟨d3, rfl, u1, u2⟩
theorem stabG_list (hc : ∀ x y, cmp x y = some (c x y)) (hC : IsCmp c) {fuel : Nat} {l : List α} (hd : l.length < 1152921504606846) (hf : 4 * l.length + 100 < fuel) :
    ∃ r : List α, stabG cmp fuel (l.length : Int) l = some r ∧ r.Perm l ∧ ∀ i j, i < j → j < r.length → c (r.getD i default) (r.getD j default) ≤ 0 := by
  obtain ⟨d', h1, h2, h3⟩ := stabG_ok hc hC (d := l.toArray) (fuel := fuel) (by simpa using hd) (by simpa using hf)
  have hs : d'.size = l.length := by have := h2.1; simpa using this
  refine ⟨d'.toList, by simpa using h1, ?_, fun i j hij hj => ?_⟩
  · have := h2.2.2
    simp only [List.size_toArray] at this
    rw [show d'.extract 0 l.length = d' by rw [← hs]; simp, show l.toArray.extract 0 l.length = l.toArray by simp] at this
    exact this
  · rw [Array.length_toList] at hj
    have := h3 i j (by omega) hij (by simpa [hs] using hj)
    rw [arr_get, arr_get]
    unfold ltC at this
    have a1 := hC.anti d'[i]! d'[j]!
    simp only [decide_eq_false_iff_not] at this
    omega
end
end Go.Av
