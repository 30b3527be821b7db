/-
  Av, part R: a region whose order is open.
-/
import Derived.Test.YtoiphmpjiobaiaaAvQ
namespace Go.Av
open Go
set_option linter.unusedVariables false
set_option linter.unusedSimpArgs false

structure DOp where
  need : St
  eff : St
  mks : List Nat
  dead : List Nat
  hid : List Nat

def St.app (x s : St) : St := ⟨x.tm ++ s.tm, x.sl ++ s.sl⟩

def stD (D : Nat → Bool) : Nat → List DOp → St → St
  | _, [], s => s
  | i, x :: xs, s => match D i with
    | true => stD D (i + 1) xs (x.eff.app s)
    | false => stD D (i + 1) xs s

def hasKey {α : Type} (t : Nat) : List (Nat × α) → Bool
  | [] => false
  | (k, _) :: r => match Nat.beq k t with | true => true | false => hasKey t r

def memB (i : Nat) : List Nat → Bool
  | [] => false
  | k :: r => match Nat.beq k i with | true => true | false => memB i r

def nth (l : List (List Nat)) (j : Nat) : List Nat := l.getD j []

def allB {α : Type} (f : α → Bool) : List α → Bool
  | [] => true
  | x :: r => match f x with | true => allB f r | false => false

def okBef (ops : Array Oper) (bef : List (List Nat)) : Bool :=
  allB (fun j => allB (fun i => match ops[j]? with
    | some o => anyB (fun e : Edge => match Region.binds .any e with
      | true => match Nat.blt e.on j with
        | true => match Nat.beq e.on i with | true => true | false => memB i (nth bef e.on)
        | false => false
      | false => false) o.after.toList
    | none => false) (nth bef j)) (List.range ops.size)

def writes (x : DOp) (r : DOp) : Bool :=
  match anyB (fun e : Nat × AV => match hasKey e.1 r.need.tm with | true => true | false => hasKey e.1 r.eff.tm) x.eff.tm with
  | true => true
  | false => anyB (fun e : Nat × Slot => match hasKey e.1 r.need.sl with | true => true | false => hasKey e.1 r.eff.sl) x.eff.sl

def ordOk (specs : List DOp) (bef : List (List Nat)) : Bool :=
  allB (fun r => allB (fun i => match Nat.beq i r with
    | true => true
    | false => match specs[i]?, specs[r]? with
      | some x, some y => match writes x y with
        | true => match memB i (nth bef r) with | true => true | false => memB r (nth bef i)
        | false => true
      | _, _ => true) (List.range specs.length)) (List.range specs.length)


def lessK {α : Type} (dead : List Nat) : List (Nat × α) → List (Nat × α)
  | [] => []
  | (k, x) :: r => match memB k dead with | true => lessK dead r | false => (k, x) :: lessK dead r

def St.less (x : DOp) (r : St) : St := ⟨lessK x.dead r.tm, lessK (x.mks ++ x.hid) r.sl⟩

def effRef (d : Nat) (z x : DOp) : Bool :=
  match anyB (fun e : Nat × AV => AV.refs d e.2) (x.eff.less z).tm with | true => true | false => anyB (slotRef d) (x.eff.less z).sl

def freshOk (specs : List DOp) (bef : List (List Nat)) (s0 : St) : Bool :=
  allB (fun r => match specs[r]? with
    | some x => match allB (fun t => hasKey t x.eff.tm) x.dead, allB (fun k => hasKey k x.eff.sl) (x.mks ++ x.hid) with
     | true, true => allB (fun d => match (s0.less x).noRef d with
      | true => allB (fun i => match Nat.beq i r with
        | true => true
        | false => match specs[i]? with
          | some y => match effRef d x y with
            | true => memB r (nth bef i)
            | false => true
          | none => true) (List.range specs.length)
      | false => false) x.mks
     | _, _ => false
    | none => true) (List.range specs.length)

def keysOf {α : Type} (l : List (Nat × α)) : List Nat := l.map (·.1)

def needsOk (all : List DOp) (bef : List (List Nat)) (s0 : St) : Nat → List DOp → List (Option St)
  | _, [] => []
  | r, x :: xs => keep (keysOf x.need.tm) (keysOf x.need.sl) (stD (fun i => memB i (nth bef r)) 0 all s0) :: needsOk all bef s0 (r + 1) xs

def needsOf : List DOp → List (Option St)
  | [] => []
  | x :: xs => some x.need :: needsOf xs

theorem memB_iff {i : Nat} {l : List Nat} : memB i l = true ↔ i ∈ l := by
  induction l with
  | nil => simp [memB]
  | cons k r ih =>
    simp only [memB]
    cases hb : Nat.beq k i with
    | true => have := Nat.eq_of_beq_eq_true hb; subst this; simp
    | false =>
      have : k ≠ i := fun e => by rw [e] at hb; simp at hb
      simp only [ih, List.mem_cons]
      constructor
      · exact fun h => .inr h
      · rintro (e | h)
        · exact absurd e.symm this
        · exact h

theorem allB_iff {α : Type} {f : α → Bool} {l : List α} : allB f l = true ↔ ∀ x ∈ l, f x = true := by
  induction l with
  | nil => simp [allB]
  | cons x r ih =>
    simp only [allB]
    cases hx : f x with
    | true => simp [ih, hx]
    | false => simp [hx]

theorem anyB_iff {α : Type} {f : α → Bool} {l : List α} : anyB f l = true ↔ ∃ x ∈ l, f x = true := by
  induction l with
  | nil => simp [anyB]
  | cons x r ih =>
    simp only [anyB]
    cases hx : f x with
    | true => simp [hx]
    | false => simp [ih, hx]

theorem hasKey_iff {α : Type} {t : Nat} {l : List (Nat × α)} : hasKey t l = true ↔ ∃ x, look l t = some x := by
  induction l with
  | nil => simp [hasKey, look]
  | cons e r ih =>
    rcases e with ⟨k, v⟩
    simp only [hasKey, look_cons]
    cases hb : Nat.beq k t with
    | true => have := Nat.eq_of_beq_eq_true hb; subst this; simp
    | false =>
      have : k ≠ t := fun e => by rw [e] at hb; simp at hb
      simp [this, ih]

theorem look_append {α : Type} (l r : List (Nat × α)) (t : Nat) : look (l ++ r) t = match look l t with | some x => some x | none => look r t := by
  induction l with
  | nil => simp [look]
  | cons e l ih =>
    rcases e with ⟨k, v⟩
    simp only [List.cons_append, look_cons, ih]
    by_cases e : k = t <;> simp [e]

theorem stD_congr {D D' : Nat → Bool} (t : Nat) : ∀ (xs : List DOp) (i : Nat) (s s' : St), look s.tm t = look s'.tm t → (∀ j x, xs[j]? = some x → hasKey t x.eff.tm = true → D (i + j) = D' (i + j)) →
    look (stD D i xs s).tm t = look (stD D' i xs s').tm t
  | [], i, s, s', h, _ => h
  | x :: xs, i, s, s', h, hw => by
    have hrest : ∀ j y, xs[j]? = some y → hasKey t y.eff.tm = true → D (i + 1 + j) = D' (i + 1 + j) := fun j y hy hk => by
      have := hw (j + 1) y (by simpa using hy) hk
      rwa [show i + (j + 1) = i + 1 + j by omega] at this
    have h1 : look (x.eff.app s).tm t = look (x.eff.app s').tm t := by simp only [St.app, look_append, h]
    simp only [stD]
    cases hk : hasKey t x.eff.tm with
    | true =>
      have e := hw 0 x rfl hk
      simp only [Nat.add_zero] at e
      rw [e]
      cases D' i with
      | true => exact stD_congr t xs (i + 1) _ _ h1 hrest
      | false => exact stD_congr t xs (i + 1) _ _ h hrest
    | false =>
      have hn : look x.eff.tm t = none := by
        cases hl : look x.eff.tm t with
        | none => rfl
        | some y => rw [hasKey_iff.2 ⟨y, hl⟩] at hk; cases hk
      have g1 : look (x.eff.app s).tm t = look s.tm t := by simp only [St.app, look_append, hn]
      have g2 : look (x.eff.app s').tm t = look s'.tm t := by simp only [St.app, look_append, hn]
      cases D i <;> cases D' i
      · exact stD_congr t xs (i + 1) _ _ h hrest
      · exact stD_congr t xs (i + 1) _ _ (h.trans g2.symm) hrest
      · exact stD_congr t xs (i + 1) _ _ (g1.trans h) hrest
      · exact stD_congr t xs (i + 1) _ _ h1 hrest

theorem stD_congrS {D D' : Nat → Bool} (t : Nat) : ∀ (xs : List DOp) (i : Nat) (s s' : St), look s.sl t = look s'.sl t → (∀ j x, xs[j]? = some x → hasKey t x.eff.sl = true → D (i + j) = D' (i + j)) →
    look (stD D i xs s).sl t = look (stD D' i xs s').sl t
  | [], i, s, s', h, _ => h
  | x :: xs, i, s, s', h, hw => by
    have hrest : ∀ j y, xs[j]? = some y → hasKey t y.eff.sl = true → D (i + 1 + j) = D' (i + 1 + j) := fun j y hy hk => by
      have := hw (j + 1) y (by simpa using hy) hk
      rwa [show i + (j + 1) = i + 1 + j by omega] at this
    have h1 : look (x.eff.app s).sl t = look (x.eff.app s').sl t := by simp only [St.app, look_append, h]
    simp only [stD]
    cases hk : hasKey t x.eff.sl with
    | true =>
      have e := hw 0 x rfl hk
      simp only [Nat.add_zero] at e
      rw [e]
      cases D' i with
      | true => exact stD_congrS t xs (i + 1) _ _ h1 hrest
      | false => exact stD_congrS t xs (i + 1) _ _ h hrest
    | false =>
      have hn : look x.eff.sl t = none := by
        cases hl : look x.eff.sl t with
        | none => rfl
        | some y => rw [hasKey_iff.2 ⟨y, hl⟩] at hk; cases hk
      have g1 : look (x.eff.app s).sl t = look s.sl t := by simp only [St.app, look_append, hn]
      have g2 : look (x.eff.app s').sl t = look s'.sl t := by simp only [St.app, look_append, hn]
      cases D i <;> cases D' i
      · exact stD_congrS t xs (i + 1) _ _ h hrest
      · exact stD_congrS t xs (i + 1) _ _ (h.trans g2.symm) hrest
      · exact stD_congrS t xs (i + 1) _ _ (g1.trans h) hrest
      · exact stD_congrS t xs (i + 1) _ _ h1 hrest

theorem stD_last {D : Nat → Bool} (t : Nat) : ∀ (xs : List DOp) (i r : Nat) (x : DOp) (y : AV) (s : St), xs[r]? = some x → D (i + r) = true → look x.eff.tm t = some y →
    (∀ j z, r < j → xs[j]? = some z → hasKey t z.eff.tm = true → D (i + j) = false) → look (stD D i xs s).tm t = some y
  | [], i, r, x, y, s, h, _, _, _ => by simp at h
  | z :: xs, i, 0, x, y, s, h, hD, hl, hw => by
    simp at h; subst h
    simp only [stD]
    rw [Nat.add_zero] at hD
    rw [hD]
    have : look (stD D (i + 1) xs (z.eff.app s)).tm t = look (stD (fun _ => false) (i + 1) xs (z.eff.app s)).tm t :=
      stD_congr t xs (i + 1) _ _ rfl fun j x hx hk => by
        have := hw (j + 1) x (by omega) (by simpa using hx) hk
        rwa [show i + (j + 1) = i + 1 + j by omega] at this
    rw [this]
    have key : ∀ (xs : List DOp) (i : Nat) (s : St), stD (fun _ => false) i xs s = s := by
      intro xs
      induction xs with
      | nil => intro i s; rfl
      | cons x xs ih => intro i s; simp only [stD]; exact ih _ _
    rw [key]
    simp only [St.app, look_append, hl]
  | z :: xs, i, r + 1, x, y, s, h, hD, hl, hw => by
    simp only [stD]
    have h' : xs[r]? = some x := by simpa using h
    have hD' : D (i + 1 + r) = true := by rwa [show i + (r + 1) = i + 1 + r by omega] at hD
    have hw' : ∀ j z, r < j → xs[j]? = some z → hasKey t z.eff.tm = true → D (i + 1 + j) = false := fun j z hj hz hk => by
      have := hw (j + 1) z (by omega) (by simpa using hz) hk
      rwa [show i + (j + 1) = i + 1 + j by omega] at this
    cases D i with
    | true => exact stD_last t xs (i + 1) r x y _ h' hD' hl hw'
    | false => exact stD_last t xs (i + 1) r x y _ h' hD' hl hw'

theorem stD_lastS {D : Nat → Bool} (t : Nat) : ∀ (xs : List DOp) (i r : Nat) (x : DOp) (y : Slot) (s : St), xs[r]? = some x → D (i + r) = true → look x.eff.sl t = some y →
    (∀ j z, r < j → xs[j]? = some z → hasKey t z.eff.sl = true → D (i + j) = false) → look (stD D i xs s).sl t = some y
  | [], i, r, x, y, s, h, _, _, _ => by simp at h
  | z :: xs, i, 0, x, y, s, h, hD, hl, hw => by
    simp at h; subst h
    simp only [stD]
    rw [Nat.add_zero] at hD
    rw [hD]
    have : look (stD D (i + 1) xs (z.eff.app s)).sl t = look (stD (fun _ => false) (i + 1) xs (z.eff.app s)).sl t :=
      stD_congrS t xs (i + 1) _ _ rfl fun j x hx hk => by
        have := hw (j + 1) x (by omega) (by simpa using hx) hk
        rwa [show i + (j + 1) = i + 1 + j by omega] at this
    rw [this]
    have key : ∀ (xs : List DOp) (i : Nat) (s : St), stD (fun _ => false) i xs s = s := by
      intro xs
      induction xs with
      | nil => intro i s; rfl
      | cons x xs ih => intro i s; simp only [stD]; exact ih _ _
    rw [key]
    simp only [St.app, look_append, hl]
  | z :: xs, i, r + 1, x, y, s, h, hD, hl, hw => by
    simp only [stD]
    have h' : xs[r]? = some x := by simpa using h
    have hD' : D (i + 1 + r) = true := by rwa [show i + (r + 1) = i + 1 + r by omega] at hD
    have hw' : ∀ j z, r < j → xs[j]? = some z → hasKey t z.eff.sl = true → D (i + 1 + j) = false := fun j z hj hz hk => by
      have := hw (j + 1) z (by omega) (by simpa using hz) hk
      rwa [show i + (j + 1) = i + 1 + j by omega] at this
    cases D i with
    | true => exact stD_lastS t xs (i + 1) r x y _ h' hD' hl hw'
    | false => exact stD_lastS t xs (i + 1) r x y _ h' hD' hl hw'

theorem look_less {α : Type} (dead : List Nat) (l : List (Nat × α)) (t : Nat) : look (lessK dead l) t = match memB t dead with | true => none | false => look l t := by
  induction l with
  | nil => cases memB t dead <;> rfl
  | cons e l ih =>
    rcases e with ⟨k, v⟩
    simp only [lessK]
    by_cases hk : k = t
    · subst hk
      cases hm : memB k dead with
      | true => simp only [hm] at ih ⊢; exact ih
      | false => simp [look_cons]
    · cases hm : memB k dead with
      | true => simp only [ih, look_cons, hk, if_false]
      | false => simp only [look_cons, hk, if_false, ih]

theorem lessK_append {α : Type} (dead : List Nat) (l r : List (Nat × α)) : lessK dead (l ++ r) = lessK dead l ++ lessK dead r := by
  induction l with
  | nil => rfl
  | cons e l ih =>
    rcases e with ⟨k, v⟩
    simp only [List.cons_append, lessK]
    cases memB k dead <;> simp [ih]

theorem stD_noRef {D : Nat → Bool} {d : Nat} {z : DOp} : ∀ (xs : List DOp) (i : Nat) (s : St), (s.less z).noRef d = true → (∀ j x, xs[j]? = some x → D (i + j) = true → effRef d z x = false) → ((stD D i xs s).less z).noRef d = true
  | [], i, s, h, _ => h
  | x :: xs, i, s, h, hw => by
    have hrest : ∀ j y, xs[j]? = some y → D (i + 1 + j) = true → effRef d z y = false := fun j y hy hk => by
      refine hw (j + 1) y (by simpa using hy) ?_
      rwa [show i + (j + 1) = i + 1 + j by omega]
    simp only [stD]
    cases hD : D i with
    | false => exact stD_noRef xs (i + 1) s h hrest
    | true =>
      refine stD_noRef xs (i + 1) _ ?_ hrest
      have he := hw 0 x rfl (by simpa using hD)
      unfold effRef at he
      cases h1 : anyB (fun e : Nat × AV => AV.refs d e.2) (x.eff.less z).tm with
      | true => simp [h1] at he
      | false =>
        simp only [h1] at he
        have app : ∀ {α : Type} (f : α → Bool) (l r : List α), anyB f l = false → anyB f r = false → anyB f (l ++ r) = false := fun f l r hl hr => by
          induction l with
          | nil => exact hr
          | cons y l ih =>
            simp only [anyB] at hl
            cases hy : f y with
            | true => simp [hy] at hl
            | false => simp only [hy] at hl; simp only [List.cons_append, anyB, hy]; exact ih hl
        unfold St.noRef at h ⊢
        cases g1 : anyB (fun e : Nat × AV => AV.refs d e.2) (s.less z).tm with
        | true => simp [g1] at h
        | false =>
          simp only [g1] at h
          cases g2 : anyB (slotRef d) (s.less z).sl with
          | true => simp [g2] at h
          | false =>
            have e1 : ((x.eff.app s).less z).tm = (x.eff.less z).tm ++ (s.less z).tm := lessK_append _ _ _
            have e2 : ((x.eff.app s).less z).sl = (x.eff.less z).sl ++ (s.less z).sl := lessK_append _ _ _
            simp only [e1, e2, app _ _ _ h1 g1, app _ _ _ he g2]

section
variable {E : Env} {s : St} {a : Act} {w : World}

def OneW (E : Env) (ops : Array Oper) (o : Oper) (s s' : St) : Prop :=
  ∀ a w, SimE E s a w → ∀ (next : Act → World → Prop) (Q : Exit → Act → World → Prop), (∀ a' w', SimE E s' a' w' → next a' w') →
    if Region.wanted o (yielded ops a.tmps) then o.wp E.P a w next Q else next (a.put o.dst undef) w

theorem One.toW {ops : Array Oper} {o : Oper} {s' : St} (h : One E ops o s s') : OneW E ops o s s' := fun a w hs next Q hn => by
  obtain ⟨h1, h2⟩ := h a w hs
  rw [if_pos h1]
  exact h2 next Q hn

theorem OneW.skip {ops : Array Oper} {o : Oper} {d : Nat} (hw : wantedB ops s o = some false) (hd : o.dst = some d) (hlt : Nat.blt d E.N = true) : OneW E ops o s (s.put d (.tup [])) := fun a w hs next Q hn => by
  obtain ⟨G, φ, h⟩ := hs
  rw [if_neg (by rw [wantedB_spec h hw]; simp), hd]
  exact hn _ _ ⟨G, φ, h.put (Nat.blt_eq.mp hlt) ⟨#[], rfl, trivial⟩⟩

def DOk (E : Env) (ops : Array Oper) (o : Oper) (x : DOp) : Prop :=
  ∀ r : St, (∀ d ∈ x.mks, (r.less x).noRef d = true) → OneW E ops o (x.need.app (r.less x)) (x.eff.app (x.need.app (r.less x)))

theorem okBef_spec {ops : Array Oper} {bef : List (List Nat)} (h : okBef ops bef = true) {j i : Nat} (hj : j < ops.size) (hi : i ∈ nth bef j) :
    ∃ o e, ops[j]? = some o ∧ e ∈ o.after.toList ∧ Region.binds .any e = true ∧ e.on < j ∧ (e.on = i ∨ i ∈ nth bef e.on) := by
  have h1 := allB_iff.1 h j (by simpa using hj)
  have h2 := allB_iff.1 h1 i hi
  cases ho : ops[j]? with
  | none => rw [ho] at h2; cases h2
  | some o =>
    rw [ho] at h2
    obtain ⟨e, he, h3⟩ := anyB_iff.1 h2
    cases hb : Region.binds .any e with
    | false => rw [hb] at h3; cases h3
    | true =>
      rw [hb] at h3
      simp only at h3
      cases hlt : Nat.blt e.on j with
      | false => rw [hlt] at h3; cases h3
      | true =>
        rw [hlt] at h3
        simp only at h3
        refine ⟨o, e, rfl, he, hb, Nat.blt_eq.mp hlt, ?_⟩
        cases hq : Nat.beq e.on i with
        | true => exact .inl (Nat.eq_of_beq_eq_true hq)
        | false => rw [hq] at h3; exact .inr (memB_iff.1 h3)

def Closed (ops : Array Oper) (D : Nat → Bool) : Prop := ∀ j o, ops[j]? = some o → D j = true → ∀ e ∈ o.after.toList, Region.binds .any e = true → D e.on = true

theorem bef_in {ops : Array Oper} {bef : List (List Nat)} (h : okBef ops bef = true) {D : Nat → Bool} (hD : Closed ops D) : ∀ j, j < ops.size → (∀ o, ops[j]? = some o → ∀ e ∈ o.after.toList, Region.binds .any e = true → D e.on = true) →
    ∀ i ∈ nth bef j, D i = true ∧ i < j := by
  intro j
  induction j using Nat.strongRecOn with
  | _ j ih =>
    intro hj hd i hi
    obtain ⟨o, e, ho, he, hb, hlt, hor⟩ := okBef_spec h hj hi
    have hin := hd o ho e he hb
    rcases hor with rfl | hor
    · exact ⟨hin, hlt⟩
    · obtain ⟨h1, h2⟩ := ih e.on hlt (by omega) (fun o' ho' e' he' hb' => hD e.on o' ho' hin e' he' hb') i hor
      exact ⟨h1, by omega⟩

def edgesBack (ops : Array Oper) : Bool :=
  allB (fun j => match ops[j]? with
    | some o => allB (fun e : Edge => match Region.binds .any e with | true => Nat.blt e.on j | false => true) o.after.toList
    | none => true) (List.range ops.size)

theorem edgesBack_spec {ops : Array Oper} (h : edgesBack ops = true) {j : Nat} {o : Oper} (hj : ops[j]? = some o) {e : Edge} (he : e ∈ o.after.toList) (hb : Region.binds .any e = true) : e.on < j := by
  have hlt := (Array.getElem?_eq_some_iff.1 hj).1
  have h1 := allB_iff.1 h j (by simpa using hlt)
  rw [hj] at h1
  have h2 := allB_iff.1 h1 e he
  rw [hb] at h2
  exact Nat.blt_eq.mp h2

theorem bef_lt {ops : Array Oper} {bef : List (List Nat)} (h : okBef ops bef = true) {j i : Nat} (hj : j < ops.size) (hi : i ∈ nth bef j) : i < j :=
  (bef_in h (D := fun _ => true) (fun _ _ _ _ _ _ _ => rfl) j hj (fun _ _ _ _ _ => rfl) i hi).2

theorem stD_ext {D D' : Nat → Bool} : ∀ (xs : List DOp) (i : Nat) (s : St), (∀ j, j < xs.length → D (i + j) = D' (i + j)) → stD D i xs s = stD D' i xs s
  | [], i, s, _ => rfl
  | x :: xs, i, s, h => by
    have h0 := h 0 (by simp)
    rw [Nat.add_zero] at h0
    have hr : ∀ j, j < xs.length → D (i + 1 + j) = D' (i + 1 + j) := fun j hj => by
      have := h (j + 1) (by simp; omega)
      rwa [show i + (j + 1) = i + 1 + j by omega] at this
    simp only [stD, h0]
    cases D' i
    · exact stD_ext xs _ _ hr
    · exact stD_ext xs _ _ hr

theorem needsOk_spec {all : List DOp} {bef : List (List Nat)} {s0 : St} : ∀ (xs : List DOp) (r : Nat), needsOk all bef s0 r xs = needsOf xs → ∀ j x, xs[j]? = some x →
    keep (keysOf x.need.tm) (keysOf x.need.sl) (stD (fun i => memB i (nth bef (r + j))) 0 all s0) = some x.need
  | [], r, h, j, x, hx => by simp at hx
  | y :: xs, r, h, j, x, hx => by
    simp only [needsOk, needsOf, List.cons.injEq] at h
    cases j with
    | zero => simp at hx; subst hx; exact h.1
    | succ j =>
      have := needsOk_spec xs (r + 1) h.2 j x (by simpa using hx)
      rwa [show r + 1 + j = r + (j + 1) by omega] at this

theorem ordOk_spec {specs : List DOp} {bef : List (List Nat)} (h : ordOk specs bef = true) {i r : Nat} {x y : DOp} (hx : specs[i]? = some x) (hy : specs[r]? = some y) (hne : i ≠ r) (hw : writes x y = true) :
    i ∈ nth bef r ∨ r ∈ nth bef i := by
  have h1 := allB_iff.1 h r (by simpa using (List.getElem?_eq_some_iff.1 hy).1)
  have h2 := allB_iff.1 h1 i (by simpa using (List.getElem?_eq_some_iff.1 hx).1)
  have hb : Nat.beq i r = false := by
    cases hb : Nat.beq i r with
    | false => rfl
    | true => exact absurd (Nat.eq_of_beq_eq_true hb) hne
  rw [hb, hx, hy] at h2
  simp only [hw] at h2
  cases hm : memB i (nth bef r) with
  | true => exact .inl (memB_iff.1 hm)
  | false => rw [hm] at h2; exact .inr (memB_iff.1 h2)

theorem freshOk_spec {specs : List DOp} {bef : List (List Nat)} {s0 : St} (h : freshOk specs bef s0 = true) {r : Nat} {x : DOp} (hx : specs[r]? = some x) :
    (∀ t ∈ x.dead, hasKey t x.eff.tm = true) ∧ (∀ k ∈ x.mks ++ x.hid, hasKey k x.eff.sl = true) ∧
    ∀ d ∈ x.mks, (s0.less x).noRef d = true ∧ ∀ i y, i ≠ r → specs[i]? = some y → effRef d x y = true → r ∈ nth bef i := by
  have h1 := allB_iff.1 h r (by simpa using (List.getElem?_eq_some_iff.1 hx).1)
  rw [hx] at h1
  simp only at h1
  split at h1
  · rename_i g1 g2
    refine ⟨allB_iff.1 g1, allB_iff.1 g2, fun d hd => ?_⟩
    have h2 := allB_iff.1 h1 d hd
    cases hn : (s0.less x).noRef d with
    | false => rw [hn] at h2; cases h2
    | true =>
      rw [hn] at h2
      refine ⟨rfl, fun i y hne hy he => ?_⟩
      have h3 := allB_iff.1 h2 i (by simpa using (List.getElem?_eq_some_iff.1 hy).1)
      have hb : Nat.beq i r = false := by
        cases hb : Nat.beq i r with
        | false => rfl
        | true => exact absurd (Nat.eq_of_beq_eq_true hb) hne
      rw [hb, hy] at h3
      simp only [he] at h3
      exact memB_iff.1 h3
  · cases h1

theorem look_hasKey {α : Type} {l : List (Nat × α)} {t : Nat} {x : α} (h : look l t = some x) : hasKey t l = true := hasKey_iff.2 ⟨x, h⟩

theorem writes_of {x y : DOp} {t : Nat} (hx : hasKey t x.eff.tm = true) (hy : hasKey t y.need.tm = true ∨ hasKey t y.eff.tm = true) : writes x y = true := by
  unfold writes
  obtain ⟨v, hv⟩ := hasKey_iff.1 hx
  have : anyB (fun e : Nat × AV => match hasKey e.1 y.need.tm with | true => true | false => hasKey e.1 y.eff.tm) x.eff.tm = true := by
    refine anyB_iff.2 ⟨(t, v), look_mem hv, ?_⟩
    rcases hy with hy | hy
    · simp [hy]
    · cases hasKey t y.need.tm <;> simp [hy]
  rw [this]

theorem writes_ofS {x y : DOp} {t : Nat} (hx : hasKey t x.eff.sl = true) (hy : hasKey t y.need.sl = true ∨ hasKey t y.eff.sl = true) : writes x y = true := by
  unfold writes
  obtain ⟨v, hv⟩ := hasKey_iff.1 hx
  have : anyB (fun e : Nat × Slot => match hasKey e.1 y.need.sl with | true => true | false => hasKey e.1 y.eff.sl) x.eff.sl = true := by
    refine anyB_iff.2 ⟨(t, v), look_mem hv, ?_⟩
    rcases hy with hy | hy
    · simp [hy]
    · cases hasKey t y.need.sl <;> simp [hy]
  rw [this]
  split <;> rfl

structure DrawOk (E : Env) (ops : Array Oper) (specs : List DOp) (bef : List (List Nat)) (s0 : St) : Prop where
  len : Nat.beq specs.length ops.size = true
  back : edgesBack ops = true
  befs : okBef ops bef = true
  ord : ordOk specs bef = true
  fresh : freshOk specs bef s0 = true
  needs : needsOk specs bef s0 0 specs = needsOf specs
  each : ∀ (i : Nat) (o : Oper) (x : DOp), ops[i]? = some o → specs[i]? = some x → DOk E ops o x

theorem DrawOk.next {ops : Array Oper} {specs : List DOp} {bef : List (List Nat)} {s0 : St} (h : DrawOk E ops specs bef s0) {D D' : Nat → Bool} (hD : Closed ops D) {i : Nat} {o : Oper} {x : DOp} (ho : ops[i]? = some o)
    (hx : specs[i]? = some x) (hi : D i = false) (hedge : ∀ e ∈ o.after.toList, Region.binds .any e = true → D e.on = true) (hD' : ∀ j, D' j = if j = i then true else D j) (hs : SimE E (stD D 0 specs s0) a w)
    {K : Act → World → Prop} {Q : Exit → Act → World → Prop} (hK : ∀ a' w', SimE E (stD D' 0 specs s0) a' w' → K a' w') : wpOp E.P ops Q i K a w := by
  have hlen := Nat.eq_of_beq_eq_true h.len
  have hilt : i < ops.size := (Array.getElem?_eq_some_iff.1 ho).1
  have hjlt : ∀ {j : Nat} {y : DOp}, specs[j]? = some y → j < ops.size := fun hy => by rw [← hlen]; exact (List.getElem?_eq_some_iff.1 hy).1
  have hbef : ∀ j ∈ nth bef i, D j = true ∧ j < i := bef_in h.befs hD i hilt fun o' ho' e he hb => by rw [ho] at ho'; cases ho'; exact hedge e he hb
  have hafter : ∀ j y, specs[j]? = some y → i ∈ nth bef j → D j = false := fun j y hy hij => by
    cases hj : D j with
    | false => rfl
    | true =>
      have := (bef_in h.befs hD j (hjlt hy) (fun o' ho' e he hb => hD j o' ho' hj e he hb) i hij).1
      rw [hi] at this; cases this
  have hown : memB i (nth bef i) = false := by
    cases hm : memB i (nth bef i) with
    | false => rfl
    | true => exact absurd (bef_lt h.befs hilt (memB_iff.1 hm)) (Nat.lt_irrefl _)
  have hsame : ∀ j y, specs[j]? = some y → writes y x = true → D j = memB j (nth bef i) := fun j y hy hw => by
    by_cases e : j = i
    · subst e; rw [hi, hown]
    · rcases ordOk_spec h.ord hy hx e hw with hm | hm
      · rw [(hbef j hm).1, memB_iff.2 hm]
      · rw [hafter j y hy hm]
        cases hm' : memB j (nth bef i) with
        | false => rfl
        | true =>
          have h1 := bef_lt h.befs hilt (memB_iff.1 hm')
          have h2 := bef_lt h.befs (hjlt hy) hm
          omega
  have hkeep := needsOk_spec specs 0 h.needs i x hx
  rw [Nat.zero_add] at hkeep
  unfold keep at hkeep
  split at hkeep
  case h_2 => cases hkeep
  rename_i tm htm
  split at hkeep
  case h_2 => cases hkeep
  rename_i sl hsl
  have etm : x.need.tm = tm := by rw [← Option.some.inj hkeep]
  have esl : x.need.sl = sl := by rw [← Option.some.inj hkeep]
  have needT : ∀ t y, look x.need.tm t = some y → look (stD D 0 specs s0).tm t = some y := fun t y hy => by
    have h1 := pickK_look htm t y (etm ▸ hy)
    rw [← h1]
    refine stD_congr t specs 0 s0 s0 rfl fun j z hz hk => ?_
    rw [Nat.zero_add]
    exact hsame j z hz (writes_of hk (.inl (look_hasKey hy)))
  have needS : ∀ t y, look x.need.sl t = some y → look (stD D 0 specs s0).sl t = some y := fun t y hy => by
    have h1 := pickK_look hsl t y (esl ▸ hy)
    rw [← h1]
    refine stD_congrS t specs 0 s0 s0 rfl fun j z hz hk => ?_
    rw [Nat.zero_add]
    exact hsame j z hz (writes_ofS hk (.inl (look_hasKey hy)))
  obtain ⟨fd, fm, ff⟩ := freshOk_spec h.fresh hx
  have lessT : ∀ t y, look ((stD D 0 specs s0).less x).tm t = some y → look (stD D 0 specs s0).tm t = some y := fun t y hy => by
    have hy : look (lessK x.dead _) t = some y := hy
    rw [look_less] at hy
    cases hm : memB t x.dead with
    | true => rw [hm] at hy; cases hy
    | false => rw [hm] at hy; exact hy
  have lessS : ∀ t y, look ((stD D 0 specs s0).less x).sl t = some y → look (stD D 0 specs s0).sl t = some y := fun t y hy => by
    have hy : look (lessK (x.mks ++ x.hid) _) t = some y := hy
    rw [look_less] at hy
    cases hm : memB t (x.mks ++ x.hid) with
    | true => rw [hm] at hy; cases hy
    | false => rw [hm] at hy; exact hy
  have hs1 : SimE E (x.need.app ((stD D 0 specs s0).less x)) a w := hs.weaken (fun t y hy => by
      simp only [St.app, look_append] at hy
      cases hn : look x.need.tm t with
      | none => rw [hn] at hy; exact lessT t y hy
      | some z => rw [hn] at hy; cases hy; exact needT t _ hn) fun t y hy => by
      simp only [St.app, look_append] at hy
      cases hn : look x.need.sl t with
      | none => rw [hn] at hy; exact lessS t y hy
      | some z => rw [hn] at hy; cases hy; exact needS t _ hn
  have hfr : ∀ d ∈ x.mks, ((stD D 0 specs s0).less x).noRef d = true := fun d hd => by
    obtain ⟨f1, f2⟩ := ff d hd
    refine stD_noRef specs 0 s0 f1 fun j y hy hDj => ?_
    rw [Nat.zero_add] at hDj
    cases he : effRef d x y with
    | false => rfl
    | true =>
      have hne : j ≠ i := fun e => by rw [e, hi] at hDj; cases hDj
      have := hafter j y hy (f2 j y hne hy he)
      rw [this] at hDj; cases hDj
  have hone := h.each i o x ho hx (stD D 0 specs s0) hfr a w hs1
  have hD0 : D' i = true := by rw [hD']; simp
  have hlast : ∀ j y, i < j → specs[j]? = some y → writes y x = true → D' j = false := fun j y hlt hy hw => by
    rw [hD', if_neg (by omega)]
    rcases ordOk_spec h.ord hy hx (by omega) hw with hm | hm
    · have := bef_lt h.befs hilt hm; omega
    · exact hafter j y hy hm
  have hs2 : ∀ a' w', SimE E (x.eff.app (x.need.app ((stD D 0 specs s0).less x))) a' w' → SimE E (stD D' 0 specs s0) a' w' := fun a' w' hs' => by
    refine hs'.weaken (fun t y hy => ?_) fun t y hy => ?_
    · simp only [St.app, look_append]
      cases he : look x.eff.tm t with
      | some z =>
        have := stD_last (D := D') t specs 0 i x z s0 hx (by rw [Nat.zero_add]; exact hD0) he fun j z' hlt hz hk => by
          rw [Nat.zero_add]; exact hlast j z' hlt hz (writes_of hk (.inr (look_hasKey he)))
        rw [this] at hy; cases hy; rfl
      | none =>
        have e : look (stD D' 0 specs s0).tm t = look (stD D 0 specs s0).tm t := stD_congr t specs 0 s0 s0 rfl fun j z hz hk => by
          rw [Nat.zero_add, hD', if_neg]
          intro e
          subst e
          rw [hx] at hz; cases hz
          obtain ⟨v, hv⟩ := hasKey_iff.1 hk
          rw [he] at hv; cases hv
        rw [e] at hy
        cases hn : look x.need.tm t with
        | none =>
          show look (lessK x.dead _) t = some y
          rw [look_less]
          cases hm : memB t x.dead with
          | true => have := fd t (memB_iff.1 hm); obtain ⟨v, hv⟩ := hasKey_iff.1 this; rw [he] at hv; cases hv
          | false => exact hy
        | some z => rw [needT t z hn] at hy; exact hy
    · simp only [St.app, look_append]
      cases he : look x.eff.sl t with
      | some z =>
        have := stD_lastS (D := D') t specs 0 i x z s0 hx (by rw [Nat.zero_add]; exact hD0) he fun j z' hlt hz hk => by
          rw [Nat.zero_add]; exact hlast j z' hlt hz (writes_ofS hk (.inr (look_hasKey he)))
        rw [this] at hy; cases hy; rfl
      | none =>
        have e : look (stD D' 0 specs s0).sl t = look (stD D 0 specs s0).sl t := stD_congrS t specs 0 s0 s0 rfl fun j z hz hk => by
          rw [Nat.zero_add, hD', if_neg]
          intro e
          subst e
          rw [hx] at hz; cases hz
          obtain ⟨v, hv⟩ := hasKey_iff.1 hk
          rw [he] at hv; cases hv
        rw [e] at hy
        cases hn : look x.need.sl t with
        | none =>
          show look (lessK (x.mks ++ x.hid) _) t = some y
          rw [look_less]
          cases hm : memB t (x.mks ++ x.hid) with
          | true => have := fm t (memB_iff.1 hm); obtain ⟨v, hv⟩ := hasKey_iff.1 this; rw [he] at hv; cases hv
          | false => exact hy
        | some z => rw [needS t z hn] at hy; exact hy
  have hfin := hone K Q fun a' w' hs' => hK a' w' (hs2 a' w' hs')
  unfold wpOp
  rw [ho]
  simp only
  split
  · rename_i hw; rw [if_pos hw] at hfin; exact .inl hfin
  · rename_i hw; rw [if_neg hw] at hfin; exact hfin

end

def cnt (l : Array Bool) : Nat := (l.toList.filter fun b => !b).length

theorem cnt_set {l : Array Bool} {i : Nat} (hi : l[i]? = some false) : cnt (l.setIfInBounds i true) + 1 = cnt l := by
  unfold cnt
  obtain ⟨hlt, he⟩ := Array.getElem?_eq_some_iff.1 hi
  have key : ∀ (l : List Bool) (i : Nat), l[i]? = some false → ((l.set i true).filter fun b => !b).length + 1 = (l.filter fun b => !b).length := by
    intro l
    induction l with
    | nil => intro i h; simp at h
    | cons b l ih =>
      intro i h
      cases i with
      | zero => simp at h; subst h; simp
      | succ i =>
        have := ih i (by simpa using h)
        cases b <;> simp [List.set, List.filter] at this ⊢ <;> omega
  rw [Array.toList_setIfInBounds]
  exact key l.toList i (by simpa using hi)

theorem cnt_zero {l : Array Bool} (h : cnt l = 0) (i : Nat) (hi : i < l.size) : l[i]? = some true := by
  unfold cnt at h
  have h1 : l.toList.filter (fun b => !b) = [] := List.length_eq_zero_iff.1 h
  have h2 := List.filter_eq_nil_iff.1 h1 l[i] (by simp)
  rw [Array.getElem?_eq_getElem hi]
  simpa using h2

theorem cnt_pos {l : Array Bool} (h : 0 < cnt l) : ∃ i : Nat, l[i]? = some false ∧ ∀ j : Nat, j < i → l[j]? = some true := by
  unfold cnt at h
  have key : ∀ (l : List Bool), 0 < (l.filter fun b => !b).length → ∃ i : Nat, l[i]? = some false ∧ ∀ j : Nat, j < i → l[j]? = some true := by
    intro l
    induction l with
    | nil => intro h; simp at h
    | cons b l ih =>
      intro h
      cases b with
      | false => exact ⟨0, rfl, fun j hj => by omega⟩
      | true =>
        obtain ⟨i, h1, h2⟩ := ih (by simpa [List.filter] using h)
        refine ⟨i + 1, by simpa using h1, fun j hj => ?_⟩
        cases j with
        | zero => rfl
        | succ j => simpa using h2 j (by omega)
  obtain ⟨i, h1, h2⟩ := key l.toList h
  exact ⟨i, by simpa using h1, fun j hj => by simpa using h2 j hj⟩

def inD (l : Array Bool) (i : Nat) : Bool := l.getD i false

section
variable {E : Env} {s : St} {a : Act} {w : World}

theorem DrawOk.any {ops : Array Oper} {specs : List DOp} {bef : List (List Nat)} {s0 : St} (h : DrawOk E ops specs bef s0) {Q : Exit → Act → World → Prop}
    (hQ : ∀ a' w', SimE E (stD (fun _ => true) 0 specs s0) a' w' → Q .normal a' w') : ∀ (fuel : Nat) (listed : Array Bool) (a : Act) (w : World), cnt listed = fuel → listed.size = ops.size → Closed ops (inD listed) →
    SimE E (stD (inD listed) 0 specs s0) a w → wpAny E.P .any ops Q fuel listed a w := by
  have hlen := Nat.eq_of_beq_eq_true h.len
  intro fuel
  induction fuel with
  | zero =>
    intro listed a w hc hz hD hs
    refine ⟨List.filter_eq_nil_iff.2 fun i hi => ?_, hQ a w ?_⟩
    · have := cnt_zero hc i (by rw [hz]; simpa using hi)
      simp [Array.getD_eq_getD_getElem?, this]
    · rw [stD_ext (D' := inD listed)]
      · exact hs
      · intro j hj
        have := cnt_zero hc j (by omega)
        simp [inD, Array.getD_eq_getD_getElem?, this]
  | succ fuel ih =>
    intro listed a w hc hz hD hs
    refine ⟨fun h0 => ?_, fun i hi => ?_⟩
    · obtain ⟨i, h1, h2⟩ := cnt_pos (l := listed) (by omega)
      have hilt : i < ops.size := by rw [← hz]; exact (Array.getElem?_eq_some_iff.1 h1).1
      have hmem : i ∈ Region.ready .any ops listed := by
        unfold Region.ready
        refine List.mem_filter.2 ⟨by simpa using hilt, ?_⟩
        have ho : ops[i]? = some ops[i] := Array.getElem?_eq_getElem hilt
        simp only [Array.getD_eq_getD_getElem?, h1, ho, Option.getD_some, Bool.not_false, Bool.true_and, Option.map_some, Array.all_eq_true']
        intro e he
        cases hb : Region.binds .any e with
        | false => rfl
        | true =>
          have := h2 e.on (edgesBack_spec h.back ho (by simpa using he) hb)
          simp [this]
      rw [h0] at hmem; cases hmem
    · unfold Region.ready at hi
      obtain ⟨hi1, hi2⟩ := List.mem_filter.1 hi
      have hilt : i < ops.size := by simpa using hi1
      have ho : ops[i]? = some ops[i] := Array.getElem?_eq_getElem hilt
      simp only [ho, Option.map_some, Option.getD_some, Bool.and_eq_true, Array.all_eq_true'] at hi2
      obtain ⟨hn, hall⟩ := hi2
      have hli : listed[i]? = some false := by
        rw [Array.getElem?_eq_getElem (by omega)]
        simp [Array.getD_eq_getD_getElem?, Array.getElem?_eq_getElem (show i < listed.size by omega)] at hn
        rw [hn]
      have hedge : ∀ e ∈ ops[i].after.toList, Region.binds .any e = true → inD listed e.on = true := fun e he hb => by
        have := hall e (by simpa using he)
        rw [hb] at this
        simpa [inD] using this
      have hset : ∀ j, inD (listed.setIfInBounds i true) j = if j = i then true else inD listed j := fun j => by
        unfold inD
        simp only [Array.getD_eq_getD_getElem?, Array.getElem?_setIfInBounds]
        by_cases e : i = j
        · subst e; simp [show i < listed.size by omega]
        · rw [if_neg e, if_neg (fun x => e x.symm)]
      obtain ⟨x, hx⟩ : ∃ x, specs[i]? = some x := ⟨specs[i]'(by omega), List.getElem?_eq_getElem _⟩
      refine h.next hD ho hx (by simp [inD, Array.getD_eq_getD_getElem?, hli]) hedge hset hs fun a' w' hs' => ?_
      refine ih _ a' w' (by have := cnt_set hli; omega) (by simpa using hz) (fun j o hj hDj e he hb => ?_) hs'
      rw [hset] at hDj ⊢
      by_cases e1 : e.on = i
      · rw [if_pos e1]
      · rw [if_neg e1]
        by_cases e2 : j = i
        · subst e2
          rw [ho] at hj; cases hj
          exact hedge e he hb
        · rw [if_neg e2] at hDj
          exact hD j o hj hDj e he hb

theorem Tri.draw {post : Exit → St → Prop} {id : Nat} {l : List Oper} {specs : List DOp} {bef : List (List Nat)} {s' : St} {tk sk : List Nat} (hm : E.P.follows .mixedOrders = true)
    (h : DrawOk E l.toArray specs bef s) (hk : keep tk sk (stD (fun _ => true) 0 specs s) = some s') (hp : post .normal s') : Tri E (.region id l.toArray true) s post := fun a w hs => by
  refine wp_region_any hm (h.any (fun a' w' hs' => ⟨s', hp, keep_sim hk hs'⟩) _ _ a _ ?_ (by simp) ?_ ?_)
  · simp only [cnt, Array.toList_replicate]
    rw [List.filter_eq_self.2 (by intro b hb; rw [(List.mem_replicate.1 hb).2]; rfl)]
    simp
  · intro j o _ hD
    simp only [inD, Array.getD_eq_getD_getElem?, Array.getElem?_replicate] at hD
    split at hD <;> cases hD
  · rw [stD_ext (D' := fun _ => false)]
    · have key : ∀ (xs : List DOp) (i : Nat) (s : St), stD (fun _ => false) i xs s = s := by
        intro xs
        induction xs with
        | nil => intro i s; rfl
        | cons x xs ih => intro i s; simp only [stD]; exact ih _ _
      rw [key]
      obtain ⟨G, φ, hs⟩ := hs
      exact ⟨G, φ, hs.world rfl rfl rfl rfl⟩
    · intro j _
      simp only [inD, Array.getD_eq_getD_getElem?, Array.getElem?_replicate]
      split <;> rfl

def EachOk (E : Env) (ops : Array Oper) : List Oper → List DOp → Prop
  | [], [] => True
  | o :: os, x :: xs => DOk E ops o x ∧ EachOk E ops os xs
  | _, _ => False

theorem EachOk.get {ops : Array Oper} : ∀ {os : List Oper} {xs : List DOp}, EachOk E ops os xs → ∀ (i : Nat) (o : Oper) (x : DOp), os[i]? = some o → xs[i]? = some x → DOk E ops o x
  | [], [], _, i, o, x, h, _ => by simp at h
  | o :: os, y :: xs, h, i, o', x, ho, hx => by
    cases i with
    | zero => simp at ho hx; subst ho hx; exact h.1
    | succ i => exact EachOk.get h.2 i o' x (by simpa using ho) (by simpa using hx)
  | [], _ :: _, h, _, _, _, _, _ => h.elim
  | _ :: _, [], h, _, _, _, _, _ => h.elim

def drawB (l : List Oper) (specs : List DOp) (bef : List (List Nat)) (s : St) : Bool :=
  match Nat.beq specs.length l.length with
  | false => false
  | true => match edgesBack l.toArray with
    | false => false
    | true => match okBef l.toArray bef with
      | false => false
      | true => match ordOk specs bef with
        | false => false
        | true => freshOk specs bef s

theorem Tri.drawn {post : Exit → St → Prop} {id : Nat} {l : List Oper} {specs : List DOp} {bef : List (List Nat)} {s' : St} {tk sk : List Nat} (hm : E.P.follows .mixedOrders = true)
    (h : drawB l specs bef s = true)
    (hn : needsOk specs bef s 0 specs = needsOf specs) (he : EachOk E l.toArray l specs) (hk : keep tk sk (stD (fun _ => true) 0 specs s) = some s') (hp : post .normal s') : Tri E (.region id l.toArray true) s post := by
  refine Tri.draw (bef := bef) hm ?_ hk hp
  unfold drawB at h
  split at h
  case h_1 => cases h
  rename_i h1
  split at h
  case h_1 => cases h
  rename_i h2
  split at h
  case h_1 => cases h
  rename_i h3
  split at h
  case h_1 => cases h
  rename_i h4
  exact ⟨by simpa using h1, h2, h3, h4, h, hn, fun i o x ho hx => he.get i o x (by simpa using ho) hx⟩

theorem St.noRef_app {n r : St} {d : Nat} (hn : n.noRef d = true) (hr : r.noRef d = true) : (n.app r).noRef d = true := by
  have app : ∀ {α : Type} (f : α → Bool) (l r : List α), anyB f l = false → anyB f r = false → anyB f (l ++ r) = false := fun f l r hl hr => by
    induction l with
    | nil => exact hr
    | cons y l ih =>
      simp only [anyB] at hl
      cases hy : f y with
      | true => simp [hy] at hl
      | false => simp only [hy] at hl; simp only [List.cons_append, anyB, hy]; exact ih hl
  unfold St.noRef at hn hr ⊢
  cases h1 : anyB (fun e : Nat × AV => AV.refs d e.2) n.tm with
  | true => simp [h1] at hn
  | false =>
    cases g1 : anyB (fun e : Nat × AV => AV.refs d e.2) r.tm with
    | true => simp [g1] at hr
    | false =>
      simp only [h1] at hn
      simp only [g1] at hr
      cases h2 : anyB (slotRef d) n.sl with
      | true => simp [h2] at hn
      | false =>
        cases g2 : anyB (slotRef d) r.sl with
        | true => simp [g2] at hr
        | false => simp only [St.app, app _ _ _ h1 g1, app _ _ _ h2 g2]

def mksOk (mks : List Nat) (st : Step) (dst : Option Nat) : Bool :=
  match st with
  | .new _ _ => match dst with | some d => memB d mks | none => true
  | _ => true

theorem okDst_app {N : Nat} {n r : St} {dst : Option Nat} {st : Step} {mks : List Nat} (hr : ∀ d ∈ mks, r.noRef d = true) (hm : mksOk mks st dst = true)
    (hn : okDst N n dst st = true) : okDst N (n.app r) dst st = true := by
  cases dst with
  | none => rfl
  | some d =>
    simp only [okDst] at hn ⊢
    cases hb : Nat.blt d N with
    | false => rw [hb] at hn; cases hn
    | true =>
      rw [hb] at hn
      simp only at hn ⊢
      cases st with
      | new c x => exact St.noRef_app hn (hr d (memB_iff.1 hm))
      | _ => exact hn

theorem DOk.one {ops : Array Oper} {o : Oper} {x : DOp} (h : ∀ r : St, (∀ d ∈ x.mks, r.noRef d = true) → One E ops o (x.need.app r) (x.eff.app (x.need.app r))) : DOk E ops o x := fun r hr => One.toW (h _ hr)

theorem DOk.step {ops : Array Oper} {o : Oper} {x : DOp} (st : Step) (hw : ∀ r, wantedB ops (x.need.app r) o = some true) (he : ∀ r, evStep E.P (x.need.app r) o.dst o.op = some st) (hc : st.cond)
    (hok : okDst E.N x.need o.dst st = true) (hm : mksOk x.mks st o.dst = true)
    (heff : ∀ r, stepSt (x.need.app r) o.dst st = x.eff.app (x.need.app r)) : DOk E ops o x := DOk.one fun r hr => by
  rw [← heff r]
  exact One.step (hw r) (he r) hc (okDst_app hr hm hok)

theorem DOk.skip {ops : Array Oper} {o : Oper} {x : DOp} {d : Nat} (hw : ∀ r, wantedB ops (x.need.app r) o = some false) (hd : o.dst = some d) (hlt : Nat.blt d E.N = true)
    (heff : ∀ r, (x.need.app r).put d (.tup []) = x.eff.app (x.need.app r)) : DOk E ops o x := fun r hr => by
  rw [← heff]
  exact OneW.skip (hw _) hd hlt

theorem DOk.call {ops : Array Oper} {o : Oper} {x : DOp} {cl : Call} {f : FuncId} {caps : List D} {args : List AV} {res : AV} (hS : Summ E.P f args [] res [])
    (hop : o.op = .call cl) (hw : ∀ r, wantedB ops (x.need.app r) o = some true) (hd : dstOk E.N o.dst = true) (hc : ∀ r, calleeOf (x.need.app r) cl = some (f, caps)) (hx : ∀ r, argsOf (x.need.app r) cl caps = some args)
    (hfl : allFlat args = true) (hsol : res.solid = true) (heff : ∀ r, putO (x.need.app r) o.dst res = x.eff.app (x.need.app r)) : DOk E ops o x := DOk.one fun r _ => by
  rw [← heff r]
  exact One.call hop (hw r) hd (hc r) (hx r) (AVsArg.refl _ _) hfl hsol hS

theorem One.weaken {ops : Array Oper} {o : Oper} {s' s'' : St} (h : One E ops o s s') (hw : ∀ a w, SimE E s' a w → SimE E s'' a w) : One E ops o s s'' := fun a w hs => by
  obtain ⟨h1, h2⟩ := h a w hs
  exact ⟨h1, fun next Q hn => h2 next Q fun a' w' hs' => hn a' w' (hw a' w' hs')⟩

theorem cover {α : Type} {l l' r : List (Nat × α)} (h1 : (keysOf l).map (look l) = (keysOf l).map (look l')) (h2 : allB (fun k => hasKey k l) (keysOf l') = true) (t : Nat) : look (l ++ r) t = look (l' ++ r) t := by
  rw [look_append, look_append]
  cases hl : look l t with
  | some x =>
    have hm : t ∈ keysOf l := List.mem_map.2 ⟨(t, x), look_mem hl, rfl⟩
    have : look l t = look l' t := by
      have key : ∀ ks : List Nat, ks.map (look l) = ks.map (look l') → ∀ k ∈ ks, look l k = look l' k := by
        intro ks
        induction ks with
        | nil => intro _ k hk; cases hk
        | cons a ks ih =>
          intro h k hk
          simp only [List.map_cons, List.cons.injEq] at h
          rcases List.mem_cons.1 hk with rfl | hk
          · exact h.1
          · exact ih h.2 k hk
      exact key _ h1 t hm
    rw [← this, hl]
  | none =>
    cases hl' : look l' t with
    | none => rfl
    | some x =>
      have hm : t ∈ keysOf l' := List.mem_map.2 ⟨(t, x), look_mem hl', rfl⟩
      obtain ⟨v, hv⟩ := hasKey_iff.1 (allB_iff.1 h2 t hm)
      rw [hl] at hv; cases hv

end
end Go.Av
