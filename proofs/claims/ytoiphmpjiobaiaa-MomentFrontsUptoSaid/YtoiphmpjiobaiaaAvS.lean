/-
  Av, part S: what an argument reads as.
-/
import Derived.Test.YtoiphmpjiobaiaaAvR
import Derived.ChangeOld
import Derived.ChangeArms
import Derived.Carry
import Derived.OpenShut
import Derived.WalkKit
import Derived.ProofKit
import Derived.SizedLaws
namespace Go.Av
open Go
set_option linter.unusedVariables false
set_option linter.unusedSimpArgs false

def RelDs (G : Nat → Prop) (w : World) : List D → List Value → Prop
  | [], [] => True
  | x :: xs, v :: vs => RelD G w x v ∧ RelDs G w xs vs
  | _, _ => False

theorem RelDs.length {G : Nat → Prop} {w : World} : ∀ {xs : List D} {vs : List Value}, RelDs G w xs vs → xs.length = vs.length
  | [], [], _ => rfl
  | _ :: _, _ :: _, h => by simp [RelDs.length h.2]
  | [], _ :: _, h => h.elim
  | _ :: _, [], h => h.elim

theorem RelDs.append {G : Nat → Prop} {w : World} : ∀ {xs : List D} {vs : List Value} {ys : List D} {us : List Value}, RelDs G w xs vs → RelDs G w ys us → RelDs G w (xs ++ ys) (vs ++ us)
  | [], [], _, _, _, h => h
  | _ :: _, _ :: _, _, _, h, h' => ⟨h.1, RelDs.append h.2 h'⟩
  | [], _ :: _, _, _, h, _ => h.elim
  | _ :: _, [], _, _, h, _ => h.elim

theorem RelDs.get {G : Nat → Prop} {w : World} : ∀ {xs : List D} {vs : List Value}, RelDs G w xs vs → ∀ j, j < xs.length → ∃ v, vs[j]? = some v ∧ RelD G w (D.at xs j) v
  | [], [], _, j, h => by simp at h
  | x :: xs, v :: vs, h, j, hj => by
    cases j with
    | zero => exact ⟨v, rfl, h.1⟩
    | succ j =>
      obtain ⟨u, h1, h2⟩ := RelDs.get h.2 j (by simpa using hj)
      exact ⟨u, by simpa using h1, by simpa [D.at] using h2⟩
  | [], _ :: _, h, _, _ => h.elim
  | _ :: _, [], h, _, _ => h.elim

theorem RelDs.cells {G V : Nat → Prop} {φ : Nat → Option Loc} {w : World} : ∀ {xs : List D} {vs : List Value}, RelDs G w xs vs → RelCs (RelC G V φ w) (xs.map .d) vs ∧ ∀ u ∈ vs, u.oneCell' = true
  | [], [], _ => ⟨trivial, fun _ h => by cases h⟩
  | x :: xs, v :: vs, h => ⟨⟨h.1, (RelDs.cells h.2).1⟩, fun u hu => by
    rcases List.mem_cons.1 hu with rfl | hu
    · exact h.1.one
    · exact (RelDs.cells (V := V) (φ := φ) h.2).2 u hu⟩
  | [], _ :: _, h => h.elim
  | _ :: _, [], h => h.elim

structure BulkOk {H : Type} (B : DataW H → Nat) : Prop where
  one : ∀ d, 1 ≤ B d
  str : ∀ s, B (.lit (.string s)) = s.length + 1
  slice : ∀ es rest, (es.map B).sum + 1 ≤ B (.slice es rest)
  agg : ∀ ps, (ps.map B).sum + 1 ≤ B (.agg ps)

structure Fine {H : Type} (P : Program) (Z : TypeId → DataW H → Prop) : Prop where
  str : ∀ t s, Z t (.lit (.string s)) → s.length ≤ maxN
  slice : ∀ t e es rest, P.underlying t = some (.slice e) → 0 < P.bytesOf e → Z t (.slice es rest) → es.length ≤ maxN ∧ ∀ x ∈ es, Z e x
  struct : ∀ t fs ps, P.underlying t = some (.struct fs) → Z t (.agg ps) → ∀ (i : Nat) f d, fs.toList[i]? = some f → ps[i]? = some d → Z f.type d
  array : ∀ t n e ps, P.underlying t = some (.array n e) → Z t (.agg ps) → ∀ d ∈ ps, Z e d

theorem sum_mem {X : Type} {f : X → Nat} : ∀ {l : List X} {x : X}, x ∈ l → f x ≤ (l.map f).sum
  | y :: l, x, h => by
    simp only [List.map_cons, List.sum_cons]
    rcases List.mem_cons.1 h with rfl | h
    · omega
    · have := sum_mem (f := f) h; omega

theorem length_le_sum {X : Type} {f : X → Nat} (h1 : ∀ x, 1 ≤ f x) : ∀ l : List X, l.length ≤ (l.map f).sum
  | [] => by simp
  | x :: l => by have := length_le_sum h1 l; have := h1 x; simp only [List.map_cons, List.sum_cons, List.length_cons]; omega

theorem Fine.bulk {H : Type} {P : Program} {B : DataW H → Nat} (hB : BulkOk B) : Fine P (fun _ d => B d ≤ maxN) where
  str := fun t s h => by rw [hB.str] at h; omega
  slice := fun t e es rest _ _ h => by
    have h1 := hB.slice es rest
    have h2 := length_le_sum hB.one es
    exact ⟨by omega, fun x hx => by have := sum_mem (f := B) hx; omega⟩
  struct := fun t fs ps _ h i f d _ hd => by
    have h1 := hB.agg ps
    have := sum_mem (f := B) (List.mem_of_getElem? hd)
    omega
  array := fun t n e ps _ h d hd => by
    have h1 := hB.agg ps
    have := sum_mem (f := B) hd
    omega

theorem weightsAll_mem {H : Type} {P : Program} {e : TypeId} : ∀ {l : List (DataW H)} {d : DataW H}, d ∈ l → ∀ n ∈ d.weights P e, n ∈ DataW.weightsAll P e l
  | x :: l, d, h, n, hn => by
    simp only [DataW.weightsAll, List.mem_append]
    rcases List.mem_cons.1 h with rfl | h
    · exact .inl hn
    · exact .inr (weightsAll_mem h n hn)

theorem reach_lt : reachBytes < maxN := by unfold maxN; have := reachBytes_lt; omega

theorem Fine.weights {H : Type} (P : Program) : Fine (H := H) P (fun t d => ∀ n ∈ d.weights P t, n ≤ reachBytes) where
  str := fun t s h => by have := h s.length (by simp [DataW.weights]); have := reach_lt; omega
  slice := fun t e es rest hu hb h => by
    simp only [DataW.weights, hu] at h
    refine ⟨?_, fun x hx n hn => h n (List.mem_cons_of_mem _ (List.mem_append_left _ (weightsAll_mem hx n hn)))⟩
    have h1 := h _ (List.mem_cons_self ..)
    have h2 : es.length + rest.length ≤ (es.length + rest.length) * P.bytesOf e := Nat.le_mul_of_pos_right _ hb
    have := reach_lt
    omega
  struct := fun t fs ps hu h i f d hf hd n hn => by
    simp only [DataW.weights, hu] at h
    exact h n (DataW.weights_mem_each (by rw [List.getElem?_map, hf]; rfl) hd n hn)
  array := fun t m e ps hu h d hd n hn => by
    simp only [DataW.weights, hu] at h
    exact h n (weightsAll_mem hd n hn)

def allG (W : World) : Nat → Prop := fun b => b < W.heap.size

section
variable {H : Type} {enc : TypeId × Value → H} {P : Program} {W : World} {Z : TypeId → DataW H → Prop} {B : DataW H → Nat}

def ReadsAt {X : Type} (enc : TypeId × Value → H) (P : Program) (W : World) (Z : TypeId → DataW H → Prop) (B : DataW H → Nat) (n : Nat) (t : TypeId) (e : X → List D) (ok : X → Prop) (bulk : X → Nat) : Prop :=
  ∀ cs d ps, DataW.trod enc P W 0 (fun _ => true) true n t cs = some (d, ps) → Z t d → ∃ x, ok x ∧ bulk x ≤ B d ∧ RelDs (allG W) W (e x) cs

def Reads {X : Type} (enc : TypeId × Value → H) (P : Program) (W : World) (Z : TypeId → DataW H → Prop) (B : DataW H → Nat) (t : TypeId) (e : X → List D) (ok : X → Prop) (bulk : X → Nat) : Prop :=
  ∀ n, ReadsAt enc P W Z B n t e ok bulk

def okInt (k : IntKind) (n : Int) : Prop := (Lit.int k n).wf = true

theorem ReadsAt.zero {X : Type} {t : TypeId} {e : X → List D} {ok : X → Prop} {bulk : X → Nat} : ReadsAt enc P W Z B 0 t e ok bulk := fun cs d ps h hN => by
  simp [DataW.trod] at h

theorem ReadsAt.bool {n : Nat} {t : TypeId} (hB : BulkOk B) (ht : P.underlying t = some .bool) : ReadsAt enc P W Z B n t (fun b : Bool => [.bool b]) (fun _ => True) (fun _ => 1) := fun cs d ps h hN => by
  cases n with
  | zero => simp [DataW.trod] at h
  | succ n =>
    unfold DataW.trod at h
    rw [ht] at h
    split at h <;> simp_all
    obtain ⟨rfl, rfl⟩ := h
    rename_i b
    cases b
    · exact ⟨hB.one _, .inl ⟨.bool _, trivial⟩⟩
    · exact ⟨hB.one _, .inr ⟨.bool _, trivial⟩⟩

theorem ReadsAt.int {n : Nat} {t : TypeId} {k : IntKind} (hB : BulkOk B) (ht : P.underlying t = some (.int k)) : ReadsAt enc P W Z B n t (fun i : Int => [.int k i]) (okInt k) (fun _ => 1) := fun cs d ps h hN => by
  cases n with
  | zero => simp [DataW.trod] at h
  | succ n =>
    unfold DataW.trod at h
    rw [ht] at h
    split at h <;> simp_all
    obtain ⟨⟨rfl, h2⟩, rfl, rfl⟩ := h
    exact ⟨_, h2, hB.one _, .int _ _, trivial⟩

theorem ReadsAt.string {n : Nat} {t : TypeId} (hZ : Fine P Z) (hB : BulkOk B) (ht : P.underlying t = some .string) : ReadsAt enc P W Z B n t (fun s : ByteArray => [.str s]) (fun s => s.size ≤ maxN) (fun s => s.size + 1) := fun cs d ps h hN => by
  cases n with
  | zero => simp [DataW.trod] at h
  | succ n =>
    unfold DataW.trod at h
    rw [ht] at h
    split at h <;> simp_all
    obtain ⟨h2, rfl, rfl⟩ := h
    refine ⟨_, hZ.str _ _ hN, ?_, .str _, trivial⟩
    rw [hB.str]
    exact Nat.le_refl _

theorem ReadsAt.map {X Y : Type} {n : Nat} {t : TypeId} {e : X → List D} {ok : X → Prop} {bulk : X → Nat} {e' : Y → List D} {ok' : Y → Prop} {bulk' : Y → Nat} (f : X → Y)
    (h : ReadsAt enc P W Z B n t e ok bulk) (he : ∀ x, ok x → e' (f x) = e x) (hok : ∀ x, ok x → ok' (f x)) (hb : ∀ x, ok x → bulk' (f x) ≤ bulk x) : ReadsAt enc P W Z B n t e' ok' bulk' := fun cs d ps hd hN => by
  obtain ⟨x, h1, h2, h3⟩ := h cs d ps hd hN
  exact ⟨f x, hok x h1, Nat.le_trans (hb x h1) h2, by rw [he x h1]; exact h3⟩

theorem choose_list {X : Type} [Inhabited X] {p : Nat → X → Prop} : ∀ n, (∀ i, i < n → ∃ x, p i x) → ∃ xs : List X, xs.length = n ∧ ∀ i, i < n → p i (xs.getD i default)
  | 0, _ => ⟨[], rfl, fun i hi => by omega⟩
  | n + 1, h => by
    obtain ⟨xs, h1, h2⟩ := choose_list n fun i hi => h i (by omega)
    obtain ⟨x, hx⟩ := h n (by omega)
    refine ⟨xs ++ [x], by simp [h1], fun i hi => ?_⟩
    rcases Nat.lt_or_ge i n with hlt | hge
    · have := h2 i hlt
      rwa [List.getD_eq_getElem?_getD, List.getElem?_append_left (by omega), ← List.getD_eq_getElem?_getD]
    · have e : i = n := by omega
      subst e
      rw [List.getD_eq_getElem?_getD, List.getElem?_append_right (by omega)]
      simpa [h1] using hx

theorem sum_le_of {X Y : Type} [Inhabited X] {f : X → Nat} {g : Y → Nat} : ∀ (xs : List X) (ys : List Y), xs.length = ys.length → (∀ (i : Nat) y, ys[i]? = some y → f (xs.getD i default) ≤ g y) → (xs.map f).sum ≤ (ys.map g).sum
  | [], [], _, _ => Nat.le_refl _
  | x :: xs, y :: ys, h, hf => by
    have h0 := hf 0 y rfl
    have := sum_le_of xs ys (by simpa using h) fun i z hz => by simpa using hf (i + 1) z (by simpa using hz)
    simp only [List.map_cons, List.sum_cons]
    simp at h0
    omega
  | [], _ :: _, h, _ => by simp at h
  | _ :: _, [], h, _ => by simp at h

def encL {X : Type} [Inhabited X] (es : Nat) (e : X → List D) (xs : List X) : D := .list es xs.length (fun i => e (xs.getD i default))

theorem cells?_get {w : World} {base : Nat} {a : Addr} {n : Nat} {cs : List Value} (h : w.cells? base a n = some cs) : cs.length = n ∧ ∀ j, j < n → w.cell? (a.add j) = cs[j]? := by
  unfold World.cells? at h
  split at h
  · have key : ∀ (l : List Nat) (cs : List Value), (l.mapM fun i => w.cell? (a.add i)) = some cs → cs.length = l.length ∧ ∀ (j x : Nat), l[j]? = some x → w.cell? (a.add x) = cs[j]? := by
      intro l
      induction l with
      | nil => intro cs h; simp at h; subst h; exact ⟨rfl, fun j x hx => by simp at hx⟩
      | cons y l ih =>
        intro cs h
        rw [List.mapM_cons] at h
        simp only [Option.bind_eq_bind, Option.bind_eq_some_iff, Option.pure_def, Option.some.injEq] at h
        obtain ⟨u, hu, us, hus, rfl⟩ := h
        obtain ⟨h1, h2⟩ := ih us hus
        refine ⟨by simp [h1], fun j x hx => ?_⟩
        cases j with
        | zero => simp at hx; subst hx; simpa using hu
        | succ j => simpa using h2 j x (by simpa using hx)
    obtain ⟨h1, h2⟩ := key _ _ h
    refine ⟨by simpa using h1, fun j hj => h2 j j ?_⟩
    simp [List.getElem?_range, hj]
  · cases h

theorem Addr.add_add (b o i j : Nat) : ((⟨b, o, none⟩ : Addr).add i).add j = ⟨b, o + i + j, none⟩ := by
  unfold Addr.add
  by_cases hi : i = 0 <;> by_cases hj : j = 0 <;> simp [hi, hj]

theorem ReadsAt.slice {X : Type} [Inhabited X] {n es : Nat} {t te : TypeId} {e : X → List D} {ok : X → Prop} {bulk : X → Nat} (hZ : Fine P Z) (hB : BulkOk B) (ht : P.underlying t = some (.slice te)) (hby : Nat.blt 0 (P.bytesOf te) = true) (hes : P.cellsOf te = es) (hpos : Nat.blt 0 es = true)
    (hlen : ∀ x, ok x → (e x).length = es) (h : ∀ m, m < n → ReadsAt enc P W Z B m te e ok bulk) :
    ReadsAt enc P W Z B n t (fun xs : List X => [encL es e xs]) (fun xs => xs.length ≤ maxN ∧ ∀ x ∈ xs, ok x) (fun xs => (xs.map bulk).sum + 1) := fun cs d ps hd hN => by
  have hpos := Nat.blt_eq.mp hpos
  rcases DataW.trod_slice ht hd with ⟨rfl, hx⟩ | ⟨a, len, cap, elems, rest, m, rfl, rfl, hx, hb, hl, hm, hlen', hel, _, _⟩
  · cases hx
    exact ⟨[], ⟨by simp, fun x hx => by cases hx⟩, by simpa using hB.one _, .empty _ _ _ _, trivial⟩
  · cases hx
    obtain ⟨hlenN, hall⟩ := hZ.slice _ _ _ _ ht (Nat.blt_eq.mp hby) hN
    rw [List.length_map] at hlenN
    have each : ∀ i, i < len → ∃ x, ok x ∧ (∃ y, elems[i]? = some y ∧ bulk x ≤ B y.1) ∧ ∃ us, us.length = es ∧ (∀ j, j < es → W.cell? ((a.add (i * es)).add j) = us[j]?) ∧ RelDs (allG W) W (e x) us := fun i hi => by
      have h1 := hel i hi
      rw [hes] at h1
      obtain ⟨y, hy⟩ : ∃ y, elems[i]? = some y := ⟨elems[i]'(by omega), List.getElem?_eq_getElem _⟩
      rw [hy] at h1
      obtain ⟨us, hus, htr⟩ := Option.bind_eq_some_iff.1 h1
      obtain ⟨x, x1, x2, x3⟩ := h m (by omega) us y.1 y.2 htr (hall _ (List.mem_map.2 ⟨y, List.mem_of_getElem? hy, rfl⟩))
      obtain ⟨c1, c2⟩ := cells?_get hus
      exact ⟨x, x1, ⟨y, hy, x2⟩, us, c1, c2, x3⟩
    obtain ⟨xs, hxs, hp⟩ := choose_list len each
    refine ⟨xs, ⟨by omega, fun x hx => ?_⟩, ?_, ?_, trivial⟩
    · obtain ⟨i, hi, rfl⟩ := List.getElem_of_mem hx
      have := (hp i (by omega)).1
      rwa [List.getD_eq_getElem?_getD, List.getElem?_eq_getElem hi] at this
    · refine Nat.le_trans ?_ (hB.slice _ _)
      rw [List.map_map]
      have := sum_le_of (f := bulk) (g := fun y : DataW H × List MemPlace => B y.1) xs elems (by omega) fun i y hy => by
        obtain ⟨y', hy', hle⟩ := (hp i (by have := (List.getElem?_eq_some_iff.1 hy).1; omega)).2.1
        rw [hy] at hy'; cases hy'; exact hle
      show (xs.map bulk).sum + 1 ≤ _
      exact Nat.add_le_add_right this 1
    · rcases Nat.eq_zero_or_pos len with h0 | hp0
      · subst h0
        rw [encL, hxs]
        exact .empty _ _ _ _
      · have hcell : ∀ i, i < len → ∀ j, j < es → ∃ v, W.cell? ((a.add (i * es)).add j) = some v ∧ RelD (allG W) W (D.at (e (xs.getD i default)) j) v := fun i hi j hj => by
          obtain ⟨x1, _, us, u1, u2, u3⟩ := hp i hi
          obtain ⟨v, v1, v2⟩ := u3.get j (by rw [hlen _ x1]; exact hj)
          exact ⟨v, by rw [u2 j hj]; exact v1, v2⟩
        obtain ⟨v0, hv0, _⟩ := hcell 0 hp0 0 hpos
        have hspot : a.spot = none := by
          cases hs : a.spot with
          | none => rfl
          | some q =>
            unfold World.cell? at hv0
            split at hv0
            · simp [Addr.add, hs] at hv0
            · cases hv0
        have hblk : a.block < W.heap.size := by
          have := World.block_lt_of_cell? W _ hv0
          unfold Addr.add at this
          by_cases h1 : (0 * es = 0) <;> simpa [h1] using this
        obtain ⟨ab, ao, asp⟩ := a
        simp at hspot
        subst hspot
        simp only [Addr.add_add] at hcell
        rw [encL, hxs]
        refine .list es len _ ab ao cap (fun i j => (W.cell? ⟨ab, ao + i * es + j, none⟩).getD undef) hblk hl ?_ (fun i j hi hj => ?_) (fun i hi => hlen _ (hp i hi).1) fun i j hi hj => ?_
        · omega
        · obtain ⟨v, hv, _⟩ := hcell i hi j hj
          rw [hv]; rfl
        · obtain ⟨v, hv, hr⟩ := hcell i hi j hj
          rw [hv]; exact hr

def ReadsF {X : Type} (enc : TypeId × Value → H) (P : Program) (W : World) (Z : TypeId → DataW H → Prop) (B : DataW H → Nat) (n : Nat) (fs : List Field) (off tot : Nat) (e : X → List D) (ok : X → Prop) (bulk : X → Nat) : Prop :=
  ∀ (cs : List Value) (xs : List (DataW H × List MemPlace)), cs.length = tot → (fs.mapM fun f => DataW.trod enc P W 0 (fun _ => true) true n f.type ((cs.drop f.offset).take (P.cellsOf f.type))) = some xs →
    (∀ (i : Nat) f y, fs[i]? = some f → xs[i]? = some y → Z f.type y.1) → ∃ x, ok x ∧ bulk x ≤ (xs.map fun y => B y.1).sum ∧ RelDs (allG W) W (e x) (cs.drop off)

theorem ReadsF.nil {n off : Nat} : ReadsF enc P W Z B n [] off off (fun _ : Unit => []) (fun _ => True) (fun _ => 0) := fun cs xs hc hx hN => by
  refine ⟨(), trivial, Nat.zero_le _, ?_⟩
  rw [List.drop_eq_nil_of_le (by omega)]
  trivial

theorem ReadsF.cons {X Y : Type} {n off tot k : Nat} {f : Field} {fs : List Field} {e : X → List D} {ok : X → Prop} {bulk : X → Nat} {e' : Y → List D} {ok' : Y → Prop} {bulk' : Y → Nat}
    (hf : ReadsAt enc P W Z B n f.type e ok bulk) (ho : f.offset = off) (hk : P.cellsOf f.type = k) (hr : ReadsF enc P W Z B n fs (off + k) tot e' ok' bulk') :
    ReadsF enc P W Z B n (f :: fs) off tot (fun p : X × Y => e p.1 ++ e' p.2) (fun p => ok p.1 ∧ ok' p.2) (fun p => bulk p.1 + bulk' p.2) := fun cs xs hc hx hN => by
  rw [List.mapM_cons] at hx
  simp only [Option.bind_eq_bind, Option.bind_eq_some_iff, Option.pure_def, Option.some.injEq] at hx
  obtain ⟨y, hy, ys, hys, rfl⟩ := hx
  simp only [List.map_cons, List.sum_cons]
  obtain ⟨x1, a1, a2, a3⟩ := hf _ y.1 y.2 hy (hN 0 f y rfl rfl)
  obtain ⟨x2, b1, b2, b3⟩ := hr cs ys hc hys fun i f' y' h1 h2 => hN (i + 1) f' y' (by simpa using h1) (by simpa using h2)
  refine ⟨(x1, x2), ⟨a1, b1⟩, by simp only; omega, ?_⟩
  rw [ho, hk] at a3
  have : cs.drop off = (cs.drop off).take k ++ cs.drop (off + k) := by rw [take_drop_step]
  rw [this]
  exact a3.append b3

theorem ReadsAt.struct {X : Type} {n tot : Nat} {t : TypeId} {fs : Array Field} {e : X → List D} {ok : X → Prop} {bulk : X → Nat} (hZ : Fine P Z) (hB : BulkOk B) (ht : P.underlying t = some (.struct fs)) (htot : P.cellsOf t = tot)
    (h : ∀ m, m < n → ReadsF enc P W Z B m fs.toList 0 tot e ok bulk) : ReadsAt enc P W Z B n t e ok (fun x => bulk x + 1) := fun cs d ps hd hN => by
  cases n with
  | zero => simp [DataW.trod] at hd
  | succ n =>
    unfold DataW.trod at hd
    rw [ht] at hd
    have key : (if cs.length = P.cellsOf t then (fs.toList.mapM fun f => DataW.trod enc P W 0 (fun _ => true) true n f.type ((cs.drop f.offset).take (P.cellsOf f.type))).map fun xs => (DataW.agg (xs.map (·.1)), xs.flatMap (·.2)) else none) = some (d, ps) := by
      split at hd <;> simp_all
    split at key
    · rename_i hl
      obtain ⟨xs, hxs, hx⟩ := Option.map_eq_some_iff.1 key
      cases hx
      have ha := hB.agg (xs.map (·.1))
      rw [List.map_map] at ha
      have hs : (xs.map (B ∘ fun x => x.1)).sum = (xs.map fun y => B y.1).sum := rfl
      obtain ⟨x, h1, h2, h3⟩ := h n (by omega) cs xs (hl.trans htot) hxs fun i f y hf hy => hZ.struct _ _ _ ht hN i f y.1 hf (by rw [List.getElem?_map, hy]; rfl)
      exact ⟨x, h1, by simp only; omega, h3⟩
    · cases key

def flatE {X : Type} (e : X → List D) : List X → List D
  | [] => []
  | x :: xs => e x ++ flatE e xs

theorem ReadsAt.array {X : Type} {n m k : Nat} {t te : TypeId} {e : X → List D} {ok : X → Prop} {bulk : X → Nat} (hZ : Fine P Z) (hB : BulkOk B) (ht : P.underlying t = some (.array m te)) (hk : P.cellsOf te = k) (hmk : P.cellsOf t = m * k)
    (h : ∀ m', m' < n → ReadsAt enc P W Z B m' te e ok bulk) :
    ReadsAt enc P W Z B n t (fun xs : List X => flatE e xs) (fun xs => xs.length = m ∧ ∀ x ∈ xs, ok x) (fun xs => (xs.map bulk).sum + 1) := fun cs d ps hd hN => by
  cases n with
  | zero => simp [DataW.trod] at hd
  | succ n =>
    unfold DataW.trod at hd
    rw [ht] at hd
    have key : (if cs.length = P.cellsOf t then ((List.range m).mapM fun i => DataW.trod enc P W 0 (fun _ => true) true n te ((cs.drop (i * P.cellsOf te)).take (P.cellsOf te))).map fun xs => (DataW.agg (xs.map (·.1)), xs.flatMap (·.2)) else none) = some (d, ps) := by
      split at hd <;> simp_all
    split at key
    · rename_i hl
      obtain ⟨xs, hxs, hx⟩ := Option.map_eq_some_iff.1 key
      cases hx
      have ha := hB.agg (xs.map (·.1))
      rw [List.map_map] at ha
      have hs : (xs.map (B ∘ fun x => x.1)).sum = (xs.map fun y => B y.1).sum := rfl
      rw [hk] at hxs
      rw [hmk] at hl
      have go : ∀ (c : Nat) (off : Nat) (xs : List (DataW H × List MemPlace)), off + c = m → ((List.range' off c).mapM fun i => DataW.trod enc P W 0 (fun _ => true) true n te ((cs.drop (i * k)).take k)) = some xs →
          (∀ y ∈ xs, Z te y.1) → ∃ zs : List X, zs.length = c ∧ (∀ x ∈ zs, ok x) ∧ (zs.map bulk).sum ≤ (xs.map fun y => B y.1).sum ∧ RelDs (allG W) W (flatE e zs) (cs.drop (off * k)) := by
        intro c
        induction c with
        | zero =>
          intro off xs ho hx _
          simp at hx
          refine ⟨[], rfl, fun x hx => (by cases hx), Nat.zero_le _, ?_⟩
          rw [List.drop_eq_nil_of_le (by have : off = m := by omega
                                         subst this; omega)]
          trivial
        | succ c ih =>
          intro off xs ho hx hN'
          rw [List.range'_succ, List.mapM_cons] at hx
          simp only [Option.bind_eq_bind, Option.bind_eq_some_iff, Option.pure_def, Option.some.injEq] at hx
          obtain ⟨y, hy, ys, hys, rfl⟩ := hx
          simp only [List.map_cons, List.sum_cons]
          obtain ⟨x1, a1, a2, a3⟩ := h n (by omega) _ y.1 y.2 hy (hN' y (List.mem_cons_self ..))
          obtain ⟨zs, b1, b2, b3, b4⟩ := ih (off + 1) ys (by omega) hys fun y' hy' => hN' y' (List.mem_cons_of_mem _ hy')
          refine ⟨x1 :: zs, by simp [b1], fun x hx => ?_, by simp only [List.map_cons, List.sum_cons]; omega, ?_⟩
          · rcases List.mem_cons.1 hx with rfl | hx
            · exact a1
            · exact b2 x hx
          · have : cs.drop (off * k) = (cs.drop (off * k)).take k ++ cs.drop ((off + 1) * k) := by rw [Nat.succ_mul, take_drop_step]
            rw [this]
            exact a3.append b4
      obtain ⟨zs, h1, h2, h3, h4⟩ := go m 0 xs (by omega) (by rw [← List.range_eq_range']; exact hxs) fun y hy => hZ.array _ _ _ _ ht hN y.1 (List.mem_map.2 ⟨y, hy, rfl⟩)
      exact ⟨zs, ⟨h1, h2⟩, by simp only; omega, by simpa using h4⟩
    · cases key

theorem ReadsAt.pair {X : Type} [Inhabited X] {n k : Nat} {t te : TypeId} {e : X → List D} {ok : X → Prop} {bulk : X → Nat} (hZ : Fine P Z) (hB : BulkOk B) (ht : P.underlying t = some (.array 2 te)) (hk : P.cellsOf te = k) (hmk : P.cellsOf t = 2 * k)
    (h : ∀ m', m' < n → ReadsAt enc P W Z B m' te e ok bulk) :
    ReadsAt enc P W Z B n t (fun p : X × X => e p.1 ++ (e p.2 ++ [])) (fun p => ok p.1 ∧ ok p.2) (fun p => bulk p.1 + bulk p.2 + 1) := by
  refine (ReadsAt.array hZ hB ht hk hmk h).map (fun xs => (xs.getD 0 default, xs.getD 1 default)) (fun xs hx => ?_) (fun xs hx => ?_) (fun xs hx => ?_)
  all_goals
    obtain ⟨hl, ha⟩ := hx
    obtain ⟨a, b, rfl⟩ : ∃ a b, xs = [a, b] := by
      match xs, hl with
      | [a, b], _ => exact ⟨a, b, rfl⟩
  · rfl
  · exact ⟨ha a (by simp), ha b (by simp)⟩
  · simp [List.sum_cons]

end
end Go.Av
