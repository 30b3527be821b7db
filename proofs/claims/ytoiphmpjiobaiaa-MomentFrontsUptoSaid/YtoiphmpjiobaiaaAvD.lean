/-
  Av, part D: more operations that leave the world alone.
-/
import Derived.Test.YtoiphmpjiobaiaaAvC
namespace Go.Av
open Go
set_option linter.unusedVariables false
set_option linter.unusedSimpArgs false

def shiftC (n : Nat) : C → Option C
  | .ptr k o => some (.ptr k (o + n))
  | .vptr k es i o => some (.vptr k es i (o + n))
  | .eptr cells => some (.eptr (cells.drop n))
  | _ => none

def fieldOff (P : Program) (t : TypeId) (f : Nat) : Option (Nat × TypeId × Nat) :=
  match P.underlying t with
  | some (.struct fs) => match fs[f]? with
    | some fd => match sizeT P fd.type with
      | some n => some (fd.offset, fd.type, n)
      | none => none
    | none => none
  | _ => none

def evFieldAddr (P : Program) (t : TypeId) (f : Nat) : Option AV → Option (AV × Prop)
  | some (.c p) => match fieldOff P t f with
    | some (off, _, _ + 1) => match shiftC off p with
      | some p' => some (.c p', True)
      | none => none
    | _ => none
  | _ => none

def evField (P : Program) (t : TypeId) (f : Nat) : Option AV → Option (AV × Prop)
  | some (.agg cs) => match fieldOff P t f with
    | some (off, ft, n) => match aggT P ft with
      | some true => some (.agg ((cs.drop off).take n), True)
      | some false => match cs.drop off with
        | x :: _ => some (.c x, True)
        | [] => none
      | none => none
    | none => none
  | _ => none

def evIndexAddr (P : Program) (t : TypeId) : Option AV → Option AV → Option (AV × Prop)
  | some (.c p), some (.c (.d (.int _ i))) => match P.underlying t with
    | some (.array len e) => match sizeT P e with
      | some n => match decide (0 ≤ i ∧ i < (len : Int)) with
        | true => match shiftC (i.toNat * n) p with
          | some p' => some (.c p', True)
          | none => none
        | false => none
      | none => none
    | some (.slice e) => match sizeT P e with
      | some n => match p with
        | .d (.list es len get) => match Nat.beq es n with
          | true => some (.c (.eptr (get i.toNat)), 0 ≤ i ∧ i < (len : Int))
          | false => none
        | .view es len get => match Nat.beq es n with
          | true => some (.c (.eptr (get i.toNat)), 0 ≤ i ∧ i < (len : Int))
          | false => none
        | .own k es off len => match Nat.beq es n with
          | true => some (.c (.vptr k es (off + i.toNat) 0), 0 ≤ i ∧ i < (len : Int))
          | false => none
        | _ => none
      | none => none
    | _ => none
  | _, _ => none

def evIndex (P : Program) (t : TypeId) : Option AV → Option AV → Option (AV × Prop)
  | some (.c (.d (.str s))), some (.c (.d (.int _ i))) => match P.underlying t with
    | some .string => some (.c (.d (.int .u8 (bt s i))), 0 ≤ i ∧ i < (s.size : Int))
    | _ => none
  | some (.agg cs), some (.c (.d (.int _ i))) => match P.underlying t with
    | some (.array len e) => match decide (0 ≤ i ∧ i < (len : Int)) with
      | true => match sizeT P e, aggT P e with
        | some n, some true => some (.agg ((cs.drop (i.toNat * n)).take n), True)
        | some n, some false => match cs.drop (i.toNat * n) with
          | x :: _ => some (.c x, True)
          | [] => none
        | _, _ => none
      | false => none
    | _ => none
  | _, _ => none

def evBound (n : Int) : Option (Option AV) → Option Int
  | none => some n
  | some (some (.c (.d (.int _ i)))) => some i
  | _ => none

def evBounds (n : Nat) (lo hi mx : Option (Option AV)) : Option (Int × Int × Option Int) :=
  match evBound 0 lo with
  | some l => match mx with
    | none => match evBound n hi with
      | some h => some (l, h, none)
      | none => none
    | some (some (.c (.d (.int _ m)))) => match hi with
      | some (some (.c (.d (.int _ h)))) => some (l, h, some m)
      | _ => none
    | _ => none
  | none => none

def bndOk (n : Nat) (l h : Int) : Option Int → Prop
  | none => 0 ≤ l ∧ l ≤ h ∧ h ≤ (n : Int)
  | some m => 0 ≤ l ∧ l ≤ h ∧ h ≤ m ∧ m ≤ (n : Int)

def zeroB : Option Int → Bool
  | some m => decide (m = 0)
  | none => false

def evSlice (P : Program) (t : TypeId) (x : Option AV) (lo hi mx : Option (Option AV)) : Option (AV × Prop) :=
  match x with
  | some (.c (.d (.str s))) => match P.underlying t with
    | some .string => match evBounds s.size lo hi mx with
      | some (l, h, none) => some (.c (.d (.str (s.extract l.toNat h.toNat))), bndOk s.size l h none)
      | _ => none
    | _ => none
  | some (.c p) => match P.underlying t with
    | some (.array len e) => match sizeT P e, p with
      | some sz, .ptr k o => match evBounds len lo hi mx with
        | some (l, h, none) => some (.c (.bsl k (o + l.toNat * sz) sz (h.toNat - l.toNat)), bndOk len l h none ∧ l < (len : Int))
        | _ => none
      | _, _ => none
    | some (.slice e) => match sizeT P e with
      | some sz => match p with
        | .d (.list es n get) => match Nat.beq es sz with
          | true => match evBounds n lo hi mx with
            | some (l, h, m) => match zeroB m with
              | true => some (.c .zero, bndOk n l h m)
              | false => some (.c (.d (.list es (h.toNat - l.toNat) (fun i => get (l.toNat + i)))), bndOk n l h m)
            | none => none
          | false => none
        | .view es n get => match Nat.beq es sz with
          | true => match evBounds n lo hi mx with
            | some (l, h, m) => match zeroB m with
              | true => some (.c .zero, bndOk n l h m)
              | false => some (.c (.view es (h.toNat - l.toNat) (fun i => get (l.toNat + i))), bndOk n l h m)
            | none => none
          | false => none
        | .own k es off n => match Nat.beq es sz with
          | true => match evBounds n lo hi mx with
            | some (l, h, none) => some (.c (.own k es (off + l.toNat) (h.toNat - l.toNat)), bndOk n l h none)
            | _ => none
          | false => none
        | .zero => match evBounds 0 lo hi mx with
          | some (l, h, m) => some (.c .zero, bndOk 0 l h m)
          | none => none
        | _ => none
      | none => none
    | _ => none
  | _ => none

section
variable {E : Env} {s : St} {G : Nat → Prop} {φ : Nat → Option Loc} {a : Act} {w : World}

theorem rel_int {k : IntKind} {n : Int} {v : Value} (h : RAV E G φ w (.c (.d (.int k n))) v) : v = .int k n := by
  have h : RelD G w (.int k n) v := h.1
  cases h; rfl
theorem rel_bool {b : Bool} {v : Value} (h : RAV E G φ w (.c (.d (.bool b))) v) : v = .bool b := by
  have h : RelD G w (.bool b) v := h.1
  cases h; rfl
theorem rel_str {b : ByteArray} {v : Value} (h : RAV E G φ w (.c (.d (.str b))) v) : v = .string b := by
  have h : RelD G w (.str b) v := h.1
  cases h; rfl

theorem shiftC_rel {n : Nat} {p p' : C} {v : Value} (hp : RelC G E.V φ w p v) (h : shiftC n p = some p') :
    ∃ b off, v = .pointer (some ⟨b, off, none⟩) ∧ RelC G E.V φ w p' (.pointer (some ⟨b, off + n, none⟩)) := by
  cases p with
  | ptr k o =>
    obtain ⟨l, hl, rfl⟩ := hp
    cases h
    exact ⟨_, _, rfl, l, hl, by rw [Nat.add_assoc]⟩
  | vptr k es i o =>
    obtain ⟨l, hl, rfl⟩ := hp
    cases h
    exact ⟨_, _, rfl, l, hl, by rw [Nat.add_assoc]⟩
  | eptr cells =>
    obtain ⟨b, off, hb, rfl, hh⟩ := hp
    cases h
    refine ⟨b, off, rfl, b, off + n, hb, rfl, fun j hj => ?_⟩
    simp only [List.length_drop] at hj
    obtain ⟨u, hu, hr⟩ := hh (n + j) (by omega)
    exact ⟨u, by rw [← hu]; congr 2; omega, by simpa [D.at, List.getD_eq_getElem?_getD] using hr⟩
  | _ => cases h

theorem shiftC_any {n : Nat} {p p' : C} (h : shiftC n p = some p') : p ≠ .any := by rintro rfl; cases h

theorem sizeT_run {P : Program} {t : TypeId} {n : Nat} (h : sizeT P t = some n) (w : World) : (sizeOf t).run P w = .ok n w := by
  unfold sizeT at h
  cases hi : P.info? t with
  | none => simp [hi] at h
  | some i => simp [hi] at h; subst h; simp [sizeOf, typeInfo, hi]

theorem Sim.fieldAddr (h : Sim E s G φ a w) {t : TypeId} {f : Nat} {o : Operand} {x : AV} {c : Prop} (he : evFieldAddr E.P t f (evO s o) = some (x, c)) :
    ∃ v, (Instr.fieldAt t (a.eval o) f).run E.P w = .ok v w ∧ RAV E G φ w x v := by
  cases ho : evO s o with
  | none => simp [ho, evFieldAddr] at he
  | some p =>
    have hp := h.ev ho
    rw [ho] at he
    cases p with
    | agg _ => simp [evFieldAddr] at he
    | tup _ => simp [evFieldAddr] at he
    | c p =>
      simp only [evFieldAddr] at he
      split at he
      · rename_i off ft n hf
        split at he
        · rename_i p' hs
          cases he
          obtain ⟨b, o', hv, hr⟩ := shiftC_rel (relAV_ptr hp (shiftC_any hs)).1 hs
          refine ⟨_, ?_, relAV_c hr rfl⟩
          rw [hv]
          unfold fieldOff at hf
          split at hf
          · rename_i fs hu
            split at hf
            · rename_i fd hfd
              split at hf
              · rename_i n' hn
                cases hf
                simp [Instr.fieldAt, run_underlying hu, hfd, Instr.sureAddr, fieldPlace, sizeT_run hn, Addr.add_mid]
              · cases hf
            · cases hf
          · cases hf
        · cases he
      · cases he

theorem RelS.part {R : C → Value → Prop} {cs : List C} {vs : Array Value} (h : RelCs R cs vs.toList) (h1 : ∀ u ∈ vs.toList, u.oneCell' = true) (off n : Nat) :
    RelAV R (.agg ((cs.drop off).take n)) (.agg (vs.extract off (off + n))) := by
  refine ⟨_, rfl, ?_, fun u hu => ?_⟩
  · rw [Array.toList_extract, List.extract_eq_take_drop, Nat.add_sub_cancel_left]
    exact (h.drop off).take n
  · rw [Array.toList_extract, List.extract_eq_take_drop] at hu
    exact h1 u (List.mem_of_mem_drop (List.mem_of_mem_take hu))

theorem aggT_run {P : Program} {t : TypeId} {b : Bool} (h : aggT P t = some b) (w : World) : (isAgg t).run P w = .ok b w := by
  unfold aggT at h
  unfold isAgg
  split at h
  · rename_i hu; cases h; rw [Sem.run_bind, run_underlying hu w]; rfl
  · rename_i hu; cases h; rw [Sem.run_bind, run_underlying hu w]; rfl
  · rename_i d hn1 hn2 hu
    cases h
    rw [Sem.run_bind, run_underlying hu w]
    cases d <;> simp_all
  · cases h

theorem Sim.field (h : Sim E s G φ a w) {t : TypeId} {f : Nat} {o : Operand} {x : AV} {c : Prop} (he : evField E.P t f (evO s o) = some (x, c)) :
    ∃ v, (Instr.field t (a.eval o) f).run E.P w = .ok v w ∧ RAV E G φ w x v := by
  cases ho : evO s o with
  | none => simp [ho, evField] at he
  | some p =>
    have hp := h.ev ho
    rw [ho] at he
    cases p with
    | c _ => simp [evField] at he
    | tup _ => simp [evField] at he
    | agg cs =>
      obtain ⟨vs, hv, hcs, h1⟩ := hp
      simp only [evField] at he
      split at he
      · rename_i off ft n hf
        unfold fieldOff at hf
        split at hf
        · rename_i fs hu
          split at hf
          · rename_i fd hfd
            split at hf
            · rename_i n' hn
              cases hf
              split at he
              · rename_i hag
                cases he
                refine ⟨_, ?_, RelS.part hcs h1 fd.offset n⟩
                rw [hv]
                simp [Instr.field, run_underlying hu, hfd, asAgg, part, aggT_run hag, sizeT_run hn]
              · rename_i hag
                split at he
                · rename_i y r hy
                  cases he
                  have hd := hcs.drop fd.offset
                  rw [hy] at hd
                  cases hvd : vs.toList.drop fd.offset with
                  | nil => rw [hvd] at hd; exact hd.elim
                  | cons u us =>
                    rw [hvd] at hd
                    have hu' : vs[fd.offset]? = some u := by
                      have : (vs.toList.drop fd.offset)[0]? = some u := by rw [hvd]; rfl
                      rw [List.getElem?_drop] at this
                      simpa using this
                    refine ⟨u, ?_, relAV_c hd.1 (h1 u (by have : u ∈ vs.toList.drop fd.offset := by rw [hvd]; simp
                                                          exact List.mem_of_mem_drop this))⟩
                    rw [hv]
                    simp [Instr.field, run_underlying hu, hfd, asAgg, part, aggT_run hag, hu']
                · cases he
              · cases he
            · cases hf
          · cases hf
        · cases hf
      · cases he

theorem elems_eptr {b off es n : Nat} {get : Nat → List D} {V : Nat → Prop} (hb : G b ∨ V b) (he : ElemsAt G w b off es n get) {i : Nat} (hi : i < n) :
    RelC G V φ w (.eptr (get i)) (.pointer (some ⟨b, off + i * es, none⟩)) := ⟨b, _, hb, rfl, (he i hi).2⟩

theorem RelD.elems {es n : Nat} {get : Nat → List D} {v : Value} (h : RelD G w (.list es n get) v) :
    (n = 0 ∧ ∃ a cap, v = .slice a 0 cap) ∨ ∃ b off cap, G b ∧ v = .slice (some ⟨b, off, none⟩) n cap ∧ n ≤ cap ∧ n ≤ maxN ∧ ElemsAt G w b off es n get := by
  cases h with
  | empty _ _ a cap => exact .inl ⟨rfl, a, cap, rfl⟩
  | list _ _ _ b off cap vals hG hn hm hc hl hr =>
    exact .inr ⟨b, off, cap, hG, rfl, hn, hm, fun i hi => ⟨hl i hi, fun j hj => ⟨vals i j, hc i j hi (by rw [hl i hi] at hj; exact hj), hr i j hi (by rw [hl i hi] at hj; exact hj)⟩⟩⟩

theorem ElemsAt.relD {b off cap es n : Nat} {get : Nat → List D} (hb : G b) (hn : n ≤ cap) (hm : n ≤ maxN) (h : ElemsAt G w b off es n get) :
    RelD G w (.list es n get) (.slice (some ⟨b, off, none⟩) n cap) := by
  have hex : ∀ i j, i < n → j < es → ∃ u, w.cell? ⟨b, off + i * es + j, none⟩ = some u ∧ RelD G w (D.at (get i) j) u := fun i j hi hj =>
    (h i hi).2 j (by rw [(h i hi).1]; exact hj)
  refine .list es n get b off cap (fun i j => (w.cell? ⟨b, off + i * es + j, none⟩).getD undef) hb hn hm (fun i j hi hj => ?_) (fun i hi => (h i hi).1) (fun i j hi hj => ?_)
  · obtain ⟨u, hu, _⟩ := hex i j hi hj; rw [hu]; rfl
  · obtain ⟨u, hu, hr⟩ := hex i j hi hj; rw [hu]; exact hr

theorem Sim.indexAddr (h : Sim E s G φ a w) {t : TypeId} {o i : Operand} {x : AV} {c : Prop} (he : evIndexAddr E.P t (evO s o) (evO s i) = some (x, c)) (hc : c) :
    ∃ v, (Instr.indexAt t (a.eval o) (a.eval i)).run E.P w = .ok v w ∧ RAV E G φ w x v := by
  unfold evIndexAddr at he
  split at he
  · rename_i _ _ p k n ho hi
    have hp := h.ev ho
    have hn := h.ev hi
    have hi' : a.eval i = .int k n := rel_int hn
    rw [hi']
    split at he
    · rename_i len e hu
      split at he
      · rename_i sz hsz
        split at he
        · rename_i hin
          have hin := of_decide_eq_true hin
          split at he
          · rename_i p' hs
            cases he
            obtain ⟨b, o', hv, hr⟩ := shiftC_rel (relAV_ptr hp (shiftC_any hs)).1 hs
            refine ⟨_, ?_, relAV_c hr rfl⟩
            rw [hv]
            simp [Instr.indexAt, asIntOf, run_underlying hu, Instr.sureAddr, hin, sizeT_run hsz, Addr.add_mid]
          · cases he
        · cases he
      · cases he
    · rename_i e hu
      split at he
      · rename_i sz hsz
        have key : ∀ (b off cap len : Nat), 0 ≤ n ∧ n < (len : Int) → (Instr.indexAt t (.slice (some ⟨b, off, none⟩) len cap) (.int k n)).run E.P w = .ok (.pointer (some ⟨b, off + n.toNat * sz, none⟩)) w := fun b off cap len hin => by
          simp [Instr.indexAt, asIntOf, run_underlying hu, hin, sizeT_run hsz, Addr.add_mid]
        split at he
        · rename_i es len get
          split at he
          · rename_i hes
            have hes := Nat.eq_of_beq_eq_true hes
            subst hes
            cases he
            rcases RelD.elems hp.1 with ⟨h0, _⟩ | ⟨b, off, cap, hb, hv, _, _, hel⟩
            · omega
            · rw [hv]
              exact ⟨_, key b off cap len hc, relAV_c (elems_eptr (.inl hb) hel (by omega)) rfl⟩
          · cases he
        · rename_i es len get
          split at he
          · rename_i hes
            have hes := Nat.eq_of_beq_eq_true hes
            subst hes
            cases he
            rcases hp.1 with ⟨h0, _⟩ | ⟨b, off, cap, hb, hv, _, _, hel⟩
            · omega
            · rw [hv]
              exact ⟨_, key b off cap len hc, relAV_c (elems_eptr hb hel (by omega)) rfl⟩
          · cases he
        · rename_i k' es off len
          split at he
          · rename_i hes
            have hes := Nat.eq_of_beq_eq_true hes
            subst hes
            cases he
            rcases hp.1 with ⟨h0, _⟩ | ⟨l, hl, _, hv⟩
            · omega
            · rw [hv]
              refine ⟨_, key _ _ _ len hc, relAV_c ⟨l, hl, ?_⟩ rfl⟩
              rw [Nat.add_mul, Nat.add_zero, Nat.add_assoc]
          · cases he
        · cases he
      · cases he
    · cases he
  · cases he

theorem bt_get {sx : ByteArray} {i : Int} (h0 : 0 ≤ i) (h : i < (sx.size : Int)) : sx[i.toNat]? = some (sx.data.getD i.toNat 0) := by
  have hlt : i.toNat < sx.size := by omega
  have hd : i.toNat < sx.data.size := hlt
  rw [getElem?_pos sx i.toNat hlt]
  congr 1
  rw [Array.getD_eq_getD_getElem?, Array.getElem?_eq_getElem hd]
  rfl

theorem Sim.index (h : Sim E s G φ a w) {t : TypeId} {o i : Operand} {x : AV} {c : Prop} (he : evIndex E.P t (evO s o) (evO s i) = some (x, c)) (hc : c) :
    ∃ v, (Instr.index t (a.eval o) (a.eval i)).run E.P w = .ok v w ∧ RAV E G φ w x v := by
  unfold evIndex at he
  split at he
  · rename_i _ _ sx k n ho hi
    have hp := h.ev ho
    have hn := h.ev hi
    have hi' : a.eval i = .int k n := rel_int hn
    have ho' : a.eval o = .string sx := rel_str hp
    split at he
    · rename_i hu
      cases he
      refine ⟨.int .u8 (bt sx n), ?_, relAV_c (RelD.int _ _) rfl⟩
      rw [hi', ho']
      simp [Instr.index, asIntOf, run_underlying hu, hc.1, bt_get hc.1 hc.2, bt]
    · cases he
  · rename_i _ _ cs k n ho hi
    have hn := h.ev hi
    have hi' : a.eval i = .int k n := rel_int hn
    obtain ⟨vs, hv, hcs, h1⟩ := h.ev ho
    split at he
    · rename_i len e hu
      split at he
      · rename_i hdec
        have hb := of_decide_eq_true hdec
        split at he
        · rename_i m hm hag
          cases he
          refine ⟨_, ?_, RelS.part hcs h1 (n.toNat * m) m⟩
          rw [hv, hi']
          simp [Instr.index, asIntOf, run_underlying hu, hb.1, hb.2, part, aggT_run hag, sizeT_run hm]
        · rename_i m hm hag
          split at he
          · rename_i y r hy
            cases he
            have hd := hcs.drop (n.toNat * m)
            rw [hy] at hd
            cases hvd : vs.toList.drop (n.toNat * m) with
            | nil => rw [hvd] at hd; exact hd.elim
            | cons u us =>
              rw [hvd] at hd
              have hu' : vs[n.toNat * m]? = some u := by
                have : (vs.toList.drop (n.toNat * m))[0]? = some u := by rw [hvd]; rfl
                rw [List.getElem?_drop] at this
                simpa using this
              refine ⟨u, ?_, relAV_c hd.1 (h1 u (by have : u ∈ vs.toList.drop (n.toNat * m) := by rw [hvd]; simp
                                                    exact List.mem_of_mem_drop this))⟩
              rw [hv, hi']
              simp [Instr.index, asIntOf, run_underlying hu, hb.1, hb.2, part, aggT_run hag, sizeT_run hm, hu']
          · cases he
        · cases he
      · cases he
    · cases he
  · cases he

end
end Go.Av
