/-
  Av, part E: slice expressions, arithmetic, conversions, builtins.
-/
import Derived.Test.YtoiphmpjiobaiaaAvD
namespace Go.Av
open Go
set_option linter.unusedVariables false
set_option linter.unusedSimpArgs false

def cmpB : BinOp → Int → Int → Option Bool
  | .eql, x, y => some (decide (x = y))
  | .neq, x, y => some (!decide (x = y))
  | .lss, x, y => some (decide (x < y))
  | .leq, x, y => some (decide (x ≤ y))
  | .gtr, x, y => some (decide (y < x))
  | .geq, x, y => some (decide (y ≤ x))
  | _, _, _ => none

def dOf : Option AV → Option D
  | some (.c (.d x)) => some x
  | _ => none

def evBinD (P : Program) (op : BinOp) (t : TypeId) : D → D → Option (AV × Prop)
  | .int k x, .int k' y => match op with
    | .shl => some (.c (.d (.int k (shlOp k x y))), 0 ≤ y)
    | .shr => some (.c (.d (.int k (shrOp k x y))), 0 ≤ y)
    | _ => match decide (k = k') with
      | false => none
      | true => match op with
        | .add => some (.c (.d (.int k (k.wrap (x + y)))), True)
        | .sub => some (.c (.d (.int k (k.wrap (x - y)))), True)
        | .mul => some (.c (.d (.int k (k.wrap (x * y)))), True)
        | .quo => some (.c (.d (.int k (k.wrap (x.tdiv y)))), y ≠ 0)
        | .rem => some (.c (.d (.int k (x.tmod y))), y ≠ 0)
        | .and => some (.c (.d (.int k (bitsOp .and k x y))), True)
        | .or => some (.c (.d (.int k (bitsOp .or k x y))), True)
        | .xor => some (.c (.d (.int k (bitsOp .xor k x y))), True)
        | .andNot => some (.c (.d (.int k (bitsOp .andNot k x y))), True)
        | _ => match cmpB op x y with
          | some b => some (.c (.d (.bool b)), True)
          | none => none
  | .str x, .str y => match op with
    | .add => some (.c (.d (.str (x ++ y))), ((x.size + y.size : Nat) : Int) ≤ 9223372036854775807)
    | .eql => some (.c (.d (.bool (strEq x y))), True)
    | .neq => some (.c (.d (.bool (!strEq x y))), True)
    | .lss => some (.c (.d (.bool (strLt x y))), True)
    | .leq => some (.c (.d (.bool (strLt x y || strEq x y))), True)
    | .gtr => some (.c (.d (.bool (!(strLt x y || strEq x y)))), True)
    | .geq => some (.c (.d (.bool (!strLt x y))), True)
    | _ => none
  | .bool x, .bool y => match P.underlying t with
    | some .bool => match op with
      | .eql => some (.c (.d (.bool (x == y))), True)
      | .neq => some (.c (.d (.bool (!(x == y)))), True)
      | _ => none
    | _ => none
  | _, _ => none

def evBin (P : Program) (op : BinOp) (t : TypeId) (x y : Option AV) : Option (AV × Prop) :=
  match dOf x, dOf y with
  | some x, some y => evBinD P op t x y
  | _, _ => none

def evUn (op : UnOp) : Option AV → Option (AV × Prop)
  | some (.c (.d (.int k n))) => match op with
    | .neg => some (.c (.d (.int k (k.wrap (0 - n)))), True)
    | .xor => some (.c (.d (.int k (bitsOp .xor k (if k.signed then -1 else k.max) n))), True)
    | _ => none
  | some (.c (.d (.bool b))) => match op with
    | .not => some (.c (.d (.bool (!b))), True)
    | _ => none
  | _ => none

def evConvert (P : Program) (src dst : TypeId) : Option AV → Option (AV × Prop)
  | some (.c (.d (.int _ n))) => match P.underlying src, P.underlying dst with
    | some _, some (.int k) => some (.c (.d (.int k (k.wrap n))), True)
    | _, _ => none
  | some (.c (.d (.str x))) => match P.underlying src, P.underlying dst with
    | some .string, some .string => some (.c (.d (.str x)), True)
    | _, _ => none
  | _ => none

def lenC : AV → Option Nat
  | .c (.d (.str s)) => some s.size
  | .c (.d (.list _ n _)) => some n
  | .c (.view _ n _) => some n
  | .c (.own _ _ _ n) => some n
  | .c (.bsl _ _ _ n) => some n
  | .c .zero => some 0
  | _ => none

def evLen (P : Program) (t : TypeId) : Option AV → Option (AV × Prop)
  | some x => match P.underlying t with
    | some .string => match x with
      | .c (.d (.str s)) => some (.c (.d (.int .i64 (s.size : Int))), True)
      | _ => none
    | some (.slice _) => match x with
      | .c (.d (.str _)) => none
      | _ => match lenC x with
        | some n => some (.c (.d (.int .i64 (n : Int))), True)
        | none => none
    | some (.array n _) => some (.c (.d (.int .i64 (n : Int))), True)
    | _ => none
  | none => none

def evMax : Option AV → Option AV → Option (AV × Prop)
  | some (.c (.d (.int k x))), some (.c (.d (.int _ y))) => some (.c (.d (.int k (if x < y then y else x))), True)
  | _, _ => none
def evMin : Option AV → Option AV → Option (AV × Prop)
  | some (.c (.d (.int k x))), some (.c (.d (.int _ y))) => some (.c (.d (.int k (if y < x then y else x))), True)
  | _, _ => none

def evExtract (i : Nat) : Option AV → Option (AV × Prop)
  | some (.tup vs) => match vs[i]? with
    | some (true, cs) => some (.agg cs, True)
    | some (false, [x]) => some (.c x, True)
    | _ => none
  | _ => none

def evPick : Option AV → Option AV → Option AV → Option (AV × Prop)
  | some (.c (.d (.bool b))), some x, some y => match b with
    | true => some (x, True)
    | false => some (y, True)
  | _, _, _ => none

def capsOf : List (Option AV) → Option (List D)
  | [] => some []
  | some (.c (.d x)) :: r => match capsOf r with
    | some xs => some (x :: xs)
    | none => none
  | _ => none

def ccsOf : List (Option AV) → Option (List CC)
  | [] => some []
  | some (.c (.d x)) :: r => match ccsOf r with
    | some xs => some (.d x :: xs)
    | none => none
  | some (.c (.ptr k o)) :: r => match ccsOf r with
    | some xs => some (.ptr k o :: xs)
    | none => none
  | _ => none

section
variable {E : Env} {s : St} {G : Nat → Prop} {φ : Nat → Option Loc} {a : Act} {w : World}

theorem Sim.bound (h : Sim E s G φ a w) {d : Int} {o : Option Operand} {i : Int} (he : evBound d (o.map (evO s)) = some i) :
    (o = none ∧ i = d) ∨ ∃ x k, o = some x ∧ a.eval x = .int k i := by
  cases o with
  | none => cases he; exact .inl ⟨rfl, rfl⟩
  | some x =>
    simp only [Option.map_some] at he
    cases hx : evO s x with
    | none => simp [hx, evBound] at he
    | some v =>
      rw [hx] at he
      match v, he, hx with
      | .c (.d (.int k n)), he, hx => cases he; exact .inr ⟨x, k, rfl, rel_int (h.ev hx)⟩

theorem bound_run {P : Program} {k : IntKind} {i : Int} {y : Nat} {code : BoundsCode} (h0 : 0 ≤ i) (h1 : i ≤ (y : Int)) (w : World) :
    (Instr.sliceBound (.int k i) y code).run P w = .ok i.toNat w := by
  simp [Instr.sliceBound, asIntOf, h0, h1]

theorem Sim.bnds (h : Sim E s G φ a w) {lo hi mx : Option Operand} {l hh : Int} {mm : Option Int} {n cap : Nat} {isS : Bool}
    (he : evBounds n (lo.map (evO s)) (hi.map (evO s)) (mx.map (evO s)) = some (l, hh, mm)) (hc : bndOk n l hh mm) (hn : n ≤ cap) :
    ∃ M : Nat, (Instr.sliceBounds isS n cap (lo.map a.eval) (hi.map a.eval) (mx.map a.eval)).run E.P w = .ok (l.toNat, hh.toNat, M) w ∧
      l.toNat ≤ hh.toNat ∧ hh.toNat ≤ M ∧ hh.toNat ≤ n ∧ M ≤ cap ∧ (∀ m, mm = some m → M = m.toNat) ∧ (mm = none → mx = none ∧ M = cap) ∧ (∀ m, mm = some m → hh ≤ m ∧ 0 ≤ l) := by
  unfold evBounds at he
  split at he
  · rename_i l' hl
    split at he
    · rename_i hmx
      have hmx : mx = none := by cases mx <;> simp_all
      subst hmx
      split at he
      · rename_i h' hhi
        cases he
        have hc : 0 ≤ l ∧ l ≤ hh ∧ hh ≤ (n : Int) := hc
        have h1 : (hh.toNat : Int) = hh := by omega
        refine ⟨cap, ?_, by omega, by omega, by omega, Nat.le_refl _, by simp, fun _ => ⟨rfl, rfl⟩, by simp⟩
        unfold Instr.sliceBounds
        rcases h.bound hhi with ⟨rfl, rfl⟩ | ⟨x, k, rfl, hx⟩ <;> rcases h.bound hl with ⟨rfl, rfl⟩ | ⟨y, k', rfl, hy⟩
        · simp
        · simp [hy, bound_run hc.1 hc.2.1]
        · simp [hx, bound_run (by omega : 0 ≤ hh) (by omega : hh ≤ (cap : Int))]
        · simp [hx, hy, bound_run (by omega : 0 ≤ hh) (by omega : hh ≤ (cap : Int)), bound_run hc.1 (by omega : l ≤ (hh.toNat : Int))]
      · cases he
    · rename_i km m hmx
      split at he
      · rename_i kh h' hhi
        cases he
        have hc : 0 ≤ l ∧ l ≤ hh ∧ hh ≤ m ∧ m ≤ (n : Int) := hc
        have h1 : (hh.toNat : Int) = hh := by omega
        have h2 : (m.toNat : Int) = m := by omega
        cases mx with
        | none => simp at hmx
        | some mo =>
        cases hi with
        | none => simp at hhi
        | some ho =>
        simp only [Option.map_some, Option.some.injEq] at hmx hhi
        have em := rel_int (h.ev hmx)
        have eh := rel_int (h.ev hhi)
        refine ⟨m.toNat, ?_, by omega, by omega, by omega, by omega, by simp, by simp, by simp; omega⟩
        unfold Instr.sliceBounds
        rcases h.bound hl with ⟨rfl, rfl⟩ | ⟨y, k', rfl, hy⟩
        · simp [em, eh, bound_run (by omega : 0 ≤ m) (by omega : m ≤ (cap : Int)), bound_run (by omega : 0 ≤ hh) (by omega : hh ≤ (m.toNat : Int))]
        · simp [em, eh, hy, bound_run (by omega : 0 ≤ m) (by omega : m ≤ (cap : Int)), bound_run (by omega : 0 ≤ hh) (by omega : hh ≤ (m.toNat : Int)), bound_run hc.1 (by omega : l ≤ (hh.toNat : Int))]
      · cases he
    · cases he
  · cases he

theorem ElemsAt.part {b off es n : Nat} {get : Nat → List D} (h : ElemsAt G w b off es n get) {l m : Nat} (hlm : l + m ≤ n) : ElemsAt G w b (off + l * es) es m (fun i => get (l + i)) := fun i hi => by
  obtain ⟨h1, h2⟩ := h (l + i) (by omega)
  refine ⟨h1, ?_⟩
  have : off + l * es + i * es = off + (l + i) * es := by rw [Nat.add_mul]; omega
  rw [this]; exact h2

theorem view_part {b off es n : Nat} {get : Nat → List D} {V : Nat → Prop} (hb : G b ∨ V b) (hm : n ≤ maxN) (he : ElemsAt G w b off es n get) {l h m : Nat} (hlh : l ≤ h) (hhm : h ≤ m) (hhn : h ≤ n) :
    RelC G V φ w (.view es (h - l) (fun i => get (l + i))) (.slice (if m = l then some ⟨b, off, none⟩ else (some (⟨b, off, none⟩ : Addr)).map (·.add (l * es))) (h - l) (m - l)) := by
  by_cases e : m = l
  · left
    have : h - l = 0 := by omega
    exact ⟨this, _, _, by rw [if_pos e, this]⟩
  · right
    rw [if_neg e]
    exact ⟨b, off + l * es, m - l, hb, by simp [Addr.add_mid], by omega, by omega, he.part (by omega)⟩

theorem relD_of_view {es n : Nat} {get : Nat → List D} {v : Value} (h : RelC G (fun _ => False) φ w (.view es n get) v) : RelD G w (.list es n get) v := by
  rcases h with ⟨h0, a, cap, rfl⟩ | ⟨b, off, cap, hb, rfl, hn, hm, he⟩
  · subst h0; exact .empty es get a cap
  · exact he.relD (hb.resolve_right id) hn hm

theorem zero_of {A : Option Addr} {L H M : Nat} (h1 : L ≤ H) (h2 : H ≤ M) (hM : M = 0) : ∃ a, (Value.slice (if M = L then A else A.map (·.add (L * 0))) (H - L) (M - L)) = .slice a 0 0 := by
  have : L = 0 := by omega
  have : H = 0 := by omega
  subst hM; subst_vars
  exact ⟨_, rfl⟩

theorem slice_run {P : Program} {t e : TypeId} {es : Nat} (hu : P.underlying t = some (.slice e)) (hsz : sizeT P e = some es) (A : Option Addr) (n cap L H M : Nat) (lo hi mx : Option Value)
    (hb : (Instr.sliceBounds true n cap lo hi mx).run P w = .ok (L, H, M) w) :
    (Instr.sliceAt t (.slice A n cap) lo hi mx).run P w = .ok (.slice (if M = L then A else A.map (·.add (L * es))) (H - L) (M - L)) w := by
  simp [Instr.sliceAt, run_underlying hu, Instr.slice, hb, sizeT_run hsz]

theorem Sim.slice (h : Sim E s G φ a w) {t : TypeId} {o : Operand} {lo hi mx : Option Operand} {x : AV} {c : Prop}
    (he : evSlice E.P t (evO s o) (lo.map (evO s)) (hi.map (evO s)) (mx.map (evO s)) = some (x, c)) (hc : c) :
    ∃ v, (Instr.sliceAt t (a.eval o) (lo.map a.eval) (hi.map a.eval) (mx.map a.eval)).run E.P w = .ok v w ∧ RAV E G φ w x v := by
  unfold evSlice at he
  split at he
  · -- a text
    rename_i sx ho
    have ho' : a.eval o = .string sx := rel_str (h.ev ho)
    split at he
    · rename_i hu
      split at he
      · rename_i l hh hb
        cases he
        obtain ⟨M, hr, _, _, _, _, _, hmx, _⟩ := h.bnds (isS := false) hb hc (Nat.le_refl _)
        obtain ⟨hmx, _⟩ := hmx rfl
        subst hmx
        refine ⟨.string (sx.extract l.toNat hh.toNat), ?_, relAV_c (RelD.str _) rfl⟩
        rw [ho']
        simp only [Option.map_none] at hr ⊢
        simp [Instr.sliceAt, run_underlying hu, Instr.slice, hr]
      · cases he
    · cases he
  · rename_i p hnot ho
    have hp := h.ev ho
    split at he
    · rename_i len e hu
      split at he
      · rename_i sz k o hsz
        split at he
        · rename_i l hh hb
          cases he
          obtain ⟨M, hr, x1, x2, x3, x4, x5, hmx, x6⟩ := h.bnds (cap := len) (isS := false) hb hc.1 (Nat.le_refl _)
          obtain ⟨hmx, hM⟩ := hmx rfl
          obtain ⟨lc, hl, hv⟩ := hp.1
          rw [hv]
          have hc1 : 0 ≤ l ∧ l ≤ hh ∧ hh ≤ (len : Int) := hc.1
          have hne : ¬ M = l.toNat := by have := hc.2; omega
          refine ⟨.slice (some ⟨lc.blk, lc.off + o + l.toNat * sz, none⟩) (hh.toNat - l.toNat) (M - l.toNat), ?_, relAV_c ⟨lc, M - l.toNat, hl, by omega, by rw [Nat.add_assoc]⟩ rfl⟩
          simp [Instr.sliceAt, run_underlying hu, Instr.sureAddr, hr, sizeT_run hsz, hne, Addr.add_mid]
        · cases he
      · cases he
    · rename_i e hu
      split at he
      · rename_i sz hsz
        split at he
        · -- data
          rename_i es n get
          split at he
          · rename_i hes
            have hes := Nat.eq_of_beq_eq_true hes
            subst hes
            split at he
            · rename_i l hh m hb
              have hc' : bndOk n l hh m := by split at he <;> cases he <;> exact hc
              rcases RelD.elems hp.1 with ⟨h0, A, cap, hv⟩ | ⟨b, off, cap, hb', hv, hn, hm, hel⟩
              · subst h0
                obtain ⟨M, hr, x1, x2, x3, x4, x5, _, x6⟩ := h.bnds (cap := cap) (isS := true) hb hc' (Nat.zero_le _)
                rw [hv]
                refine ⟨_, slice_run hu hsz A 0 cap _ _ M _ _ _ hr, ?_⟩
                have e1 : l.toNat = 0 := by omega
                have e2 : hh.toNat = 0 := by omega
                rw [e1, e2]
                split at he
                · rename_i hz
                  cases he
                  cases m with
                  | none => cases hz
                  | some m =>
                    have hz : m = 0 := of_decide_eq_true hz
                    have := x5 m rfl
                    subst hz
                    subst this
                    exact relAV_c ⟨_, rfl⟩ rfl
                · cases he
                  rw [e1, e2]
                  exact relAV_c (RelD.empty _ _ _ _) rfl
              · obtain ⟨M, hr, x1, x2, x3, x4, x5, _, x6⟩ := h.bnds (isS := true) hb hc' hn
                rw [hv]
                refine ⟨_, slice_run hu hsz _ n cap _ _ M _ _ _ hr, ?_⟩
                split at he
                · rename_i hz
                  cases he
                  cases m with
                  | none => cases hz
                  | some m =>
                    have hz : m = 0 := of_decide_eq_true hz
                    have hM := x5 m rfl
                    subst hz
                    have e1 : l.toNat = 0 := by omega
                    have e2 : hh.toNat = 0 := by omega
                    have e3 : M = 0 := by omega
                    rw [e1, e2, e3]
                    exact relAV_c ⟨_, rfl⟩ rfl
                · cases he
                  exact relAV_c (relD_of_view (φ := φ) (view_part (.inl hb') hm hel x1 x2 x3)) rfl
            · cases he
          · cases he
        · -- a view
          rename_i es n get
          split at he
          · rename_i hes
            have hes := Nat.eq_of_beq_eq_true hes
            subst hes
            split at he
            · rename_i l hh m hb
              have hc' : bndOk n l hh m := by split at he <;> cases he <;> exact hc
              rcases hp.1 with ⟨h0, A, cap, hv⟩ | ⟨b, off, cap, hb', hv, hn, hm, hel⟩
              · subst h0
                obtain ⟨M, hr, x1, x2, x3, x4, x5, _, x6⟩ := h.bnds (cap := cap) (isS := true) hb hc' (Nat.zero_le _)
                rw [hv]
                refine ⟨_, slice_run hu hsz A 0 cap _ _ M _ _ _ hr, ?_⟩
                have e1 : l.toNat = 0 := by omega
                have e2 : hh.toNat = 0 := by omega
                rw [e1, e2]
                split at he
                · rename_i hz
                  cases he
                  cases m with
                  | none => cases hz
                  | some m =>
                    have hz : m = 0 := of_decide_eq_true hz
                    have := x5 m rfl
                    subst hz
                    subst this
                    exact relAV_c ⟨_, rfl⟩ rfl
                · cases he
                  rw [e1, e2]
                  exact relAV_c (.inl ⟨rfl, _, _, rfl⟩) rfl
              · obtain ⟨M, hr, x1, x2, x3, x4, x5, _, x6⟩ := h.bnds (isS := true) hb hc' hn
                rw [hv]
                refine ⟨_, slice_run hu hsz _ n cap _ _ M _ _ _ hr, ?_⟩
                split at he
                · rename_i hz
                  cases he
                  cases m with
                  | none => cases hz
                  | some m =>
                    have hz : m = 0 := of_decide_eq_true hz
                    have hM := x5 m rfl
                    subst hz
                    have e1 : l.toNat = 0 := by omega
                    have e2 : hh.toNat = 0 := by omega
                    have e3 : M = 0 := by omega
                    rw [e1, e2, e3]
                    exact relAV_c ⟨_, rfl⟩ rfl
                · cases he
                  exact relAV_c (view_part hb' hm hel x1 x2 x3) rfl
            · cases he
          · cases he
        · -- one's own
          rename_i k es off n
          split at he
          · rename_i hes
            have hes := Nat.eq_of_beq_eq_true hes
            subst hes
            split at he
            · rename_i l hh hb
              cases he
              rcases hp.1 with ⟨h0, A, hv⟩ | ⟨lc, hl, hle, hv⟩
              · subst h0
                obtain ⟨M, hr, x1, x2, x3, x4, x5, _, x6⟩ := h.bnds (cap := 0) (isS := true) hb hc (Nat.le_refl _)
                rw [hv]
                refine ⟨_, slice_run hu hsz A 0 0 _ _ M _ _ _ hr, relAV_c ?_ rfl⟩
                have e1 : l.toNat = 0 := by omega
                have e2 : hh.toNat = 0 := by omega
                have e3 : M = 0 := by omega
                rw [e1, e2, e3]
                exact .inl ⟨rfl, _, rfl⟩
              · obtain ⟨M, hr, x1, x2, x3, x4, x5, hmx, x6⟩ := h.bnds (cap := lc.cap - off) (isS := true) hb hc (by omega)
                obtain ⟨hmx, hM⟩ := hmx rfl
                rw [hv]
                refine ⟨_, slice_run hu hsz _ n (lc.cap - off) _ _ M _ _ _ hr, relAV_c ?_ rfl⟩
                by_cases e : M = l.toNat
                · have e1 : hh.toNat - l.toNat = 0 := by omega
                  have e2 : M - l.toNat = 0 := by omega
                  rw [e1, e2]
                  exact .inl ⟨rfl, _, rfl⟩
                · refine .inr ⟨lc, hl, by omega, ?_⟩
                  rw [if_neg e, hM]
                  have e1 : lc.off + off * es + l.toNat * es = lc.off + (off + l.toNat) * es := by rw [Nat.add_mul]; omega
                  have e2 : lc.cap - off - l.toNat = lc.cap - (off + l.toNat) := by omega
                  simp [Addr.add_mid, e1, e2]
            · cases he
          · cases he
        · -- of nothing
          split at he
          · rename_i l hh m hb
            cases he
            obtain ⟨A, hv⟩ := hp.1
            obtain ⟨M, hr, x1, x2, x3, x4, x5, _, x6⟩ := h.bnds (cap := 0) (isS := true) hb hc (Nat.le_refl _)
            rw [hv]
            refine ⟨_, slice_run hu hsz A 0 0 _ _ M _ _ _ hr, relAV_c ?_ rfl⟩
            have e1 : l.toNat = 0 := by omega
            have e2 : hh.toNat = 0 := by omega
            have e3 : M = 0 := by omega
            rw [e1, e2, e3]
            exact ⟨_, rfl⟩
          · cases he
        · cases he
      · cases he
    · cases he
  · cases he

end
end Go.Av
