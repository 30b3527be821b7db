/-
  Av, part F: arithmetic and the like are what the model does.
-/
import Derived.Test.YtoiphmpjiobaiaaAvE
namespace Go.Av
open Go
set_option linter.unusedVariables false
set_option linter.unusedSimpArgs false

section
variable {E : Env} {s : St} {G : Nat → Prop} {φ : Nat → Option Loc} {a : Act} {w : World}

theorem strEq_def (x y : ByteArray) : (x.toList == y.toList) = strEq x y := rfl

theorem equal_bool {P : Program} {t : TypeId} (hu : P.underlying t = some .bool) (m n : Bool) (w : World) : (Op.equal t (.bool m) (.bool n)).run P w = .ok (m == n) w := by
  show (Op.equalIn (9999 + 1) t (.bool m) (.bool n)).run P w = _
  rw [Op.equalIn, Sem.run_bind, run_underlying hu]
  rfl

theorem dOf_spec {x : Option AV} {d : D} (h : dOf x = some d) : x = some (.c (.d d)) := by
  unfold dOf at h
  split at h
  · cases h; rfl
  · cases h

theorem Sim.bin (h : Sim E s G φ a w) {op : BinOp} {t : TypeId} {o i : Operand} {x : AV} {c : Prop} (he : evBin E.P op t (evO s o) (evO s i) = some (x, c)) (hc : c) :
    ∃ v, (do eqGuard op t o i (a.eval o) (a.eval i); binOp op t (a.eval o) (a.eval i) : Sem Value).run E.P w = .ok v w ∧ RAV E G φ w x v := by
  unfold evBin at he
  split at he
  case h_2 => cases he
  rename_i dx dy hdx hdy
  have ho := dOf_spec hdx
  have hi := dOf_spec hdy
  clear hdx hdy
  unfold evBinD at he
  split at he
  · rename_i k m k' n
    rw [rel_int (h.ev ho), rel_int (h.ev hi)]
    have hg : (eqGuard op t o i (.int k m) (.int k' n)).run E.P w = .ok () w := by
      unfold eqGuard
      cases op <;> rfl
    rw [Sem.run_bind, hg]
    simp only [Result.andThen_ok]
    split at he
    · cases he
      have hc : ¬ n < 0 := by omega
      exact ⟨_, by simp [binOp, Op.shift, hc, shlOp], relAV_c (RelD.int _ _) rfl⟩
    · cases he
      have hc : ¬ n < 0 := by omega
      exact ⟨_, by simp [binOp, Op.shift, hc, shrOp], relAV_c (RelD.int _ _) rfl⟩
    · rename_i hshl hshr
      split at he
      · cases he
      · rename_i hk
        have hk := of_decide_eq_true hk
        subst hk
        split at he
        all_goals first
          | (cases he; refine ⟨_, ?_, relAV_c (RelD.int _ _) rfl⟩; simp [binOp, Op.intArith]; done)
          | (cases he; refine ⟨_, ?_, relAV_c (RelD.int _ _) rfl⟩; simp [binOp, Op.intDiv, hc]; done)
          | (cases he; refine ⟨_, ?_, relAV_c (RelD.int _ _) rfl⟩; simp [binOp, Op.intBits, bitsOp]; done)
          | skip
        rename_i n1 n2 n3 n4 n5 n6 n7 n8 n9
        split at he
        · rename_i b hb
          cases he
          refine ⟨.bool b, ?_, relAV_c (RelD.bool _) rfl⟩
          cases op <;> first
            | (exact (hshl rfl).elim) | (exact (hshr rfl).elim) | (exact (n1 rfl).elim) | (exact (n2 rfl).elim) | (exact (n3 rfl).elim) | (exact (n4 rfl).elim) | (exact (n5 rfl).elim)
            | (exact (n6 rfl).elim) | (exact (n7 rfl).elim) | (exact (n8 rfl).elim) | (exact (n9 rfl).elim)
            | (cases hb; simp [binOp, Op.intCmp]; done)
            | (cases hb; simp [binOp, Op.intCmp]; rfl)
        · cases he
  · rename_i m n
    rw [rel_str (h.ev ho), rel_str (h.ev hi)]
    have hg : (eqGuard op t o i (.string m) (.string n)).run E.P w = .ok () w := by
      unfold eqGuard
      cases op <;> rfl
    rw [Sem.run_bind, hg]
    simp only [Result.andThen_ok]
    split at he
    · cases he
      refine ⟨_, ?_, relAV_c (RelD.str _) rfl⟩
      have hn : ¬ ((m.size + n.size : Nat) : Int) > IntKind.i64.max := by
        have : IntKind.i64.max = 9223372036854775807 := by decide
        rw [this]; omega
      simp only [binOp, Op.stringOp]
      rw [if_neg hn]; rfl
    all_goals first
      | (cases he; refine ⟨_, ?_, relAV_c (RelD.bool _) rfl⟩; simp [binOp, Op.stringOp, strEq, strLt]; done)
      | (cases he; done)
  · rename_i m n
    rw [rel_bool (h.ev ho), rel_bool (h.ev hi)]
    have hg : (eqGuard op t o i (.bool m) (.bool n)).run E.P w = .ok () w := by
      unfold eqGuard
      cases op <;> rfl
    rw [Sem.run_bind, hg]
    simp only [Result.andThen_ok]
    split at he
    · rename_i hu
      split at he
      · cases he
        exact ⟨_, by simp [binOp, equal_bool hu], relAV_c (RelD.bool _) rfl⟩
      · cases he
        exact ⟨_, by simp [binOp, equal_bool hu], relAV_c (RelD.bool _) rfl⟩
      · cases he
    · cases he
  · cases he

theorem Sim.un (h : Sim E s G φ a w) {op : UnOp} {o : Operand} {x : AV} {c : Prop} (he : evUn op (evO s o) = some (x, c)) :
    ∃ v, (Op.unary op (a.eval o)).run E.P w = .ok v w ∧ RAV E G φ w x v := by
  unfold evUn at he
  split at he
  · rename_i k n ho
    rw [rel_int (h.ev ho)]
    split at he
    · cases he
      exact ⟨_, by simp [Op.unary, Op.intArith], relAV_c (RelD.int _ _) rfl⟩
    · cases he
      exact ⟨_, by simp [Op.unary, Op.intBits, bitsOp], relAV_c (RelD.int _ _) rfl⟩
    · cases he
  · rename_i b ho
    rw [rel_bool (h.ev ho)]
    split at he
    · cases he
      exact ⟨_, by simp [Op.unary], relAV_c (RelD.bool _) rfl⟩
    · cases he
  · cases he

theorem Sim.convert (h : Sim E s G φ a w) {src dst : TypeId} {o : Operand} {x : AV} {c : Prop} (he : evConvert E.P src dst (evO s o) = some (x, c)) :
    ∃ v, (Go.convert src dst (a.eval o)).run E.P w = .ok v w ∧ RAV E G φ w x v := by
  unfold evConvert at he
  split at he
  · rename_i k n ho
    rw [rel_int (h.ev ho)]
    split at he
    · rename_i hs hd
      cases he
      exact ⟨_, by simp [Go.convert, run_underlying hs, run_underlying hd, Conv.intToInt], relAV_c (RelD.int _ _) rfl⟩
    · cases he
  · rename_i sx ho
    rw [rel_str (h.ev ho)]
    split at he
    · rename_i hs hd
      cases he
      exact ⟨_, by simp [Go.convert, run_underlying hs, run_underlying hd], relAV_c (RelD.str _) rfl⟩
    · cases he
  · cases he

theorem lenC_rel {x : AV} {v : Value} {n : Nat} (h : RAV E G φ w x v) (hn : lenC x = some n) (hs : ∀ sx, x ≠ .c (.d (.str sx))) : ∃ A cap, v = .slice A n cap := by
  unfold lenC at hn
  split at hn
  · rename_i sx; exact (hs sx rfl).elim
  · cases hn
    rcases RelD.elems h.1 with ⟨h0, A, cap, hv⟩ | ⟨b, off, cap, _, hv, _⟩
    · exact ⟨A, cap, by rw [hv, h0]⟩
    · exact ⟨_, _, hv⟩
  · cases hn
    rcases h.1 with ⟨h0, A, cap, hv⟩ | ⟨b, off, cap, _, hv, _⟩
    · exact ⟨A, cap, by rw [hv, h0]⟩
    · exact ⟨_, _, hv⟩
  · cases hn
    rcases h.1 with ⟨h0, A, hv⟩ | ⟨l, _, _, hv⟩
    · exact ⟨A, 0, by rw [hv, h0]⟩
    · exact ⟨_, _, hv⟩
  · cases hn
    obtain ⟨l, cap, _, _, hv⟩ := h.1
    exact ⟨_, _, hv⟩
  · cases hn
    obtain ⟨A, hv⟩ := h.1
    exact ⟨A, 0, hv⟩
  · cases hn

theorem Sim.len (h : Sim E s G φ a w) {t ty : TypeId} {o : Operand} {x : AV} {c : Prop} (he : evLen E.P t (evO s o) = some (x, c)) :
    ∃ v, (Builtin.len_ #[t] ty #[a.eval o]).run E.P w = .ok v w ∧ RAV E G φ w x v := by
  unfold evLen at he
  split at he
  · rename_i y ho
    have hy := h.ev ho
    split at he
    · rename_i hu
      split at he
      · rename_i sx
        cases he
        rw [rel_str hy]
        exact ⟨_, by simp [Builtin.len_, run_underlying hu, goInt], relAV_c (RelD.int _ _) rfl⟩
      · cases he
    · rename_i e hu
      split at he
      · cases he
      · rename_i hns
        split at he
        · rename_i n hn
          cases he
          obtain ⟨A, cap, hv⟩ := lenC_rel hy hn hns
          rw [hv]
          exact ⟨_, by simp [Builtin.len_, run_underlying hu, goInt], relAV_c (RelD.int _ _) rfl⟩
        · cases he
    · rename_i n e hu
      cases he
      exact ⟨_, by simp [Builtin.len_, run_underlying hu, goInt], relAV_c (RelD.int _ _) rfl⟩
    · cases he
  · cases he

theorem Sim.max (h : Sim E s G φ a w) {ts : Array TypeId} {ty : TypeId} {o i : Operand} {x : AV} {c : Prop} (he : evMax (evO s o) (evO s i) = some (x, c)) :
    ∃ v, (Builtin.max_ ts ty #[a.eval o, a.eval i]).run E.P w = .ok v w ∧ RAV E G φ w x v := by
  unfold evMax at he
  split at he
  · rename_i k m k' n ho hi
    cases he
    rw [rel_int (h.ev ho), rel_int (h.ev hi)]
    exact ⟨_, by simp [Builtin.max_, Builtin.max2], relAV_c (RelD.int _ _) rfl⟩
  · cases he

theorem Sim.min (h : Sim E s G φ a w) {ts : Array TypeId} {ty : TypeId} {o i : Operand} {x : AV} {c : Prop} (he : evMin (evO s o) (evO s i) = some (x, c)) :
    ∃ v, (Builtin.min_ ts ty #[a.eval o, a.eval i]).run E.P w = .ok v w ∧ RAV E G φ w x v := by
  unfold evMin at he
  split at he
  · rename_i k m k' n ho hi
    cases he
    rw [rel_int (h.ev ho), rel_int (h.ev hi)]
    exact ⟨_, by simp [Builtin.min_, Builtin.min2], relAV_c (RelD.int _ _) rfl⟩
  · cases he

theorem RelSs.get {R : C → Value → Prop} : ∀ {xs : List (Bool × List C)} {vs : List Value}, RelSs R xs vs → ∀ (i : Nat) (p : Bool × List C), xs[i]? = some p → ∃ v, vs[i]? = some v ∧ RelS R p v
  | [], [], _, i, p, h => by simp at h
  | _ :: xs, _ :: vs, ⟨h1, h2⟩, i, p, h => by
    cases i with
    | zero => simp at h; subst h; exact ⟨_, rfl, h1⟩
    | succ i => simp at h; obtain ⟨v, hv, hr⟩ := RelSs.get h2 i p h; exact ⟨v, by simpa using hv, hr⟩
  | [], _ :: _, h, _, _, _ => h.elim
  | _ :: _, [], h, _, _, _ => h.elim

theorem Sim.extract (h : Sim E s G φ a w) {i : Nat} {o : Operand} {x : AV} {c : Prop} (he : evExtract i (evO s o) = some (x, c)) :
    ∃ v, (Instr.extract (a.eval o) i).run E.P w = .ok v w ∧ RAV E G φ w x v := by
  unfold evExtract at he
  split at he
  · rename_i vs ho
    obtain ⟨us, hv, hr⟩ := h.ev ho
    rw [hv]
    split at he
    · rename_i cs hi
      cases he
      obtain ⟨v, hv, hr⟩ := hr.get i _ hi
      exact ⟨v, by simp [Instr.extract]; simp at hv; simp [hv], hr⟩
    · rename_i y hi
      cases he
      obtain ⟨v, hv, hr⟩ := hr.get i _ hi
      exact ⟨v, by simp [Instr.extract]; simp at hv; simp [hv], relAV_c hr.1 hr.2⟩
    · cases he
  · cases he

theorem Sim.pick (h : Sim E s G φ a w) {o x y : Operand} {z : AV} {c : Prop} (he : evPick (evO s o) (evO s x) (evO s y) = some (z, c)) :
    ∃ v, (do pure (.value (if ← asBool (a.eval o) then a.eval x else a.eval y)) : Sem Next).run E.P w = .ok (.value v) w ∧ RAV E G φ w z v := by
  unfold evPick at he
  split at he
  · rename_i b p q ho hx hy
    rw [rel_bool (h.ev ho)]
    split at he
    · cases he; exact ⟨_, by simp [asBool], h.ev hx⟩
    · cases he; exact ⟨_, by simp [asBool], h.ev hy⟩
  · cases he

theorem capsOf_rel (h : Sim E s G φ a w) : ∀ {os : List Operand} {ds : List D}, capsOf (os.map (evO s)) = some ds →
    ds.length = os.length ∧ ∀ j, j < ds.length → RelD G w (D.at ds j) ((os.map a.eval).getD j undef)
  | [], ds, he => by cases he; exact ⟨rfl, fun j hj => by simp at hj⟩
  | o :: os, ds, he => by
    simp only [List.map_cons] at he
    cases ho : evO s o with
    | none => rw [ho] at he; cases he
    | some v =>
      rw [ho] at he
      cases v with
      | agg _ => cases he
      | tup _ => cases he
      | c x =>
        cases x with
        | d x =>
          simp only [capsOf] at he
          split at he
          · rename_i xs hxs
            cases he
            obtain ⟨h1, h2⟩ := capsOf_rel h hxs
            refine ⟨by simp [h1], fun j hj => ?_⟩
            cases j with
            | zero => exact (h.ev ho).1
            | succ j => simpa [D.at] using h2 j (by simpa using hj)
          · cases he
        | _ => cases he

theorem ccsOf_rel (h : Sim E s G φ a w) : ∀ {os : List Operand} {ds : List CC}, ccsOf (os.map (evO s)) = some ds →
    ds.length = os.length ∧ ∀ j, j < ds.length → RelCC G φ w (ds.getD j default) ((os.map a.eval).getD j undef)
  | [], ds, he => by cases he; exact ⟨rfl, fun j hj => by simp at hj⟩
  | o :: os, ds, he => by
    simp only [List.map_cons] at he
    cases ho : evO s o with
    | none => rw [ho] at he; cases he
    | some v =>
      rw [ho] at he
      cases v with
      | agg _ => cases he
      | tup _ => cases he
      | c x =>
        cases x with
        | d x =>
          simp only [ccsOf] at he
          split at he
          · rename_i xs hxs
            cases he
            obtain ⟨h1, h2⟩ := ccsOf_rel h hxs
            refine ⟨by simp [h1], fun j hj => ?_⟩
            cases j with
            | zero => exact (h.ev ho).1
            | succ j => simpa using h2 j (by simpa using hj)
          · cases he
        | ptr k q =>
          simp only [ccsOf] at he
          split at he
          · rename_i xs hxs
            cases he
            obtain ⟨h1, h2⟩ := ccsOf_rel h hxs
            refine ⟨by simp [h1], fun j hj => ?_⟩
            cases j with
            | zero => exact (h.ev ho).1
            | succ j => simpa using h2 j (by simpa using hj)
          · cases he
        | _ => cases he

end
end Go.Av
