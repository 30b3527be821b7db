import Derived.Test.YtfgohaghjaeafaaNB
import Derived.Test.YtfgohaghjaeafaaN1p
namespace Go.Av
open Go
set_option linter.unusedVariables false
set_option linter.unusedSimpArgs false

/-! ### Check sums -/

def crcT (c : Nat) : Nat := if c % 2 = 1 then (c / 2) ^^^ 2197175160 else c / 2

theorem crcT_lt {c : Nat} (h : c < 2 ^ 32) : crcT c < 2 ^ 32 := by
  unfold crcT
  split
  · exact Nat.xor_lt_two_pow (by omega) (by decide)
  · omega

theorem crcT_inj {a b : Nat} (ha : a < 2 ^ 32) (hb : b < 2 ^ 32) (h : crcT a = crcT b) : a = b := by
  have hp : ∀ x : Nat, x < 2 ^ 31 → 2 ^ 31 ≤ x ^^^ 2197175160 := fun x hx => by
    have h1 : (x ^^^ 2197175160).testBit 31 = true := by
      rw [Nat.testBit_xor, Nat.testBit_lt_two_pow hx]
      decide
    exact Nat.ge_two_pow_of_testBit h1
  unfold crcT at h
  split at h <;> split at h
  · have : a / 2 = b / 2 := by
      have := congrArg (fun z => z ^^^ 2197175160) h
      simpa [Nat.xor_assoc] using this
    omega
  · have := hp (a / 2) (by omega); omega
  · have := hp (b / 2) (by omega); omega
  · omega

def iter {X : Type} (f : X → X) : Nat → X → X
  | 0, x => x
  | n + 1, x => iter f n (f x)

def crcB (c b : Nat) : Nat := iter crcT 8 (c ^^^ b)

theorem iter_lt {n : Nat} : ∀ {c : Nat}, c < 2 ^ 32 → iter crcT n c < 2 ^ 32 := by
  induction n with
  | zero => intro c h; exact h
  | succ n ih => intro c h; exact ih (crcT_lt h)
theorem iter_inj {n : Nat} : ∀ {a b : Nat}, a < 2 ^ 32 → b < 2 ^ 32 → iter crcT n a = iter crcT n b → a = b := by
  induction n with
  | zero => intro a b _ _ h; exact h
  | succ n ih => intro a b ha hb h; exact crcT_inj ha hb (ih (crcT_lt ha) (crcT_lt hb) h)

theorem crcB_lt {c b : Nat} (h : c < 2 ^ 32) (hb : b < 256) : crcB c b < 2 ^ 32 := iter_lt (Nat.xor_lt_two_pow h (by omega))

theorem xor_cancel {a b c : Nat} (h : a ^^^ c = b ^^^ c) : a = b := by
  have := congrArg (fun z => z ^^^ c) h
  simpa [Nat.xor_assoc] using this

theorem crcB_inj {a b x : Nat} (ha : a < 2 ^ 32) (hb : b < 2 ^ 32) (hx : x < 256) (h : crcB a x = crcB b x) : a = b :=
  xor_cancel (iter_inj (Nat.xor_lt_two_pow ha (by omega)) (Nat.xor_lt_two_pow hb (by omega)) h)

theorem crcB_inj2 {a x y : Nat} (ha : a < 2 ^ 32) (hx : x < 256) (hy : y < 256) (h : crcB a x = crcB a y) : x = y := by
  have := iter_inj (Nat.xor_lt_two_pow ha (by omega)) (Nat.xor_lt_two_pow ha (by omega)) h
  rw [Nat.xor_comm a x, Nat.xor_comm a y] at this
  exact xor_cancel this

/-- The check sum of some bytes. -/
def crcL (l : List UInt8) : Nat := l.foldl (fun c b => crcB c b.toNat) 4294967295
def crcS (s : ByteArray) : Nat := 4294967295 - crcL s.data.toList

theorem crcF_lt : ∀ (l : List UInt8) {c : Nat}, c < 2 ^ 32 → l.foldl (fun c b => crcB c b.toNat) c < 2 ^ 32
  | [], c, h => h
  | b :: l, c, h => crcF_lt l (crcB_lt h (UInt8.toNat_lt b))
theorem crcL_lt (l : List UInt8) : crcL l < 2 ^ 32 := crcF_lt l (by decide)

theorem crcF_inj : ∀ (l : List UInt8) {a b : Nat}, a < 2 ^ 32 → b < 2 ^ 32 → l.foldl (fun c b => crcB c b.toNat) a = l.foldl (fun c b => crcB c b.toNat) b → a = b
  | [], a, b, _, _, h => h
  | x :: l, a, b, ha, hb, h => crcB_inj ha hb (UInt8.toNat_lt x) (crcF_inj l (crcB_lt ha (UInt8.toNat_lt x)) (crcB_lt hb (UInt8.toNat_lt x)) h)

theorem crcL_turned (l r : List UInt8) {x y : UInt8} (h : x ≠ y) : crcL (l ++ x :: r) ≠ crcL (l ++ y :: r) := by
  unfold crcL
  rw [List.foldl_append, List.foldl_append, List.foldl_cons, List.foldl_cons]
  intro e
  have hl := crcF_lt l (c := 4294967295) (by decide)
  have := crcF_inj r (crcB_lt hl (UInt8.toNat_lt x)) (crcB_lt hl (UInt8.toNat_lt y)) e
  exact h (UInt8.toNat_inj.1 (crcB_inj2 hl (UInt8.toNat_lt x) (UInt8.toNat_lt y) this))

/-! ### A byte of a text -/

theorem bt_nat {s : ByteArray} {i : Nat} (h : i < s.size) : ∃ b : UInt8, s.data.toList.getD i 0 = b ∧ bt s (i : Int) = (b.toNat : Int) := by
  refine ⟨_, rfl, ?_⟩
  unfold bt
  rw [Int.toNat_natCast]
  have : s.data.getD i 0 = s.data.toList.getD i 0 := by
    rw [Array.getD_eq_getD_getElem?, List.getD_eq_getElem?_getD, Array.getElem?_toList]
  rw [this]

def byteAt (s : ByteArray) (i : Nat) : Nat := (s.data.toList.getD i 0).toNat
theorem byteAt_lt (s : ByteArray) (i : Nat) : byteAt s i < 256 := UInt8.toNat_lt _
theorem bt_byteAt {s : ByteArray} {i : Nat} : bt s (i : Int) = (byteAt s i : Int) := by
  unfold bt byteAt
  rw [Int.toNat_natCast]
  have : s.data.getD i 0 = s.data.toList.getD i 0 := by
    rw [Array.getD_eq_getD_getElem?, List.getD_eq_getElem?_getD, Array.getElem?_toList]
  rw [this]

theorem size_toList (s : ByteArray) : s.data.toList.length = s.size := Array.length_toList

/-! ### The two programs -/

theorem put_eq {c b : Nat} (hc : c < 2 ^ 32) (hb : b < 256) : freshet_pack_register_put_w (b : Int) (c : Int) = some (crcB c b : Int) := by
  unfold freshet_pack_register_put_w
  have e0 : IntKind.u32.wrap (b : Int) = (b : Int) := uwrap (k := .u32) rfl (show b < 2 ^ 32 by omega)
  rw [e0, xor_nat (k := .u32) rfl hc (show b < 2 ^ 32 by omega)]
  have hx : c ^^^ b < 2 ^ 32 := Nat.xor_lt_two_pow hc (by omega)
  rw [rangeN_to ((iter crcT 8 (c ^^^ b) : Nat) : Int) (fun i a => ∃ m : Nat, a = (m : Int) ∧ m < 2 ^ 32 ∧ iter crcT (8 - i) m = iter crcT 8 (c ^^^ b)) (fun s ⟨m, h1, h2, h3⟩ => by rw [h1]; exact_mod_cast h3)]
  · rfl
  · rintro i a hi ⟨m, rfl, hm, he⟩
    have e1 : shrOp .u32 (m : Int) 1 = ((m / 2 : Nat) : Int) := shr_nat .u32 m 1 (by decide)
    have e2 : bitsOp .and .u32 (m : Int) 1 = ((m % 2 : Nat) : Int) := and1_nat (k := .u32) rfl hm (by decide)
    have hstep : bitsOp .xor .u32 (shrOp .u32 (m : Int) 1) (bitsOp .and .u32 (2197175160 : Int) (IntKind.u32.wrap (0 - (bitsOp .and .u32 (m : Int) 1)))) = ((crcT m : Nat) : Int) := by
      rw [e1, e2, wrap_u32]
      unfold crcT
      rcases Nat.mod_two_eq_zero_or_one m with h | h
      · rw [h, if_neg (by decide)]
        have e3 : (0 - ((0 : Nat) : Int)) % 4294967296 = ((0 : Nat) : Int) := by decide
        rw [e3]
        have := and_nat (k := .u32) rfl (x := 2197175160) (y := 0) (by decide) (by decide)
        rw [show ((2197175160 : Nat) : Int) = 2197175160 from rfl] at this
        rw [this, Nat.and_zero, xor_nat (k := .u32) rfl (show m / 2 < 2 ^ 32 by omega) (by decide), Nat.xor_zero]
      · rw [h, if_pos rfl]
        have e3 : (0 - ((1 : Nat) : Int)) % 4294967296 = ((4294967295 : Nat) : Int) := by decide
        rw [e3]
        have := and_nat (k := .u32) rfl (x := 2197175160) (y := 4294967295) (by decide) (by decide)
        rw [show ((2197175160 : Nat) : Int) = 2197175160 from rfl] at this
        rw [this, show (2197175160 : Nat) &&& 4294967295 = 2197175160 from by decide, xor_nat (k := .u32) rfl (show m / 2 < 2 ^ 32 by omega) (by decide)]
    refine ⟨_, rfl, crcT m, hstep, crcT_lt hm, ?_⟩
    rw [← he, show 8 - i = (8 - (i + 1)) + 1 by omega]
    rfl
  · exact ⟨c ^^^ b, rfl, hx, rfl⟩

theorem crc_take_succ {s : ByteArray} {i : Nat} (h : i < s.size) : crcL (s.data.toList.take (i + 1)) = crcB (crcL (s.data.toList.take i)) (byteAt s i) := by
  unfold crcL byteAt
  have hl := size_toList s
  rw [List.take_add_one, List.getElem?_eq_getElem (by omega), List.foldl_append]
  simp [List.getD_eq_getElem?_getD, List.getElem?_eq_getElem (show i < s.data.toList.length by omega)]

theorem xor_ones {a : Nat} (h : a < 2 ^ 32) : (4294967295 : Nat) ^^^ a = 4294967295 - a := by
  have := Nat.xor_comm 4294967295 a
  rw [this]
  apply Nat.eq_of_testBit_eq
  intro i
  rw [Nat.testBit_xor, show (4294967295 : Nat) = 2 ^ 32 - 1 from rfl, Nat.testBit_two_pow_sub_one]
  have : 2 ^ 32 - 1 - a = 2 ^ 32 - (a + 1) := by omega
  rw [this, Nat.testBit_two_pow_sub_succ h]
  by_cases hi : i < 32
  · simp [hi]
  · have : a.testBit i = false := Nat.testBit_lt_two_pow (Nat.lt_of_lt_of_le h (Nat.pow_le_pow_right (by decide) (by omega)))
    simp [hi, this]

theorem packSum_eq {s : ByteArray} (h : s.size ≤ maxN) : pack_Sum s = some ((crcS s : Nat) : Int) := by
  unfold pack_Sum
  rw [need_true h]
  rw [rangeN_to ((crcL s.data.toList : Nat) : Int) (fun i a => a = ((crcL (s.data.toList.take i) : Nat) : Int)) (fun a h => by rw [h, List.take_of_length_le (by rw [size_toList]; exact Nat.le_refl _)])]
  · simp only [outK_done]
    have := xor_nat (k := .u32) rfl (x := 4294967295) (y := crcL s.data.toList) (by decide) (crcL_lt _)
    rw [show ((4294967295 : Nat) : Int) = 4294967295 from rfl] at this
    rw [this, xor_ones (crcL_lt _)]
    rfl
  · rintro i a hi rfl
    refine ⟨_, ?_, rfl⟩
    rw [bt_byteAt, put_eq (crcL_lt _) (byteAt_lt s i), crc_take_succ hi]
    rfl
  · rfl

theorem refSum_eq {s : ByteArray} (h : s.size ≤ maxN) {fuel : Nat} (hf : s.size + 9 < fuel) : freshetref01_Sum fuel s = some ((crcS s : Nat) : Int) := by
  unfold maxN at h
  unfold freshetref01_Sum
  have hround : ∀ c : Nat, c < 2 ^ 32 → outK (loopN (S := Int × Int) (R := Empty) (fun (a4 : Int × Int) => bf (decide (a4.2 < 8)) (jn (fun (a6 : Int) => some (.next (a6, (IntKind.i64.wrap (a4.2 + 1))))) fun j7 => bf (decide ((a4.1.tmod 2) = 1)) (j7 (bitsOp .xor .u32 (IntKind.u32.wrap (a4.1.tdiv 2)) 2197175160)) (j7 (IntKind.u32.wrap (a4.1.tdiv 2)))) (some (.brk (a4.1, a4.2)))) fuel ((c : Int), 0)) = outK (Q := Ctl (Int × Int) Empty) (some (.done (((iter crcT 8 c : Nat) : Int), (8 : Int)))) := fun c hc => by
    have := loopN_steps (R := Empty) (n := 8) (fuel := fuel) (z := (((iter crcT 8 c : Nat) : Int), (8 : Int))) (B := fun (a4 : Int × Int) => bf (decide (a4.2 < 8)) (jn (fun (a6 : Int) => some (.next (a6, (IntKind.i64.wrap (a4.2 + 1))))) fun j7 => bf (decide ((a4.1.tmod 2) = 1)) (j7 (bitsOp .xor .u32 (IntKind.u32.wrap (a4.1.tdiv 2)) 2197175160)) (j7 (IntKind.u32.wrap (a4.1.tdiv 2)))) (some (.brk (a4.1, a4.2)))) (fun i : Nat => (((iter crcT i c : Nat) : Int), (i : Int))) (by omega) (fun i hi => by
        have hm : iter crcT i c < 2 ^ 32 := iter_lt hc
        have hs : iter crcT (i + 1) c = crcT (iter crcT i c) := by
          have : ∀ n c, iter crcT (n + 1) c = crcT (iter crcT n c) := by
            intro n
            induction n with
            | zero => intro c; rfl
            | succ n ih => intro c; show iter crcT (n + 1) (crcT c) = _; rw [ih]; rfl
          exact this i c
        rw [hs]
        generalize iter crcT i c = m at *
        simp only [jn_eq, bf_decide]
        rw [if_pos (by omega), wrap_small (by omega) (by omega)]
        have e1 : ((m : Int).tmod 2) = ((m % 2 : Nat) : Int) := by rw [Int.tmod_eq_emod_of_nonneg (by omega)]; omega
        have e2 : IntKind.u32.wrap ((m : Int).tdiv 2) = ((m / 2 : Nat) : Int) := by rw [Int.tdiv_eq_ediv_of_nonneg (by omega), wrap_u32]; omega
        rw [e1, e2]
        unfold crcT
        have e3 := xor_nat (k := .u32) rfl (x := m / 2) (y := 2197175160) (show m / 2 < 2 ^ 32 by omega) (by decide)
        rw [show ((2197175160 : Nat) : Int) = 2197175160 from rfl] at e3
        rw [e3]
        by_cases h1 : m % 2 = 1
        · rw [if_pos (by omega), if_pos h1]; rfl
        · rw [if_neg (by omega), if_neg h1]; rfl) (by simp only [bf_decide]; rw [if_neg (by decide)]; rfl)
    exact congrArg outK this
  rw [show ((4294967295 : Int), (0 : Int)) = (fun i : Nat => (((crcL (s.data.toList.take i) : Nat) : Int), (i : Int))) 0 from rfl]
  rw [loopN_steps (R := Empty) (n := s.size) (fuel := fuel) (z := (((crcL s.data.toList : Nat) : Int), (s.size : Int))) (fun i : Nat => (((crcL (s.data.toList.take i) : Nat) : Int), (i : Int))) (by omega) (fun i hi => by
    have hb := byteAt_lt s i
    have e0 : IntKind.u32.wrap (byteAt s i : Int) = (byteAt s i : Int) := uwrap (k := .u32) rfl (show byteAt s i < 2 ^ 32 by omega)
    show bf (decide ((i : Int) < (s.size : Int))) _ _ = _
    rw [decide_eq_true (by omega : (i : Int) < (s.size : Int)), bf_true, need_true (by omega), bt_byteAt, e0, xor_nat (k := .u32) rfl (crcL_lt _) (show byteAt s i < 2 ^ 32 by omega), hround _ (Nat.xor_lt_two_pow (crcL_lt _) (by omega))]
    simp only [outK_done]
    rw [wrap_small (by omega) (by omega), crc_take_succ hi]
    rfl) (by
    show bf (decide ((s.size : Int) < (s.size : Int))) _ _ = _
    rw [decide_eq_false (by omega : ¬ (s.size : Int) < (s.size : Int)), bf_false, List.take_of_length_le (by rw [size_toList]; exact Nat.le_refl _)])]
  simp only [outK_done]
  rw [wrap_u32]
  have := crcL_lt s.data.toList
  unfold crcS
  congr 1
  omega

end Go.Av
