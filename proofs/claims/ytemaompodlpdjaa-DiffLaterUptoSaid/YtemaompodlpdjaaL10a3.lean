import Derived.Test.YtemaompodlpdjaaL10a2
import Derived.KernelRfl
namespace Go.Av
open Go
set_option linter.unusedVariables false
set_option linter.unusedSimpArgs false
structure Value where
  isText : Bool
  n : Int
  s : ByteArray
  deriving Inhabited
def encValue (x : Value) : List D := [.bool x.isText, dI x.n, .str x.s]
abbrev cValue (x : Value) : List C := [.d (.bool x.isText), .d (dI x.n), .d (.str x.s)]
def eqValue (x y : Value) : Bool := ((x.isText == y.isText) && (decide (x.n = y.n) && (strEq x.s y.s && true)))
structure Time where
  epoch : Int
  loop : Int × Int
  deriving Inhabited
def encTime (x : Time) : List D := [dU x.epoch, dU x.loop.1, dU x.loop.2]
abbrev cTime (x : Time) : List C := [.d (dU x.epoch), .d (dU x.loop.1), .d (dU x.loop.2)]
def eqTime (x y : Time) : Bool := (decide (x.epoch = y.epoch) && ((decide (x.loop.1 = y.loop.1) && (decide (x.loop.2 = y.loop.2) && true)) && true))
structure Update where
  key : List Value
  row : List Value
  time : Time
  diff : Int
  deriving Inhabited
def encUpdate (x : Update) : List D := [lD 3 encValue x.key, lD 3 encValue x.row, dU x.time.epoch, dU x.time.loop.1, dU x.time.loop.2, dI x.diff]
abbrev cUpdate (x : Update) : List C := [.d (lD 3 encValue x.key), .d (lD 3 encValue x.row), .d (dU x.time.epoch), .d (dU x.time.loop.1), .d (dU x.time.loop.2), .d (dI x.diff)]
structure Tally where
  high : Int
  low : Int
  deriving Inhabited
abbrev cTally (x : Tally) : List C := [.d (dU x.high), .d (dU x.low)]
structure Line_Update where
  tally : Tally
  of : Update
  deriving Inhabited
def encLine_Update (x : Line_Update) : List D := [dU x.tally.high, dU x.tally.low, lD 3 encValue x.of.key, lD 3 encValue x.of.row, dU x.of.time.epoch, dU x.of.time.loop.1, dU x.of.time.loop.2, dI x.of.diff]
abbrev cLine_Update (x : Line_Update) : List C := [.d (dU x.tally.high), .d (dU x.tally.low), .d (lD 3 encValue x.of.key), .d (lD 3 encValue x.of.row), .d (dU x.of.time.epoch), .d (dU x.of.time.loop.1), .d (dU x.of.time.loop.2), .d (dI x.of.diff)]
structure Wide where
  high : Int
  low : Int
  deriving Inhabited
abbrev cWide (x : Wide) : List C := [.d (dI x.high), .d (dU x.low)]
structure Count where
  row : List Value
  n : Int
  deriving Inhabited
def encCount (x : Count) : List D := [lD 3 encValue x.row, dI x.n]
abbrev cCount (x : Count) : List C := [.d (lD 3 encValue x.row), .d (dI x.n)]
structure Line_Count where
  tally : Tally
  of : Count
  deriving Inhabited
def encLine_Count (x : Line_Count) : List D := [dU x.tally.high, dU x.tally.low, lD 3 encValue x.of.row, dI x.of.n]
abbrev cLine_Count (x : Line_Count) : List C := [.d (dU x.tally.high), .d (dU x.tally.low), .d (lD 3 encValue x.of.row), .d (dI x.of.n)]
def value_right (p0 : Value) : Option Bool :=
  bf p0.isText (jn (fun (a1 : Bool) => some a1) fun j2 => bf (decide (p0.n = 0)) (j2 (decide ((p0.s.size : Int) ≤ 64))) (j2 false)) (some (strEq p0.s (bs [])))
def value_Check_1 (p0 : Value) : Option Bool :=
  (value_right p0).bind fun r1 => some (!r1)
def slices_IndexFuncfreshet_api_Value_freshet_api_Value_Value__value_Check_1 (p0 : List Value) : Option Int :=
  outK (rangeN (S := Unit) (R := Int) (fun i1 (a2 : Unit) => (value_Check_1 (p0.getD i1 default)).bind fun r4 => bf r4 (some (.ret ((i1 : Nat) : Int))) (some (.next ()))) p0.length 0 ()) (fun (a3 : Unit) => some (-1)) (fun x => some x)
def slices_ContainsFuncfreshet_api_Value_freshet_api_Value_Value__value_Check_1 (p0 : List Value) : Option Bool :=
  (slices_IndexFuncfreshet_api_Value_freshet_api_Value_Value__value_Check_1 p0).bind fun r1 => some (decide (0 ≤ r1))
def value_Check (p0 : List Value) : Option Int :=
  jn (fun (a1 : Bool) => bf a1 (some 4) (some 0)) fun j2 => bf (decide (8 < (p0.length : Int))) (j2 true) ((slices_ContainsFuncfreshet_api_Value_freshet_api_Value_Value__value_Check_1 p0).bind fun r3 => j2 r3)
def slices_Maxuint64_uint64_uint64 (fuel : Nat) (p0 : List Int) : Option Int :=
  bf (decide ((p0.length : Int) < 1)) (none) (need ((0 : Int) ≤ 0 ∧ 0 < (p0.length : Int)) <| outK (loopN (S := Int × Int) (R := Empty) (fun (a2 : Int × Int) => bf (decide (a2.2 < (p0.length : Int))) (need ((0 : Int) ≤ a2.2 ∧ a2.2 < (p0.length : Int)) <| some (.next ((if a2.1 < (p0.getD a2.2.toNat default) then (p0.getD a2.2.toNat default) else a2.1), (IntKind.i64.wrap (a2.2 + 1))))) (some (.brk (a2.1, a2.2)))) fuel ((p0.getD 0 default), 1)) (fun (a3 : Int × Int) => some a3.1) (fun (x : Empty) => x.elim))
def moment_Check (fuel : Nat) (p0 : List Time) : Option Int :=
  outK (rangeN (S := Unit) (R := Int) (fun i1 (a2 : Unit) => (slices_Maxuint64_uint64_uint64 fuel ([(p0.getD i1 default).loop.1, (p0.getD i1 default).loop.2] : List Int)).bind fun r4 => bf (decide (4611686018427387904 < (if (p0.getD i1 default).epoch < r4 then r4 else (p0.getD i1 default).epoch))) (some (.ret 1)) (some (.next ()))) p0.length 0 ()) (fun (a3 : Unit) => some 0) (fun x => some x)
def cmp_Or_Errno (p0 : List Int) : Option Int :=
  outK (rangeN (S := Unit) (R := Int) (fun i1 (a2 : Unit) => bf (!decide ((p0.getD i1 default) = 0)) (some (.ret (p0.getD i1 default))) (some (.next ()))) p0.length 0 ()) (fun (a3 : Unit) => some 0) (fun x => some x)
def diff_Check (fuel : Nat) (p0 : List Update) : Option Int :=
  outK (rangeN (S := Unit) (R := Int) (fun i1 (a2 : Unit) => (value_Check ((p0.getD i1 default).key)).bind fun r4 => (value_Check ((p0.getD i1 default).row)).bind fun r5 => (moment_Check fuel ([(p0.getD i1 default).time] : List Time)).bind fun r6 => (cmp_Or_Errno ([r4, r5, r6] : List Int)).bind fun r7 => bf (!decide (r7 = 0)) (some (.ret r7)) (some (.next ()))) p0.length 0 ()) (fun (a3 : Unit) => some 0) (fun x => some x)
def slices_Growfreshet_api_Update_freshet_api_Update_Update (p1 : Int) : Option (List Update) :=
  bf (decide (p1 < 0)) (none) (jn (fun (a1 : List Update) => some a1) fun j2 => bf (decide (0 < (IntKind.i64.wrap (p1 - (IntKind.i64.wrap ((0 : Int) - 0)))))) (need ((0 : Int) < (IntKind.i64.wrap (p1 - (IntKind.i64.wrap ((0 : Int) - 0)))) ∧ (IntKind.i64.wrap (p1 - (IntKind.i64.wrap ((0 : Int) - 0)))) ≤ (lim : Int)) <| need ((0 : Int) ≤ 0 ∧ (0 : Int) ≤ 0 ∧ (0 : Int) ≤ ((List.replicate ((IntKind.i64.wrap (p1 - (IntKind.i64.wrap ((0 : Int) - 0)))).toNat) ((⟨([] : List Value), ([] : List Value), (⟨0, (0, 0)⟩ : Time), 0⟩ : Update) : Update)).length : Int)) <| j2 ((List.replicate ((IntKind.i64.wrap (p1 - (IntKind.i64.wrap ((0 : Int) - 0)))).toNat) ((⟨([] : List Value), ([] : List Value), (⟨0, (0, 0)⟩ : Time), 0⟩ : Update) : Update)).take 0)) (j2 ([] : List Update)))
def slices_Concatfreshet_api_Update_freshet_api_Update_Update (p0 : List (List Update)) : Option (List Update) :=
  outK (rangeN (S := Int) (R := Empty) (fun i1 (a2 : Int) => bf (decide ((IntKind.i64.wrap (a2 + ((p0.getD i1 default).length : Int))) < 0)) (none) (some (.next (IntKind.i64.wrap (a2 + ((p0.getD i1 default).length : Int)))))) p0.length 0 0) (fun (a3 : Int) => (slices_Growfreshet_api_Update_freshet_api_Update_Update a3).bind fun r4 => outK (rangeN (S := List Update) (R := Empty) (fun i5 (a6 : List Update) => need (a6.length + (p0.getD i5 default).length ≤ 274877906944) <| some (.next (a6 ++ (p0.getD i5 default)))) p0.length 0 r4) (fun (a7 : List Update) => some a7) (fun (x : Empty) => x.elim)) (fun (x : Empty) => x.elim)
def value_mark (p0 : Value) : Option Int :=
  bf p0.isText (some 1) (some 0)
def cmp_isNaN_int (p0 : Int) : Option Bool :=
  some (!decide (p0 = p0))
def cmp_Compare_int (p0 : Int) (p1 : Int) : Option Int :=
  (cmp_isNaN_int p0).bind fun r1 => (cmp_isNaN_int p1).bind fun r2 => bf r1 (bf r2 (some 0) (some (-1))) (bf r2 (some 1) (bf (decide (p0 < p1)) (some (-1)) (bf (decide (p1 < p0)) (some 1) (some 0))))
def cmp_isNaN_string (p0 : ByteArray) : Option Bool :=
  some (!strEq p0 p0)
def cmp_Compare_string (p0 : ByteArray) (p1 : ByteArray) : Option Int :=
  (cmp_isNaN_string p0).bind fun r1 => (cmp_isNaN_string p1).bind fun r2 => bf r1 (bf r2 (some 0) (some (-1))) (bf r2 (some 1) (bf (strLt p0 p1) (some (-1)) (bf (!(strLt p0 p1 || strEq p0 p1)) (some 1) (some 0))))
def cmp_isNaN_int64 (p0 : Int) : Option Bool :=
  some (!decide (p0 = p0))
def cmp_Compare_int64 (p0 : Int) (p1 : Int) : Option Int :=
  (cmp_isNaN_int64 p0).bind fun r1 => (cmp_isNaN_int64 p1).bind fun r2 => bf r1 (bf r2 (some 0) (some (-1))) (bf r2 (some 1) (bf (decide (p0 < p1)) (some (-1)) (bf (decide (p1 < p0)) (some 1) (some 0))))
def value_Compare (p0 : Value) (p1 : Value) : Option Int :=
  bf (!(p0.isText == p1.isText)) ((value_mark p0).bind fun r1 => (value_mark p1).bind fun r2 => (cmp_Compare_int r1 r2).bind fun r3 => some r3) (bf p0.isText ((cmp_Compare_string p0.s p1.s).bind fun r4 => some r4) ((cmp_Compare_int64 p0.n p1.n).bind fun r5 => some r5))
def slices_CompareFuncfreshet_api_Value_freshet_api_Value_freshet_api_Value_freshet_api_Value_Value__value_Compare (p0 : List Value) (p1 : List Value) : Option Int :=
  outK (rangeN (S := Unit) (R := Int) (fun i1 (a2 : Unit) => bf (decide ((p1.length : Int) ≤ ((i1 : Nat) : Int))) (some (.ret 1)) (need ((0 : Int) ≤ ((i1 : Nat) : Int) ∧ ((i1 : Nat) : Int) < (p1.length : Int)) <| (value_Compare (p0.getD i1 default) (p1.getD i1 default)).bind fun r5 => bf (!decide (r5 = 0)) (some (.ret r5)) (some (.next ())))) p0.length 0 ()) (fun (a3 : Unit) => bf (decide ((p0.length : Int) < (p1.length : Int))) (some (-1)) (some 0)) (fun x => some x)
def value_Rows (p0 : List Value) (p1 : List Value) : Option Int :=
  (slices_CompareFuncfreshet_api_Value_freshet_api_Value_freshet_api_Value_freshet_api_Value_Value__value_Compare p0 p1).bind fun r1 => some r1
def cmp_isNaN_uint64 (p0 : Int) : Option Bool :=
  some (!decide (p0 = p0))
def cmp_Compare_uint64 (p0 : Int) (p1 : Int) : Option Int :=
  (cmp_isNaN_uint64 p0).bind fun r1 => (cmp_isNaN_uint64 p1).bind fun r2 => bf r1 (bf r2 (some 0) (some (-1))) (bf r2 (some 1) (bf (decide (p0 < p1)) (some (-1)) (bf (decide (p1 < p0)) (some 1) (some 0))))
def slices_Compareuint64_uint64_uint64 (p0 : List Int) (p1 : List Int) : Option Int :=
  outK (rangeN (S := Unit) (R := Int) (fun i1 (a2 : Unit) => bf (decide ((p1.length : Int) ≤ ((i1 : Nat) : Int))) (some (.ret 1)) (need ((0 : Int) ≤ ((i1 : Nat) : Int) ∧ ((i1 : Nat) : Int) < (p1.length : Int)) <| (cmp_Compare_uint64 (p0.getD i1 default) (p1.getD i1 default)).bind fun r5 => bf (!decide (r5 = 0)) (some (.ret r5)) (some (.next ())))) p0.length 0 ()) (fun (a3 : Unit) => bf (decide ((p0.length : Int) < (p1.length : Int))) (some (-1)) (some 0)) (fun x => some x)
def cmp_Or_int (p0 : List Int) : Option Int :=
  outK (rangeN (S := Unit) (R := Int) (fun i1 (a2 : Unit) => bf (!decide ((p0.getD i1 default) = 0)) (some (.ret (p0.getD i1 default))) (some (.next ()))) p0.length 0 ()) (fun (a3 : Unit) => some 0) (fun x => some x)
def moment_Compare (p0 : Time) (p1 : Time) : Option Int :=
  bf (decide (p0.loop.1 = p1.loop.1) && (decide (p0.loop.2 = p1.loop.2) && true)) ((cmp_Compare_uint64 p0.epoch p1.epoch).bind fun r1 => some r1) ((cmp_Compare_uint64 p0.epoch p1.epoch).bind fun r2 => (slices_Compareuint64_uint64_uint64 ([p0.loop.1, p0.loop.2] : List Int) ([p1.loop.1, p1.loop.2] : List Int)).bind fun r3 => (cmp_Or_int ([r2, r3] : List Int)).bind fun r4 => some r4)
def diff_Compare (p0 : Update) (p1 : Update) : Option Int :=
  (value_Rows p0.key p1.key).bind fun r1 => (value_Rows p0.row p1.row).bind fun r2 => (moment_Compare p0.time p1.time).bind fun r3 => (cmp_Or_int ([r1, r2, r3] : List Int)).bind fun r4 => some r4
def slices_insertionSortCmpFunc_Update__diff_Compare_w (fuel : Nat) (p1 : Int) (p2 : Int) (l0 : List Update) : Option (List Update) :=
  outK (loopN (S := Int × (List Update)) (R := Empty) (fun (a1 : Int × (List Update)) => bf (decide (a1.1 < p2)) (outK (loopN (S := Int × (List Update)) (R := Empty) (fun (a3 : Int × (List Update)) => jn (fun (a5 : Bool) => bf a5 (need ((0 : Int) ≤ (IntKind.i64.wrap (a3.1 - 1)) ∧ (IntKind.i64.wrap (a3.1 - 1)) < (a3.2.length : Int)) <| need ((0 + (IntKind.i64.wrap (a3.1 - 1)).toNat) < a3.2.length) <| need ((0 : Int) ≤ a3.1 ∧ a3.1 < (a3.2.length : Int)) <| need ((0 + a3.1.toNat) < a3.2.length) <| need ((0 : Int) ≤ a3.1 ∧ a3.1 < (a3.2.length : Int)) <| need ((0 + a3.1.toNat) < a3.2.length) <| need ((0 : Int) ≤ (IntKind.i64.wrap (a3.1 - 1)) ∧ (IntKind.i64.wrap (a3.1 - 1)) < (a3.2.length : Int)) <| need ((0 + (IntKind.i64.wrap (a3.1 - 1)).toNat) < (a3.2.set (0 + a3.1.toNat) (a3.2.getD (0 + (IntKind.i64.wrap (a3.1 - 1)).toNat) default)).length) <| some (.next ((IntKind.i64.wrap (a3.1 - 1)), ((a3.2.set (0 + a3.1.toNat) (a3.2.getD (0 + (IntKind.i64.wrap (a3.1 - 1)).toNat) default)).set (0 + (IntKind.i64.wrap (a3.1 - 1)).toNat) (a3.2.getD (0 + a3.1.toNat) default))))) (some (.brk (a3.1, a3.2)))) fun j6 => bf (decide (p1 < a3.1)) (need ((0 : Int) ≤ a3.1 ∧ a3.1 < (a3.2.length : Int)) <| need ((0 + a3.1.toNat) < a3.2.length) <| need ((0 : Int) ≤ (IntKind.i64.wrap (a3.1 - 1)) ∧ (IntKind.i64.wrap (a3.1 - 1)) < (a3.2.length : Int)) <| need ((0 + (IntKind.i64.wrap (a3.1 - 1)).toNat) < a3.2.length) <| (diff_Compare (a3.2.getD (0 + a3.1.toNat) default) (a3.2.getD (0 + (IntKind.i64.wrap (a3.1 - 1)).toNat) default)).bind fun r20 => j6 (decide (r20 < 0))) (j6 false)) fuel (a1.1, a1.2)) (fun (a4 : Int × (List Update)) => some (.next ((IntKind.i64.wrap (a1.1 + 1)), a4.2))) (fun (x : Empty) => x.elim)) (some (.brk (a1.1, a1.2)))) fuel ((IntKind.i64.wrap (p1 + 1)), l0)) (fun (a2 : Int × (List Update)) => some a2.2) (fun (x : Empty) => x.elim)
def slices_swapRangeCmpFunc_Update__diff_Compare_w (fuel : Nat) (p1 : Int) (p2 : Int) (p3 : Int) (l0 : List Update) : Option (List Update) :=
  outK (loopN (S := Int × (List Update)) (R := Empty) (fun (a1 : Int × (List Update)) => bf (decide (a1.1 < p3)) (need ((0 : Int) ≤ (IntKind.i64.wrap (p2 + a1.1)) ∧ (IntKind.i64.wrap (p2 + a1.1)) < (a1.2.length : Int)) <| need ((0 + (IntKind.i64.wrap (p2 + a1.1)).toNat) < a1.2.length) <| need ((0 : Int) ≤ (IntKind.i64.wrap (p1 + a1.1)) ∧ (IntKind.i64.wrap (p1 + a1.1)) < (a1.2.length : Int)) <| need ((0 + (IntKind.i64.wrap (p1 + a1.1)).toNat) < a1.2.length) <| need ((0 : Int) ≤ (IntKind.i64.wrap (p1 + a1.1)) ∧ (IntKind.i64.wrap (p1 + a1.1)) < (a1.2.length : Int)) <| need ((0 + (IntKind.i64.wrap (p1 + a1.1)).toNat) < a1.2.length) <| need ((0 : Int) ≤ (IntKind.i64.wrap (p2 + a1.1)) ∧ (IntKind.i64.wrap (p2 + a1.1)) < (a1.2.length : Int)) <| need ((0 + (IntKind.i64.wrap (p2 + a1.1)).toNat) < (a1.2.set (0 + (IntKind.i64.wrap (p1 + a1.1)).toNat) (a1.2.getD (0 + (IntKind.i64.wrap (p2 + a1.1)).toNat) default)).length) <| some (.next ((IntKind.i64.wrap (a1.1 + 1)), ((a1.2.set (0 + (IntKind.i64.wrap (p1 + a1.1)).toNat) (a1.2.getD (0 + (IntKind.i64.wrap (p2 + a1.1)).toNat) default)).set (0 + (IntKind.i64.wrap (p2 + a1.1)).toNat) (a1.2.getD (0 + (IntKind.i64.wrap (p1 + a1.1)).toNat) default))))) (some (.brk (a1.1, a1.2)))) fuel (0, l0)) (fun (a2 : Int × (List Update)) => some a2.2) (fun (x : Empty) => x.elim)
def slices_rotateCmpFunc_Update__diff_Compare_w (fuel : Nat) (p1 : Int) (p2 : Int) (p3 : Int) (l0 : List Update) : Option (List Update) :=
  outK (loopN (S := Int × Int × (List Update)) (R := Empty) (fun (a1 : Int × Int × (List Update)) => bf (!decide (a1.1 = a1.2.1)) (bf (decide (a1.2.1 < a1.1)) ((slices_swapRangeCmpFunc_Update__diff_Compare_w fuel (IntKind.i64.wrap (p2 - a1.1)) p2 a1.2.1 a1.2.2).bind fun r4 => need (r4.length = a1.2.2.length) <| some (.next ((IntKind.i64.wrap (a1.1 - a1.2.1)), a1.2.1, r4))) ((slices_swapRangeCmpFunc_Update__diff_Compare_w fuel (IntKind.i64.wrap (p2 - a1.1)) (IntKind.i64.wrap ((IntKind.i64.wrap (p2 + a1.2.1)) - a1.1)) a1.1 a1.2.2).bind fun r6 => need (r6.length = a1.2.2.length) <| some (.next (a1.1, (IntKind.i64.wrap (a1.2.1 - a1.1)), r6)))) (some (.brk (a1.1, a1.2.1, a1.2.2)))) fuel ((IntKind.i64.wrap (p2 - p1)), (IntKind.i64.wrap (p3 - p2)), l0)) (fun (a2 : Int × Int × (List Update)) => (slices_swapRangeCmpFunc_Update__diff_Compare_w fuel (IntKind.i64.wrap (p2 - a2.1)) p2 a2.1 a2.2.2).bind fun r3 => some r3) (fun (x : Empty) => x.elim)
def slices_symMergeCmpFunc_Update__diff_Compare_w : Nat → Int → Int → Int → (List Update) → Option (List Update)
  | 0, _, _, _, _ => none
  | fuel + 1, p1, p2, p3, l0 =>
  bf (decide ((IntKind.i64.wrap (p2 - p1)) = 1)) (outK (loopN (S := Int × Int) (R := Empty) (fun (a1 : Int × Int) => bf (decide (a1.1 < a1.2)) (need ((0 : Int) ≤ (IntKind.i64.wrap (shrOp .u64 (IntKind.u64.wrap (IntKind.i64.wrap (a1.1 + a1.2))) 1)) ∧ (IntKind.i64.wrap (shrOp .u64 (IntKind.u64.wrap (IntKind.i64.wrap (a1.1 + a1.2))) 1)) < (l0.length : Int)) <| need ((0 + (IntKind.i64.wrap (shrOp .u64 (IntKind.u64.wrap (IntKind.i64.wrap (a1.1 + a1.2))) 1)).toNat) < l0.length) <| need ((0 : Int) ≤ p1 ∧ p1 < (l0.length : Int)) <| need ((0 + p1.toNat) < l0.length) <| (diff_Compare (l0.getD (0 + (IntKind.i64.wrap (shrOp .u64 (IntKind.u64.wrap (IntKind.i64.wrap (a1.1 + a1.2))) 1)).toNat) default) (l0.getD (0 + p1.toNat) default)).bind fun r17 => bf (decide (r17 < 0)) (some (.next ((IntKind.i64.wrap ((IntKind.i64.wrap (shrOp .u64 (IntKind.u64.wrap (IntKind.i64.wrap (a1.1 + a1.2))) 1)) + 1)), a1.2))) (some (.next (a1.1, (IntKind.i64.wrap (shrOp .u64 (IntKind.u64.wrap (IntKind.i64.wrap (a1.1 + a1.2))) 1)))))) (some (.brk (a1.1, a1.2)))) fuel (p2, p3)) (fun (a2 : Int × Int) => outK (loopN (S := Int × (List Update)) (R := Empty) (fun (a3 : Int × (List Update)) => bf (decide (a3.1 < (IntKind.i64.wrap (a2.1 - 1)))) (need ((0 : Int) ≤ (IntKind.i64.wrap (a3.1 + 1)) ∧ (IntKind.i64.wrap (a3.1 + 1)) < (a3.2.length : Int)) <| need ((0 + (IntKind.i64.wrap (a3.1 + 1)).toNat) < a3.2.length) <| need ((0 : Int) ≤ a3.1 ∧ a3.1 < (a3.2.length : Int)) <| need ((0 + a3.1.toNat) < a3.2.length) <| need ((0 : Int) ≤ a3.1 ∧ a3.1 < (a3.2.length : Int)) <| need ((0 + a3.1.toNat) < a3.2.length) <| need ((0 : Int) ≤ (IntKind.i64.wrap (a3.1 + 1)) ∧ (IntKind.i64.wrap (a3.1 + 1)) < (a3.2.length : Int)) <| need ((0 + (IntKind.i64.wrap (a3.1 + 1)).toNat) < (a3.2.set (0 + a3.1.toNat) (a3.2.getD (0 + (IntKind.i64.wrap (a3.1 + 1)).toNat) default)).length) <| some (.next ((IntKind.i64.wrap (a3.1 + 1)), ((a3.2.set (0 + a3.1.toNat) (a3.2.getD (0 + (IntKind.i64.wrap (a3.1 + 1)).toNat) default)).set (0 + (IntKind.i64.wrap (a3.1 + 1)).toNat) (a3.2.getD (0 + a3.1.toNat) default))))) (some (.brk (a3.1, a3.2)))) fuel (p1, l0)) (fun (a4 : Int × (List Update)) => some a4.2) (fun (x : Empty) => x.elim)) (fun (x : Empty) => x.elim)) (bf (decide ((IntKind.i64.wrap (p3 - p2)) = 1)) (outK (loopN (S := Int × Int) (R := Empty) (fun (a18 : Int × Int) => bf (decide (a18.1 < a18.2)) (need ((0 : Int) ≤ p2 ∧ p2 < (l0.length : Int)) <| need ((0 + p2.toNat) < l0.length) <| need ((0 : Int) ≤ (IntKind.i64.wrap (shrOp .u64 (IntKind.u64.wrap (IntKind.i64.wrap (a18.1 + a18.2))) 1)) ∧ (IntKind.i64.wrap (shrOp .u64 (IntKind.u64.wrap (IntKind.i64.wrap (a18.1 + a18.2))) 1)) < (l0.length : Int)) <| need ((0 + (IntKind.i64.wrap (shrOp .u64 (IntKind.u64.wrap (IntKind.i64.wrap (a18.1 + a18.2))) 1)).toNat) < l0.length) <| (diff_Compare (l0.getD (0 + p2.toNat) default) (l0.getD (0 + (IntKind.i64.wrap (shrOp .u64 (IntKind.u64.wrap (IntKind.i64.wrap (a18.1 + a18.2))) 1)).toNat) default)).bind fun r34 => bf (!(decide (r34 < 0))) (some (.next ((IntKind.i64.wrap ((IntKind.i64.wrap (shrOp .u64 (IntKind.u64.wrap (IntKind.i64.wrap (a18.1 + a18.2))) 1)) + 1)), a18.2))) (some (.next (a18.1, (IntKind.i64.wrap (shrOp .u64 (IntKind.u64.wrap (IntKind.i64.wrap (a18.1 + a18.2))) 1)))))) (some (.brk (a18.1, a18.2)))) fuel (p1, p2)) (fun (a19 : Int × Int) => outK (loopN (S := Int × (List Update)) (R := Empty) (fun (a20 : Int × (List Update)) => bf (decide (a19.1 < a20.1)) (need ((0 : Int) ≤ (IntKind.i64.wrap (a20.1 - 1)) ∧ (IntKind.i64.wrap (a20.1 - 1)) < (a20.2.length : Int)) <| need ((0 + (IntKind.i64.wrap (a20.1 - 1)).toNat) < a20.2.length) <| need ((0 : Int) ≤ a20.1 ∧ a20.1 < (a20.2.length : Int)) <| need ((0 + a20.1.toNat) < a20.2.length) <| need ((0 : Int) ≤ a20.1 ∧ a20.1 < (a20.2.length : Int)) <| need ((0 + a20.1.toNat) < a20.2.length) <| need ((0 : Int) ≤ (IntKind.i64.wrap (a20.1 - 1)) ∧ (IntKind.i64.wrap (a20.1 - 1)) < (a20.2.length : Int)) <| need ((0 + (IntKind.i64.wrap (a20.1 - 1)).toNat) < (a20.2.set (0 + a20.1.toNat) (a20.2.getD (0 + (IntKind.i64.wrap (a20.1 - 1)).toNat) default)).length) <| some (.next ((IntKind.i64.wrap (a20.1 - 1)), ((a20.2.set (0 + a20.1.toNat) (a20.2.getD (0 + (IntKind.i64.wrap (a20.1 - 1)).toNat) default)).set (0 + (IntKind.i64.wrap (a20.1 - 1)).toNat) (a20.2.getD (0 + a20.1.toNat) default))))) (some (.brk (a20.1, a20.2)))) fuel (p2, l0)) (fun (a21 : Int × (List Update)) => some a21.2) (fun (x : Empty) => x.elim)) (fun (x : Empty) => x.elim)) (jn (fun (a35 : Int × Int × Int × Int) => outK (loopN (S := Int × Int) (R := Empty) (fun (a37 : Int × Int) => bf (decide (a37.1 < a37.2)) (need ((0 : Int) ≤ (IntKind.i64.wrap ((IntKind.i64.wrap (a35.2.1 - 1)) - (IntKind.i64.wrap (shrOp .u64 (IntKind.u64.wrap (IntKind.i64.wrap (a37.1 + a37.2))) 1)))) ∧ (IntKind.i64.wrap ((IntKind.i64.wrap (a35.2.1 - 1)) - (IntKind.i64.wrap (shrOp .u64 (IntKind.u64.wrap (IntKind.i64.wrap (a37.1 + a37.2))) 1)))) < (l0.length : Int)) <| need ((0 + (IntKind.i64.wrap ((IntKind.i64.wrap (a35.2.1 - 1)) - (IntKind.i64.wrap (shrOp .u64 (IntKind.u64.wrap (IntKind.i64.wrap (a37.1 + a37.2))) 1)))).toNat) < l0.length) <| need ((0 : Int) ≤ (IntKind.i64.wrap (shrOp .u64 (IntKind.u64.wrap (IntKind.i64.wrap (a37.1 + a37.2))) 1)) ∧ (IntKind.i64.wrap (shrOp .u64 (IntKind.u64.wrap (IntKind.i64.wrap (a37.1 + a37.2))) 1)) < (l0.length : Int)) <| need ((0 + (IntKind.i64.wrap (shrOp .u64 (IntKind.u64.wrap (IntKind.i64.wrap (a37.1 + a37.2))) 1)).toNat) < l0.length) <| (diff_Compare (l0.getD (0 + (IntKind.i64.wrap ((IntKind.i64.wrap (a35.2.1 - 1)) - (IntKind.i64.wrap (shrOp .u64 (IntKind.u64.wrap (IntKind.i64.wrap (a37.1 + a37.2))) 1)))).toNat) default) (l0.getD (0 + (IntKind.i64.wrap (shrOp .u64 (IntKind.u64.wrap (IntKind.i64.wrap (a37.1 + a37.2))) 1)).toNat) default)).bind fun r58 => bf (!(decide (r58 < 0))) (some (.next ((IntKind.i64.wrap ((IntKind.i64.wrap (shrOp .u64 (IntKind.u64.wrap (IntKind.i64.wrap (a37.1 + a37.2))) 1)) + 1)), a37.2))) (some (.next (a37.1, (IntKind.i64.wrap (shrOp .u64 (IntKind.u64.wrap (IntKind.i64.wrap (a37.1 + a37.2))) 1)))))) (some (.brk (a37.1, a37.2)))) fuel (a35.2.2.1, a35.2.2.2)) (fun (a38 : Int × Int) => jn (fun (a39 : Int × (List Update)) => jn (fun (a41 : List Update) => jn (fun (a43 : Bool) => bf a43 ((slices_symMergeCmpFunc_Update__diff_Compare_w fuel a35.1 a39.1 p3 a41).bind fun r45 => some r45) (some a41)) fun j44 => bf (decide (a35.1 < a39.1)) (j44 (decide (a39.1 < p3))) (j44 false)) fun j42 => jn (fun (a46 : Bool) => bf a46 ((slices_symMergeCmpFunc_Update__diff_Compare_w fuel p1 a38.1 a35.1 a39.2).bind fun r48 => need (r48.length = a39.2.length) <| j42 r48) (j42 a39.2)) fun j47 => bf (decide (p1 < a38.1)) (j47 (decide (a38.1 < a35.1))) (j47 false)) fun j40 => jn (fun (a50 : Int × Bool) => bf a50.2 ((slices_rotateCmpFunc_Update__diff_Compare_w fuel a38.1 p2 a50.1 l0).bind fun r52 => need (r52.length = l0.length) <| j40 (a50.1, r52)) (j40 (a50.1, l0))) fun j51 => bf (decide (a38.1 < p2)) (j51 ((IntKind.i64.wrap (a35.2.1 - a38.1)), (decide (p2 < (IntKind.i64.wrap (a35.2.1 - a38.1)))))) (j51 ((IntKind.i64.wrap (a35.2.1 - a38.1)), false))) (fun (x : Empty) => x.elim)) fun j36 => bf (decide ((IntKind.i64.wrap (shrOp .u64 (IntKind.u64.wrap (IntKind.i64.wrap (p1 + p3))) 1)) < p2)) (j36 ((IntKind.i64.wrap (shrOp .u64 (IntKind.u64.wrap (IntKind.i64.wrap (p1 + p3))) 1)), (IntKind.i64.wrap ((IntKind.i64.wrap (shrOp .u64 (IntKind.u64.wrap (IntKind.i64.wrap (p1 + p3))) 1)) + p2)), (IntKind.i64.wrap ((IntKind.i64.wrap ((IntKind.i64.wrap (shrOp .u64 (IntKind.u64.wrap (IntKind.i64.wrap (p1 + p3))) 1)) + p2)) - p3)), (IntKind.i64.wrap (shrOp .u64 (IntKind.u64.wrap (IntKind.i64.wrap (p1 + p3))) 1)))) (j36 ((IntKind.i64.wrap (shrOp .u64 (IntKind.u64.wrap (IntKind.i64.wrap (p1 + p3))) 1)), (IntKind.i64.wrap ((IntKind.i64.wrap (shrOp .u64 (IntKind.u64.wrap (IntKind.i64.wrap (p1 + p3))) 1)) + p2)), p1, p2))))
def slices_stableCmpFunc_Update__diff_Compare_w (fuel : Nat) (p1 : Int) (l0 : List Update) : Option (List Update) :=
  outK (loopN (S := Int × Int × (List Update)) (R := Empty) (fun (a1 : Int × Int × (List Update)) => bf (decide (a1.2.1 ≤ p1)) ((slices_insertionSortCmpFunc_Update__diff_Compare_w fuel a1.1 a1.2.1 a1.2.2).bind fun r15 => need (r15.length = a1.2.2.length) <| some (.next (a1.2.1, (IntKind.i64.wrap (a1.2.1 + 20)), r15))) (some (.brk (a1.1, a1.2.1, a1.2.2)))) fuel (0, 20, l0)) (fun (a2 : Int × Int × (List Update)) => (slices_insertionSortCmpFunc_Update__diff_Compare_w fuel a2.1 p1 a2.2.2).bind fun r3 => need (r3.length = a2.2.2.length) <| outK (loopN (S := Int × (List Update)) (R := Empty) (fun (a5 : Int × (List Update)) => bf (decide (a5.1 < p1)) (outK (loopN (S := Int × Int × (List Update)) (R := Empty) (fun (a7 : Int × Int × (List Update)) => bf (decide (a7.2.1 ≤ p1)) ((slices_symMergeCmpFunc_Update__diff_Compare_w fuel a7.1 (IntKind.i64.wrap (a7.1 + a5.1)) a7.2.1 a7.2.2).bind fun r13 => need (r13.length = a7.2.2.length) <| some (.next (a7.2.1, (IntKind.i64.wrap (a7.2.1 + (IntKind.i64.wrap ((2 : Int) * a5.1)))), r13))) (some (.brk (a7.1, a7.2.1, a7.2.2)))) fuel (0, (IntKind.i64.wrap ((2 : Int) * a5.1)), a5.2)) (fun (a8 : Int × Int × (List Update)) => jn (fun (a9 : List Update) => some (.next ((IntKind.i64.wrap (a5.1 * 2)), a9))) fun j10 => bf (decide ((IntKind.i64.wrap (a8.1 + a5.1)) < p1)) ((slices_symMergeCmpFunc_Update__diff_Compare_w fuel a8.1 (IntKind.i64.wrap (a8.1 + a5.1)) p1 a8.2.2).bind fun r11 => need (r11.length = a8.2.2.length) <| j10 r11) (j10 a8.2.2)) (fun (x : Empty) => x.elim)) (some (.brk (a5.1, a5.2)))) fuel (20, r3)) (fun (a6 : Int × (List Update)) => some a6.2) (fun (x : Empty) => x.elim)) (fun (x : Empty) => x.elim)
def slices_SortStableFuncfreshet_api_Update_freshet_api_Update_Update__diff_Compare_w (fuel : Nat) (l0 : List Update) : Option (List Update) :=
  (slices_stableCmpFunc_Update__diff_Compare_w fuel (l0.length : Int) l0).bind fun r1 => some r1
def diff_Consolidate_1 (p0 : Update) : Option Int :=
  some p0.diff
def freshet_diff_tally_add_w (p0 : Nat) (p1 : Int) (l0 : List Line_Update) : Option (List Line_Update) :=
  need (p0 < l0.length) <| (bits_Add64 ((l0.getD p0 default).tally.low) (IntKind.u64.wrap p1) 0).bind fun r2 => need (p0 < l0.length) <| need (p0 < (l0.set p0 (⟨(⟨(l0.getD p0 default).tally.high, r2.1⟩ : Tally), (l0.getD p0 default).of⟩ : Line_Update)).length) <| (bits_Add64 (((l0.set p0 (⟨(⟨(l0.getD p0 default).tally.high, r2.1⟩ : Tally), (l0.getD p0 default).of⟩ : Line_Update)).getD p0 default).tally.high) (IntKind.u64.wrap (shrOp .i64 p1 63)) r2.2).bind fun r5 => need (p0 < (l0.set p0 (⟨(⟨(l0.getD p0 default).tally.high, r2.1⟩ : Tally), (l0.getD p0 default).of⟩ : Line_Update)).length) <| some ((l0.set p0 (⟨(⟨(l0.getD p0 default).tally.high, r2.1⟩ : Tally), (l0.getD p0 default).of⟩ : Line_Update)).set p0 (⟨(⟨r5.1, ((l0.set p0 (⟨(⟨(l0.getD p0 default).tally.high, r2.1⟩ : Tally), (l0.getD p0 default).of⟩ : Line_Update)).getD p0 default).tally.low⟩ : Tally), ((l0.set p0 (⟨(⟨(l0.getD p0 default).tally.high, r2.1⟩ : Tally), (l0.getD p0 default).of⟩ : Line_Update)).getD p0 default).of⟩ : Line_Update))
def freshet_diff_tally_fit_w (l0 : Line_Update) : Option (Int × Int × Line_Update) :=
  bf (!decide (l0.tally.high = (IntKind.u64.wrap (shrOp .i64 (IntKind.i64.wrap l0.tally.low) 63)))) (some (0, 10, l0)) (some ((IntKind.i64.wrap l0.tally.low), 0, l0))
def diff_Consolidate_2 (p0 : Update) (p1 : Int) : Option Update :=
  some (⟨p0.key, p0.row, p0.time, p1⟩ : Update)
def diff_total_Update__diff_Compare__diff_Consolidate_1__diff_Consolidate_2_w (fuel : Nat) (l0 : List Update) : Option ((List Update) × Int × (List Update)) :=
  (slices_SortStableFuncfreshet_api_Update_freshet_api_Update_Update__diff_Compare_w fuel l0).bind fun r1 => need (r1.length = l0.length) <| outK (rangeN (S := List Line_Update) (R := Empty) (fun i3 (a4 : List Line_Update) => need ((0 + i3) < r1.length) <| jn (fun (a14 : List Line_Update) => need ((0 : Int) ≤ (IntKind.i64.wrap ((a14.length : Int) - 1)) ∧ (IntKind.i64.wrap ((a14.length : Int) - 1)) < (a14.length : Int)) <| (diff_Consolidate_1 (r1.getD (0 + i3) default)).bind fun r17 => (freshet_diff_tally_add_w (0 + (IntKind.i64.wrap ((a14.length : Int) - 1)).toNat) r17 a14).bind fun r18 => need (r18.length = a14.length) <| some (.next r18)) fun j15 => jn (fun (a20 : Bool) => bf a20 (need (a4.length + ([(⟨(⟨0, 0⟩ : Tally), (r1.getD (0 + i3) default)⟩ : Line_Update)] : List Line_Update).length ≤ 274877906944) <| j15 (a4 ++ ([(⟨(⟨0, 0⟩ : Tally), (r1.getD (0 + i3) default)⟩ : Line_Update)] : List Line_Update))) (j15 a4)) fun j21 => bf (decide ((a4.length : Int) = 0)) (j21 true) (need ((0 : Int) ≤ (IntKind.i64.wrap ((a4.length : Int) - 1)) ∧ (IntKind.i64.wrap ((a4.length : Int) - 1)) < (a4.length : Int)) <| need ((0 + (IntKind.i64.wrap ((a4.length : Int) - 1)).toNat) < a4.length) <| (diff_Compare ((a4.getD (0 + (IntKind.i64.wrap ((a4.length : Int) - 1)).toNat) default).of) (r1.getD (0 + i3) default)).bind fun r26 => j21 (!decide (r26 = 0)))) r1.length 0 ([] : List Line_Update)) (fun (a5 : List Line_Update) => outK (rangeN (S := List Update) (R := (List Update) × Int × (List Update)) (fun i6 (a7 : List Update) => need ((0 + i6) < a5.length) <| (freshet_diff_tally_fit_w (a5.getD (0 + i6) default)).bind fun r10 => bf (!decide (r10.2.1 = 0)) (some (.ret (([] : List Update), r10.2.1, r1))) (bf (!decide (r10.1 = 0)) ((diff_Consolidate_2 r10.2.2.of r10.1).bind fun r11 => need (a7.length + ([r11] : List Update).length ≤ 274877906944) <| some (.next (a7 ++ ([r11] : List Update)))) (some (.next a7)))) a5.length 0 ([] : List Update)) (fun (a8 : List Update) => some (a8, 0, r1)) (fun x => some x)) (fun (x : Empty) => x.elim)
def slices_Clonefreshet_api_Value_freshet_api_Value_Value (p0 : List Value) : Option (List Value) :=
  need (p0.length ≤ 274877906944) <| some p0
def diff_Own (p0 : List Update) : Option (List Update) :=
  need ((0 : Int) ≤ (p0.length : Int) ∧ (p0.length : Int) ≤ (p0.length : Int) ∧ (p0.length : Int) ≤ (lim : Int)) <| need (p0.length ≤ (List.replicate p0.length ((⟨([] : List Value), ([] : List Value), (⟨0, (0, 0)⟩ : Time), 0⟩ : Update) : Update)).length) <| outK (rangeN (S := List Update) (R := Empty) (fun i3 (a4 : List Update) => need ((0 : Int) ≤ ((i3 : Nat) : Int) ∧ ((i3 : Nat) : Int) < (a4.length : Int)) <| need ((0 + i3) < a4.length) <| (slices_Clonefreshet_api_Value_freshet_api_Value_Value ((a4.getD (0 + i3) default).key)).bind fun r8 => need ((0 : Int) ≤ ((i3 : Nat) : Int) ∧ ((i3 : Nat) : Int) < (a4.length : Int)) <| need ((0 + i3) < a4.length) <| (slices_Clonefreshet_api_Value_freshet_api_Value_Value ((a4.getD (0 + i3) default).row)).bind fun r11 => need ((0 : Int) ≤ ((i3 : Nat) : Int) ∧ ((i3 : Nat) : Int) < (a4.length : Int)) <| need ((0 + i3) < a4.length) <| need ((0 : Int) ≤ ((i3 : Nat) : Int) ∧ ((i3 : Nat) : Int) < (a4.length : Int)) <| need ((0 + i3) < (a4.set (0 + i3) (⟨r8, (a4.getD (0 + i3) default).row, (a4.getD (0 + i3) default).time, (a4.getD (0 + i3) default).diff⟩ : Update)).length) <| some (.next ((a4.set (0 + i3) (⟨r8, (a4.getD (0 + i3) default).row, (a4.getD (0 + i3) default).time, (a4.getD (0 + i3) default).diff⟩ : Update)).set (0 + i3) (⟨((a4.set (0 + i3) (⟨r8, (a4.getD (0 + i3) default).row, (a4.getD (0 + i3) default).time, (a4.getD (0 + i3) default).diff⟩ : Update)).getD (0 + i3) default).key, r11, ((a4.set (0 + i3) (⟨r8, (a4.getD (0 + i3) default).row, (a4.getD (0 + i3) default).time, (a4.getD (0 + i3) default).diff⟩ : Update)).getD (0 + i3) default).time, ((a4.set (0 + i3) (⟨r8, (a4.getD (0 + i3) default).row, (a4.getD (0 + i3) default).time, (a4.getD (0 + i3) default).diff⟩ : Update)).getD (0 + i3) default).diff⟩ : Update)))) ((copyL (List.replicate p0.length ((⟨([] : List Value), ([] : List Value), (⟨0, (0, 0)⟩ : Time), 0⟩ : Update) : Update)) p0).length) 0 (copyL (List.replicate p0.length ((⟨([] : List Value), ([] : List Value), (⟨0, (0, 0)⟩ : Time), 0⟩ : Update) : Update)) p0)) (fun (a5 : List Update) => some a5) (fun (x : Empty) => x.elim)
def diff_Consolidate (fuel : Nat) (p0 : List (List Update)) : Option ((List Update) × Int) :=
  outK (rangeN (S := Unit) (R := (List Update) × Int) (fun i1 (a2 : Unit) => (diff_Check fuel (p0.getD i1 default)).bind fun r7 => bf (!decide (r7 = 0)) (some (.ret (([] : List Update), r7))) (some (.next ()))) p0.length 0 ()) (fun (a3 : Unit) => (slices_Concatfreshet_api_Update_freshet_api_Update_Update p0).bind fun r4 => (diff_total_Update__diff_Compare__diff_Consolidate_1__diff_Consolidate_2_w fuel r4).bind fun r5 => (diff_Own r5.1).bind fun r6 => some (r6, r5.2.1)) (fun x => some x)
def freshetlaw05_row (p0 : Int) : Option (List Value) :=
  some ([(⟨false, p0, (bs [])⟩ : Value)] : List Value)
def moment_greatest (p0 : Int) (p1 : Int) : Option Int :=
  some (if p0 < p1 then p1 else p0)
def moment_fold__greatest (p1 : List Time) : Option Time :=
  outK (rangeN (S := Time) (R := Empty) (fun i1 (a2 : Time) => jn (fun (a4 : Time) => (moment_greatest a4.epoch ((p1.getD i1 default).epoch)).bind fun r6 => outK (rangeN (S := Time) (R := Empty) (fun i7 (a8 : Time) => (match i7 with | 0 => (moment_greatest a8.loop.1 ((p1.getD i1 default).loop.1)).bind fun r10 => some (.next (⟨a8.epoch, (r10, a8.loop.2)⟩ : Time)) | _ => (moment_greatest a8.loop.2 ((p1.getD i1 default).loop.2)).bind fun r11 => some (.next (⟨a8.epoch, (a8.loop.1, r11)⟩ : Time)))) 2 0 (⟨r6, a4.loop⟩ : Time)) (fun (a9 : Time) => some (.next a9)) (fun (x : Empty) => x.elim)) fun j5 => bf (decide (((i1 : Nat) : Int) = 0)) (j5 (p1.getD i1 default)) (j5 a2)) p1.length 0 (⟨0, (0, 0)⟩ : Time)) (fun (a3 : Time) => some a3) (fun (x : Empty) => x.elim)
def moment_Lub (p0 : List Time) : Option Time :=
  (moment_fold__greatest p0).bind fun r1 => some r1
def moment_Ahead (p0 : Time) (p1 : Time) : Option Bool :=
  (moment_Lub ([p0, p1] : List Time)).bind fun r1 => some (eqTime r1 p1)
def diff_added_1 (p0 : Count) (p1 : Count) : Option Int :=
  (value_Rows p0.row p1.row).bind fun r1 => some r1
def slices_insertionSortCmpFunc_Count__diff_added_1_w (fuel : Nat) (p1 : Int) (p2 : Int) (l0 : List Count) : Option (List Count) :=
  outK (loopN (S := Int × (List Count)) (R := Empty) (fun (a1 : Int × (List Count)) => bf (decide (a1.1 < p2)) (outK (loopN (S := Int × (List Count)) (R := Empty) (fun (a3 : Int × (List Count)) => jn (fun (a5 : Bool) => bf a5 (need ((0 : Int) ≤ (IntKind.i64.wrap (a3.1 - 1)) ∧ (IntKind.i64.wrap (a3.1 - 1)) < (a3.2.length : Int)) <| need ((0 + (IntKind.i64.wrap (a3.1 - 1)).toNat) < a3.2.length) <| need ((0 : Int) ≤ a3.1 ∧ a3.1 < (a3.2.length : Int)) <| need ((0 + a3.1.toNat) < a3.2.length) <| need ((0 : Int) ≤ a3.1 ∧ a3.1 < (a3.2.length : Int)) <| need ((0 + a3.1.toNat) < a3.2.length) <| need ((0 : Int) ≤ (IntKind.i64.wrap (a3.1 - 1)) ∧ (IntKind.i64.wrap (a3.1 - 1)) < (a3.2.length : Int)) <| need ((0 + (IntKind.i64.wrap (a3.1 - 1)).toNat) < (a3.2.set (0 + a3.1.toNat) (a3.2.getD (0 + (IntKind.i64.wrap (a3.1 - 1)).toNat) default)).length) <| some (.next ((IntKind.i64.wrap (a3.1 - 1)), ((a3.2.set (0 + a3.1.toNat) (a3.2.getD (0 + (IntKind.i64.wrap (a3.1 - 1)).toNat) default)).set (0 + (IntKind.i64.wrap (a3.1 - 1)).toNat) (a3.2.getD (0 + a3.1.toNat) default))))) (some (.brk (a3.1, a3.2)))) fun j6 => bf (decide (p1 < a3.1)) (need ((0 : Int) ≤ a3.1 ∧ a3.1 < (a3.2.length : Int)) <| need ((0 + a3.1.toNat) < a3.2.length) <| need ((0 : Int) ≤ (IntKind.i64.wrap (a3.1 - 1)) ∧ (IntKind.i64.wrap (a3.1 - 1)) < (a3.2.length : Int)) <| need ((0 + (IntKind.i64.wrap (a3.1 - 1)).toNat) < a3.2.length) <| (diff_added_1 (a3.2.getD (0 + a3.1.toNat) default) (a3.2.getD (0 + (IntKind.i64.wrap (a3.1 - 1)).toNat) default)).bind fun r20 => j6 (decide (r20 < 0))) (j6 false)) fuel (a1.1, a1.2)) (fun (a4 : Int × (List Count)) => some (.next ((IntKind.i64.wrap (a1.1 + 1)), a4.2))) (fun (x : Empty) => x.elim)) (some (.brk (a1.1, a1.2)))) fuel ((IntKind.i64.wrap (p1 + 1)), l0)) (fun (a2 : Int × (List Count)) => some a2.2) (fun (x : Empty) => x.elim)
def slices_swapRangeCmpFunc_Count__diff_added_1_w (fuel : Nat) (p1 : Int) (p2 : Int) (p3 : Int) (l0 : List Count) : Option (List Count) :=
  outK (loopN (S := Int × (List Count)) (R := Empty) (fun (a1 : Int × (List Count)) => bf (decide (a1.1 < p3)) (need ((0 : Int) ≤ (IntKind.i64.wrap (p2 + a1.1)) ∧ (IntKind.i64.wrap (p2 + a1.1)) < (a1.2.length : Int)) <| need ((0 + (IntKind.i64.wrap (p2 + a1.1)).toNat) < a1.2.length) <| need ((0 : Int) ≤ (IntKind.i64.wrap (p1 + a1.1)) ∧ (IntKind.i64.wrap (p1 + a1.1)) < (a1.2.length : Int)) <| need ((0 + (IntKind.i64.wrap (p1 + a1.1)).toNat) < a1.2.length) <| need ((0 : Int) ≤ (IntKind.i64.wrap (p1 + a1.1)) ∧ (IntKind.i64.wrap (p1 + a1.1)) < (a1.2.length : Int)) <| need ((0 + (IntKind.i64.wrap (p1 + a1.1)).toNat) < a1.2.length) <| need ((0 : Int) ≤ (IntKind.i64.wrap (p2 + a1.1)) ∧ (IntKind.i64.wrap (p2 + a1.1)) < (a1.2.length : Int)) <| need ((0 + (IntKind.i64.wrap (p2 + a1.1)).toNat) < (a1.2.set (0 + (IntKind.i64.wrap (p1 + a1.1)).toNat) (a1.2.getD (0 + (IntKind.i64.wrap (p2 + a1.1)).toNat) default)).length) <| some (.next ((IntKind.i64.wrap (a1.1 + 1)), ((a1.2.set (0 + (IntKind.i64.wrap (p1 + a1.1)).toNat) (a1.2.getD (0 + (IntKind.i64.wrap (p2 + a1.1)).toNat) default)).set (0 + (IntKind.i64.wrap (p2 + a1.1)).toNat) (a1.2.getD (0 + (IntKind.i64.wrap (p1 + a1.1)).toNat) default))))) (some (.brk (a1.1, a1.2)))) fuel (0, l0)) (fun (a2 : Int × (List Count)) => some a2.2) (fun (x : Empty) => x.elim)
def slices_rotateCmpFunc_Count__diff_added_1_w (fuel : Nat) (p1 : Int) (p2 : Int) (p3 : Int) (l0 : List Count) : Option (List Count) :=
  outK (loopN (S := Int × Int × (List Count)) (R := Empty) (fun (a1 : Int × Int × (List Count)) => bf (!decide (a1.1 = a1.2.1)) (bf (decide (a1.2.1 < a1.1)) ((slices_swapRangeCmpFunc_Count__diff_added_1_w fuel (IntKind.i64.wrap (p2 - a1.1)) p2 a1.2.1 a1.2.2).bind fun r4 => need (r4.length = a1.2.2.length) <| some (.next ((IntKind.i64.wrap (a1.1 - a1.2.1)), a1.2.1, r4))) ((slices_swapRangeCmpFunc_Count__diff_added_1_w fuel (IntKind.i64.wrap (p2 - a1.1)) (IntKind.i64.wrap ((IntKind.i64.wrap (p2 + a1.2.1)) - a1.1)) a1.1 a1.2.2).bind fun r6 => need (r6.length = a1.2.2.length) <| some (.next (a1.1, (IntKind.i64.wrap (a1.2.1 - a1.1)), r6)))) (some (.brk (a1.1, a1.2.1, a1.2.2)))) fuel ((IntKind.i64.wrap (p2 - p1)), (IntKind.i64.wrap (p3 - p2)), l0)) (fun (a2 : Int × Int × (List Count)) => (slices_swapRangeCmpFunc_Count__diff_added_1_w fuel (IntKind.i64.wrap (p2 - a2.1)) p2 a2.1 a2.2.2).bind fun r3 => some r3) (fun (x : Empty) => x.elim)
def slices_symMergeCmpFunc_Count__diff_added_1_w : Nat → Int → Int → Int → (List Count) → Option (List Count)
  | 0, _, _, _, _ => none
  | fuel + 1, p1, p2, p3, l0 =>
  bf (decide ((IntKind.i64.wrap (p2 - p1)) = 1)) (outK (loopN (S := Int × Int) (R := Empty) (fun (a1 : Int × Int) => bf (decide (a1.1 < a1.2)) (need ((0 : Int) ≤ (IntKind.i64.wrap (shrOp .u64 (IntKind.u64.wrap (IntKind.i64.wrap (a1.1 + a1.2))) 1)) ∧ (IntKind.i64.wrap (shrOp .u64 (IntKind.u64.wrap (IntKind.i64.wrap (a1.1 + a1.2))) 1)) < (l0.length : Int)) <| need ((0 + (IntKind.i64.wrap (shrOp .u64 (IntKind.u64.wrap (IntKind.i64.wrap (a1.1 + a1.2))) 1)).toNat) < l0.length) <| need ((0 : Int) ≤ p1 ∧ p1 < (l0.length : Int)) <| need ((0 + p1.toNat) < l0.length) <| (diff_added_1 (l0.getD (0 + (IntKind.i64.wrap (shrOp .u64 (IntKind.u64.wrap (IntKind.i64.wrap (a1.1 + a1.2))) 1)).toNat) default) (l0.getD (0 + p1.toNat) default)).bind fun r17 => bf (decide (r17 < 0)) (some (.next ((IntKind.i64.wrap ((IntKind.i64.wrap (shrOp .u64 (IntKind.u64.wrap (IntKind.i64.wrap (a1.1 + a1.2))) 1)) + 1)), a1.2))) (some (.next (a1.1, (IntKind.i64.wrap (shrOp .u64 (IntKind.u64.wrap (IntKind.i64.wrap (a1.1 + a1.2))) 1)))))) (some (.brk (a1.1, a1.2)))) fuel (p2, p3)) (fun (a2 : Int × Int) => outK (loopN (S := Int × (List Count)) (R := Empty) (fun (a3 : Int × (List Count)) => bf (decide (a3.1 < (IntKind.i64.wrap (a2.1 - 1)))) (need ((0 : Int) ≤ (IntKind.i64.wrap (a3.1 + 1)) ∧ (IntKind.i64.wrap (a3.1 + 1)) < (a3.2.length : Int)) <| need ((0 + (IntKind.i64.wrap (a3.1 + 1)).toNat) < a3.2.length) <| need ((0 : Int) ≤ a3.1 ∧ a3.1 < (a3.2.length : Int)) <| need ((0 + a3.1.toNat) < a3.2.length) <| need ((0 : Int) ≤ a3.1 ∧ a3.1 < (a3.2.length : Int)) <| need ((0 + a3.1.toNat) < a3.2.length) <| need ((0 : Int) ≤ (IntKind.i64.wrap (a3.1 + 1)) ∧ (IntKind.i64.wrap (a3.1 + 1)) < (a3.2.length : Int)) <| need ((0 + (IntKind.i64.wrap (a3.1 + 1)).toNat) < (a3.2.set (0 + a3.1.toNat) (a3.2.getD (0 + (IntKind.i64.wrap (a3.1 + 1)).toNat) default)).length) <| some (.next ((IntKind.i64.wrap (a3.1 + 1)), ((a3.2.set (0 + a3.1.toNat) (a3.2.getD (0 + (IntKind.i64.wrap (a3.1 + 1)).toNat) default)).set (0 + (IntKind.i64.wrap (a3.1 + 1)).toNat) (a3.2.getD (0 + a3.1.toNat) default))))) (some (.brk (a3.1, a3.2)))) fuel (p1, l0)) (fun (a4 : Int × (List Count)) => some a4.2) (fun (x : Empty) => x.elim)) (fun (x : Empty) => x.elim)) (bf (decide ((IntKind.i64.wrap (p3 - p2)) = 1)) (outK (loopN (S := Int × Int) (R := Empty) (fun (a18 : Int × Int) => bf (decide (a18.1 < a18.2)) (need ((0 : Int) ≤ p2 ∧ p2 < (l0.length : Int)) <| need ((0 + p2.toNat) < l0.length) <| need ((0 : Int) ≤ (IntKind.i64.wrap (shrOp .u64 (IntKind.u64.wrap (IntKind.i64.wrap (a18.1 + a18.2))) 1)) ∧ (IntKind.i64.wrap (shrOp .u64 (IntKind.u64.wrap (IntKind.i64.wrap (a18.1 + a18.2))) 1)) < (l0.length : Int)) <| need ((0 + (IntKind.i64.wrap (shrOp .u64 (IntKind.u64.wrap (IntKind.i64.wrap (a18.1 + a18.2))) 1)).toNat) < l0.length) <| (diff_added_1 (l0.getD (0 + p2.toNat) default) (l0.getD (0 + (IntKind.i64.wrap (shrOp .u64 (IntKind.u64.wrap (IntKind.i64.wrap (a18.1 + a18.2))) 1)).toNat) default)).bind fun r34 => bf (!(decide (r34 < 0))) (some (.next ((IntKind.i64.wrap ((IntKind.i64.wrap (shrOp .u64 (IntKind.u64.wrap (IntKind.i64.wrap (a18.1 + a18.2))) 1)) + 1)), a18.2))) (some (.next (a18.1, (IntKind.i64.wrap (shrOp .u64 (IntKind.u64.wrap (IntKind.i64.wrap (a18.1 + a18.2))) 1)))))) (some (.brk (a18.1, a18.2)))) fuel (p1, p2)) (fun (a19 : Int × Int) => outK (loopN (S := Int × (List Count)) (R := Empty) (fun (a20 : Int × (List Count)) => bf (decide (a19.1 < a20.1)) (need ((0 : Int) ≤ (IntKind.i64.wrap (a20.1 - 1)) ∧ (IntKind.i64.wrap (a20.1 - 1)) < (a20.2.length : Int)) <| need ((0 + (IntKind.i64.wrap (a20.1 - 1)).toNat) < a20.2.length) <| need ((0 : Int) ≤ a20.1 ∧ a20.1 < (a20.2.length : Int)) <| need ((0 + a20.1.toNat) < a20.2.length) <| need ((0 : Int) ≤ a20.1 ∧ a20.1 < (a20.2.length : Int)) <| need ((0 + a20.1.toNat) < a20.2.length) <| need ((0 : Int) ≤ (IntKind.i64.wrap (a20.1 - 1)) ∧ (IntKind.i64.wrap (a20.1 - 1)) < (a20.2.length : Int)) <| need ((0 + (IntKind.i64.wrap (a20.1 - 1)).toNat) < (a20.2.set (0 + a20.1.toNat) (a20.2.getD (0 + (IntKind.i64.wrap (a20.1 - 1)).toNat) default)).length) <| some (.next ((IntKind.i64.wrap (a20.1 - 1)), ((a20.2.set (0 + a20.1.toNat) (a20.2.getD (0 + (IntKind.i64.wrap (a20.1 - 1)).toNat) default)).set (0 + (IntKind.i64.wrap (a20.1 - 1)).toNat) (a20.2.getD (0 + a20.1.toNat) default))))) (some (.brk (a20.1, a20.2)))) fuel (p2, l0)) (fun (a21 : Int × (List Count)) => some a21.2) (fun (x : Empty) => x.elim)) (fun (x : Empty) => x.elim)) (jn (fun (a35 : Int × Int × Int × Int) => outK (loopN (S := Int × Int) (R := Empty) (fun (a37 : Int × Int) => bf (decide (a37.1 < a37.2)) (need ((0 : Int) ≤ (IntKind.i64.wrap ((IntKind.i64.wrap (a35.2.1 - 1)) - (IntKind.i64.wrap (shrOp .u64 (IntKind.u64.wrap (IntKind.i64.wrap (a37.1 + a37.2))) 1)))) ∧ (IntKind.i64.wrap ((IntKind.i64.wrap (a35.2.1 - 1)) - (IntKind.i64.wrap (shrOp .u64 (IntKind.u64.wrap (IntKind.i64.wrap (a37.1 + a37.2))) 1)))) < (l0.length : Int)) <| need ((0 + (IntKind.i64.wrap ((IntKind.i64.wrap (a35.2.1 - 1)) - (IntKind.i64.wrap (shrOp .u64 (IntKind.u64.wrap (IntKind.i64.wrap (a37.1 + a37.2))) 1)))).toNat) < l0.length) <| need ((0 : Int) ≤ (IntKind.i64.wrap (shrOp .u64 (IntKind.u64.wrap (IntKind.i64.wrap (a37.1 + a37.2))) 1)) ∧ (IntKind.i64.wrap (shrOp .u64 (IntKind.u64.wrap (IntKind.i64.wrap (a37.1 + a37.2))) 1)) < (l0.length : Int)) <| need ((0 + (IntKind.i64.wrap (shrOp .u64 (IntKind.u64.wrap (IntKind.i64.wrap (a37.1 + a37.2))) 1)).toNat) < l0.length) <| (diff_added_1 (l0.getD (0 + (IntKind.i64.wrap ((IntKind.i64.wrap (a35.2.1 - 1)) - (IntKind.i64.wrap (shrOp .u64 (IntKind.u64.wrap (IntKind.i64.wrap (a37.1 + a37.2))) 1)))).toNat) default) (l0.getD (0 + (IntKind.i64.wrap (shrOp .u64 (IntKind.u64.wrap (IntKind.i64.wrap (a37.1 + a37.2))) 1)).toNat) default)).bind fun r58 => bf (!(decide (r58 < 0))) (some (.next ((IntKind.i64.wrap ((IntKind.i64.wrap (shrOp .u64 (IntKind.u64.wrap (IntKind.i64.wrap (a37.1 + a37.2))) 1)) + 1)), a37.2))) (some (.next (a37.1, (IntKind.i64.wrap (shrOp .u64 (IntKind.u64.wrap (IntKind.i64.wrap (a37.1 + a37.2))) 1)))))) (some (.brk (a37.1, a37.2)))) fuel (a35.2.2.1, a35.2.2.2)) (fun (a38 : Int × Int) => jn (fun (a39 : Int × (List Count)) => jn (fun (a41 : List Count) => jn (fun (a43 : Bool) => bf a43 ((slices_symMergeCmpFunc_Count__diff_added_1_w fuel a35.1 a39.1 p3 a41).bind fun r45 => some r45) (some a41)) fun j44 => bf (decide (a35.1 < a39.1)) (j44 (decide (a39.1 < p3))) (j44 false)) fun j42 => jn (fun (a46 : Bool) => bf a46 ((slices_symMergeCmpFunc_Count__diff_added_1_w fuel p1 a38.1 a35.1 a39.2).bind fun r48 => need (r48.length = a39.2.length) <| j42 r48) (j42 a39.2)) fun j47 => bf (decide (p1 < a38.1)) (j47 (decide (a38.1 < a35.1))) (j47 false)) fun j40 => jn (fun (a50 : Int × Bool) => bf a50.2 ((slices_rotateCmpFunc_Count__diff_added_1_w fuel a38.1 p2 a50.1 l0).bind fun r52 => need (r52.length = l0.length) <| j40 (a50.1, r52)) (j40 (a50.1, l0))) fun j51 => bf (decide (a38.1 < p2)) (j51 ((IntKind.i64.wrap (a35.2.1 - a38.1)), (decide (p2 < (IntKind.i64.wrap (a35.2.1 - a38.1)))))) (j51 ((IntKind.i64.wrap (a35.2.1 - a38.1)), false))) (fun (x : Empty) => x.elim)) fun j36 => bf (decide ((IntKind.i64.wrap (shrOp .u64 (IntKind.u64.wrap (IntKind.i64.wrap (p1 + p3))) 1)) < p2)) (j36 ((IntKind.i64.wrap (shrOp .u64 (IntKind.u64.wrap (IntKind.i64.wrap (p1 + p3))) 1)), (IntKind.i64.wrap ((IntKind.i64.wrap (shrOp .u64 (IntKind.u64.wrap (IntKind.i64.wrap (p1 + p3))) 1)) + p2)), (IntKind.i64.wrap ((IntKind.i64.wrap ((IntKind.i64.wrap (shrOp .u64 (IntKind.u64.wrap (IntKind.i64.wrap (p1 + p3))) 1)) + p2)) - p3)), (IntKind.i64.wrap (shrOp .u64 (IntKind.u64.wrap (IntKind.i64.wrap (p1 + p3))) 1)))) (j36 ((IntKind.i64.wrap (shrOp .u64 (IntKind.u64.wrap (IntKind.i64.wrap (p1 + p3))) 1)), (IntKind.i64.wrap ((IntKind.i64.wrap (shrOp .u64 (IntKind.u64.wrap (IntKind.i64.wrap (p1 + p3))) 1)) + p2)), p1, p2))))
def slices_stableCmpFunc_Count__diff_added_1_w (fuel : Nat) (p1 : Int) (l0 : List Count) : Option (List Count) :=
  outK (loopN (S := Int × Int × (List Count)) (R := Empty) (fun (a1 : Int × Int × (List Count)) => bf (decide (a1.2.1 ≤ p1)) ((slices_insertionSortCmpFunc_Count__diff_added_1_w fuel a1.1 a1.2.1 a1.2.2).bind fun r15 => need (r15.length = a1.2.2.length) <| some (.next (a1.2.1, (IntKind.i64.wrap (a1.2.1 + 20)), r15))) (some (.brk (a1.1, a1.2.1, a1.2.2)))) fuel (0, 20, l0)) (fun (a2 : Int × Int × (List Count)) => (slices_insertionSortCmpFunc_Count__diff_added_1_w fuel a2.1 p1 a2.2.2).bind fun r3 => need (r3.length = a2.2.2.length) <| outK (loopN (S := Int × (List Count)) (R := Empty) (fun (a5 : Int × (List Count)) => bf (decide (a5.1 < p1)) (outK (loopN (S := Int × Int × (List Count)) (R := Empty) (fun (a7 : Int × Int × (List Count)) => bf (decide (a7.2.1 ≤ p1)) ((slices_symMergeCmpFunc_Count__diff_added_1_w fuel a7.1 (IntKind.i64.wrap (a7.1 + a5.1)) a7.2.1 a7.2.2).bind fun r13 => need (r13.length = a7.2.2.length) <| some (.next (a7.2.1, (IntKind.i64.wrap (a7.2.1 + (IntKind.i64.wrap ((2 : Int) * a5.1)))), r13))) (some (.brk (a7.1, a7.2.1, a7.2.2)))) fuel (0, (IntKind.i64.wrap ((2 : Int) * a5.1)), a5.2)) (fun (a8 : Int × Int × (List Count)) => jn (fun (a9 : List Count) => some (.next ((IntKind.i64.wrap (a5.1 * 2)), a9))) fun j10 => bf (decide ((IntKind.i64.wrap (a8.1 + a5.1)) < p1)) ((slices_symMergeCmpFunc_Count__diff_added_1_w fuel a8.1 (IntKind.i64.wrap (a8.1 + a5.1)) p1 a8.2.2).bind fun r11 => need (r11.length = a8.2.2.length) <| j10 r11) (j10 a8.2.2)) (fun (x : Empty) => x.elim)) (some (.brk (a5.1, a5.2)))) fuel (20, r3)) (fun (a6 : Int × (List Count)) => some a6.2) (fun (x : Empty) => x.elim)) (fun (x : Empty) => x.elim)
def slices_SortStableFuncfreshet_api_Count_freshet_api_Count_Count__diff_added_1_w (fuel : Nat) (l0 : List Count) : Option (List Count) :=
  (slices_stableCmpFunc_Count__diff_added_1_w fuel (l0.length : Int) l0).bind fun r1 => some r1
def diff_added_2 (p0 : Count) : Option Int :=
  some p0.n
def freshet_diff_tally_add_w1 (p0 : Nat) (p1 : Int) (l0 : List Line_Count) : Option (List Line_Count) :=
  need (p0 < l0.length) <| (bits_Add64 ((l0.getD p0 default).tally.low) (IntKind.u64.wrap p1) 0).bind fun r2 => need (p0 < l0.length) <| need (p0 < (l0.set p0 (⟨(⟨(l0.getD p0 default).tally.high, r2.1⟩ : Tally), (l0.getD p0 default).of⟩ : Line_Count)).length) <| (bits_Add64 (((l0.set p0 (⟨(⟨(l0.getD p0 default).tally.high, r2.1⟩ : Tally), (l0.getD p0 default).of⟩ : Line_Count)).getD p0 default).tally.high) (IntKind.u64.wrap (shrOp .i64 p1 63)) r2.2).bind fun r5 => need (p0 < (l0.set p0 (⟨(⟨(l0.getD p0 default).tally.high, r2.1⟩ : Tally), (l0.getD p0 default).of⟩ : Line_Count)).length) <| some ((l0.set p0 (⟨(⟨(l0.getD p0 default).tally.high, r2.1⟩ : Tally), (l0.getD p0 default).of⟩ : Line_Count)).set p0 (⟨(⟨r5.1, ((l0.set p0 (⟨(⟨(l0.getD p0 default).tally.high, r2.1⟩ : Tally), (l0.getD p0 default).of⟩ : Line_Count)).getD p0 default).tally.low⟩ : Tally), ((l0.set p0 (⟨(⟨(l0.getD p0 default).tally.high, r2.1⟩ : Tally), (l0.getD p0 default).of⟩ : Line_Count)).getD p0 default).of⟩ : Line_Count))
def freshet_diff_tally_fit_w1 (l0 : Line_Count) : Option (Int × Int × Line_Count) :=
  bf (!decide (l0.tally.high = (IntKind.u64.wrap (shrOp .i64 (IntKind.i64.wrap l0.tally.low) 63)))) (some (0, 10, l0)) (some ((IntKind.i64.wrap l0.tally.low), 0, l0))
def diff_added_3 (p0 : Count) (p1 : Int) : Option Count :=
  (slices_Clonefreshet_api_Value_freshet_api_Value_Value p0.row).bind fun r1 => some (⟨r1, p1⟩ : Count)
def diff_total_Count__diff_added_1__diff_added_2__diff_added_3_w (fuel : Nat) (l0 : List Count) : Option ((List Count) × Int × (List Count)) :=
  (slices_SortStableFuncfreshet_api_Count_freshet_api_Count_Count__diff_added_1_w fuel l0).bind fun r1 => need (r1.length = l0.length) <| outK (rangeN (S := List Line_Count) (R := Empty) (fun i3 (a4 : List Line_Count) => need ((0 + i3) < r1.length) <| jn (fun (a14 : List Line_Count) => need ((0 : Int) ≤ (IntKind.i64.wrap ((a14.length : Int) - 1)) ∧ (IntKind.i64.wrap ((a14.length : Int) - 1)) < (a14.length : Int)) <| (diff_added_2 (r1.getD (0 + i3) default)).bind fun r17 => (freshet_diff_tally_add_w1 (0 + (IntKind.i64.wrap ((a14.length : Int) - 1)).toNat) r17 a14).bind fun r18 => need (r18.length = a14.length) <| some (.next r18)) fun j15 => jn (fun (a20 : Bool) => bf a20 (need (a4.length + ([(⟨(⟨0, 0⟩ : Tally), (r1.getD (0 + i3) default)⟩ : Line_Count)] : List Line_Count).length ≤ 274877906944) <| j15 (a4 ++ ([(⟨(⟨0, 0⟩ : Tally), (r1.getD (0 + i3) default)⟩ : Line_Count)] : List Line_Count))) (j15 a4)) fun j21 => bf (decide ((a4.length : Int) = 0)) (j21 true) (need ((0 : Int) ≤ (IntKind.i64.wrap ((a4.length : Int) - 1)) ∧ (IntKind.i64.wrap ((a4.length : Int) - 1)) < (a4.length : Int)) <| need ((0 + (IntKind.i64.wrap ((a4.length : Int) - 1)).toNat) < a4.length) <| (diff_added_1 ((a4.getD (0 + (IntKind.i64.wrap ((a4.length : Int) - 1)).toNat) default).of) (r1.getD (0 + i3) default)).bind fun r26 => j21 (!decide (r26 = 0)))) r1.length 0 ([] : List Line_Count)) (fun (a5 : List Line_Count) => outK (rangeN (S := List Count) (R := (List Count) × Int × (List Count)) (fun i6 (a7 : List Count) => need ((0 + i6) < a5.length) <| (freshet_diff_tally_fit_w1 (a5.getD (0 + i6) default)).bind fun r10 => bf (!decide (r10.2.1 = 0)) (some (.ret (([] : List Count), r10.2.1, r1))) (bf (!decide (r10.1 = 0)) ((diff_added_3 r10.2.2.of r10.1).bind fun r11 => need (a7.length + ([r11] : List Count).length ≤ 274877906944) <| some (.next (a7 ++ ([r11] : List Count)))) (some (.next a7)))) a5.length 0 ([] : List Count)) (fun (a8 : List Count) => some (a8, 0, r1)) (fun x => some x)) (fun (x : Empty) => x.elim)
def diff_added_w (fuel : Nat) (l0 : List Count) : Option ((List Count) × Int × (List Count)) :=
  (diff_total_Count__diff_added_1__diff_added_2__diff_added_3_w fuel l0).bind fun r1 => some (r1.1, r1.2.1, r1.2.2)
def diff_At (fuel : Nat) (p0 : List Update) (p1 : Time) : Option ((List Count) × Int) :=
  (diff_Check fuel p0).bind fun r1 => (moment_Check fuel ([p1] : List Time)).bind fun r2 => (cmp_Or_Errno ([r1, r2] : List Int)).bind fun r3 => bf (!decide (r3 = 0)) (some (([] : List Count), r3)) (outK (rangeN (S := List Count) (R := Empty) (fun i4 (a5 : List Count) => (moment_Ahead ((p0.getD i4 default).time) p1).bind fun r8 => bf r8 (need (a5.length + ([(⟨(p0.getD i4 default).row, (p0.getD i4 default).diff⟩ : Count)] : List Count).length ≤ 274877906944) <| some (.next (a5 ++ ([(⟨(p0.getD i4 default).row, (p0.getD i4 default).diff⟩ : Count)] : List Count)))) (some (.next a5))) p0.length 0 ([] : List Count)) (fun (a6 : List Count) => (diff_added_w fuel a6).bind fun r7 => some (r7.1, r7.2.1)) (fun (x : Empty) => x.elim))
def diff_Even (fuel : Nat) (p0 : List Update) : Option Bool :=
  outK (rangeN (S := Unit) (R := Bool) (fun i1 (a2 : Unit) => jn (fun (a5 : Bool) => bf a5 (some (.ret false)) (some (.next ()))) fun j6 => bf (decide ((p0.getD i1 default).diff = 0)) (j6 true) (bf (decide (0 < ((i1 : Nat) : Int))) (need ((0 : Int) ≤ (IntKind.i64.wrap (((i1 : Nat) : Int) - 1)) ∧ (IntKind.i64.wrap (((i1 : Nat) : Int) - 1)) < (p0.length : Int)) <| (diff_Compare (p0.getD ((IntKind.i64.wrap (((i1 : Nat) : Int) - 1)).toNat) default) (p0.getD i1 default)).bind fun r10 => j6 (decide (0 ≤ r10))) (j6 false))) p0.length 0 ()) (fun (a3 : Unit) => (diff_Check fuel p0).bind fun r4 => some (decide (r4 = 0))) (fun x => some x)
def freshetlaw05_lists (fuel : Nat) : Option Bool :=
  (freshetlaw05_row 2).bind fun r1 => (freshetlaw05_row 1).bind fun r2 => (freshetlaw05_row 2).bind fun r3 => (diff_Consolidate fuel ([([(⟨([] : List Value), r1, (⟨0, (0, 0)⟩ : Time), 2⟩ : Update), (⟨([] : List Value), r2, (⟨0, (0, 0)⟩ : Time), 1⟩ : Update)] : List Update), ([(⟨([] : List Value), r3, (⟨0, (0, 0)⟩ : Time), (-2)⟩ : Update)] : List Update)] : List (List Update))).bind fun r4 => (freshetlaw05_row 1).bind fun r5 => (freshetlaw05_row 1).bind fun r6 => (diff_At fuel ([(⟨([] : List Value), r5, (⟨0, (0, 0)⟩ : Time), 3⟩ : Update), (⟨([] : List Value), r6, (⟨2, (0, 0)⟩ : Time), 4⟩ : Update)] : List Update) (⟨1, (0, 0)⟩ : Time)).bind fun r7 => jn (fun (a8 : Bool) => some a8) fun j9 => bf (decide ((r4.1.length : Int) = 1)) (need ((0 : Int) ≤ 0 ∧ 0 < (r4.1.length : Int)) <| bf (decide ((r4.1.getD 0 default).diff = 1)) (bf (decide (r4.2 = 0)) ((diff_Even fuel r4.1).bind fun r11 => bf r11 (bf (decide ((r7.1.length : Int) = 1)) (need ((0 : Int) ≤ 0 ∧ 0 < (r7.1.length : Int)) <| bf (decide ((r7.1.getD 0 default).n = 3)) (j9 (decide (r7.2 = 0))) (j9 false)) (j9 false)) (j9 false)) (j9 false)) (j9 false)) (j9 false)
def freshetref03_Same (p0 : List Value) (p1 : List Value) : Option Bool :=
  bf (!decide ((p0.length : Int) = (p1.length : Int))) (some false) (outK (rangeN (S := Unit) (R := Bool) (fun i1 (a2 : Unit) => need ((0 : Int) ≤ ((i1 : Nat) : Int) ∧ ((i1 : Nat) : Int) < (p1.length : Int)) <| bf (!(eqValue (p0.getD i1 default) (p1.getD i1 default))) (some (.ret false)) (some (.next ()))) p0.length 0 ()) (fun (a3 : Unit) => some true) (fun x => some x))
def slices_Growfreshet_api_Count_freshet_api_Count_Count (p1 : Int) : Option (List Count) :=
  bf (decide (p1 < 0)) (none) (jn (fun (a1 : List Count) => some a1) fun j2 => bf (decide (0 < (IntKind.i64.wrap (p1 - (IntKind.i64.wrap ((0 : Int) - 0)))))) (need ((0 : Int) < (IntKind.i64.wrap (p1 - (IntKind.i64.wrap ((0 : Int) - 0)))) ∧ (IntKind.i64.wrap (p1 - (IntKind.i64.wrap ((0 : Int) - 0)))) ≤ (lim : Int)) <| need ((0 : Int) ≤ 0 ∧ (0 : Int) ≤ 0 ∧ (0 : Int) ≤ ((List.replicate ((IntKind.i64.wrap (p1 - (IntKind.i64.wrap ((0 : Int) - 0)))).toNat) ((⟨([] : List Value), 0⟩ : Count) : Count)).length : Int)) <| j2 ((List.replicate ((IntKind.i64.wrap (p1 - (IntKind.i64.wrap ((0 : Int) - 0)))).toNat) ((⟨([] : List Value), 0⟩ : Count) : Count)).take 0)) (j2 ([] : List Count)))
def slices_Concatfreshet_api_Count_freshet_api_Count_Count (p0 : List (List Count)) : Option (List Count) :=
  outK (rangeN (S := Int) (R := Empty) (fun i1 (a2 : Int) => bf (decide ((IntKind.i64.wrap (a2 + ((p0.getD i1 default).length : Int))) < 0)) (none) (some (.next (IntKind.i64.wrap (a2 + ((p0.getD i1 default).length : Int)))))) p0.length 0 0) (fun (a3 : Int) => (slices_Growfreshet_api_Count_freshet_api_Count_Count a3).bind fun r4 => outK (rangeN (S := List Count) (R := Empty) (fun i5 (a6 : List Count) => need (a6.length + (p0.getD i5 default).length ≤ 274877906944) <| some (.next (a6 ++ (p0.getD i5 default)))) p0.length 0 r4) (fun (a7 : List Count) => some a7) (fun (x : Empty) => x.elim)) (fun (x : Empty) => x.elim)
def diff_Merge (fuel : Nat) (p0 : List (List Count)) : Option ((List Count) × Int) :=
  (slices_Concatfreshet_api_Count_freshet_api_Count_Count p0).bind fun r1 => outK (rangeN (S := Unit) (R := (List Count) × Int) (fun i2 (a3 : Unit) => need ((0 + i2) < r1.length) <| (value_Check ((r1.getD (0 + i2) default).row)).bind fun r7 => bf (!decide (r7 = 0)) (some (.ret (([] : List Count), r7))) (some (.next ()))) r1.length 0 ()) (fun (a4 : Unit) => (diff_added_w fuel r1).bind fun r5 => some (r5.1, r5.2.1)) (fun x => some x)
def freshetref05_SameCounts (p0 : List Count) (p1 : List Count) : Option Bool :=
  bf (!decide ((p0.length : Int) = (p1.length : Int))) (some false) (outK (rangeN (S := Unit) (R := Bool) (fun i1 (a2 : Unit) => jn (fun (a4 : Bool) => bf a4 (some (.ret false)) (some (.next ()))) fun j5 => need ((0 : Int) ≤ ((i1 : Nat) : Int) ∧ ((i1 : Nat) : Int) < (p1.length : Int)) <| (freshetref03_Same ((p0.getD i1 default).row) ((p1.getD i1 default).row)).bind fun r7 => bf (!r7) (j5 true) (need ((0 : Int) ≤ ((i1 : Nat) : Int) ∧ ((i1 : Nat) : Int) < (p1.length : Int)) <| j5 (!decide ((p0.getD i1 default).n = (p1.getD i1 default).n)))) p0.length 0 ()) (fun (a3 : Unit) => some true) (fun x => some x))
def freshetlaw05_DiffLater (fuel : Nat) (p0 : List Update) (p1 : Time) (p2 : Time) : Option Bool :=
  (freshetlaw05_lists fuel).bind fun r1 => bf (!r1) (some false) (outK (rangeN (S := List Update) (R := Empty) (fun i2 (a3 : List Update) => jn (fun (a14 : Bool) => bf (!a14) (need (a3.length + ([(p0.getD i2 default)] : List Update).length ≤ 274877906944) <| some (.next (a3 ++ ([(p0.getD i2 default)] : List Update)))) (some (.next a3))) fun j15 => bf (decide ((p0.getD i2 default).time.epoch ≤ p1.epoch)) (bf (decide ((p0.getD i2 default).time.loop.1 ≤ p1.loop.1)) (j15 (decide ((p0.getD i2 default).time.loop.2 ≤ p1.loop.2))) (j15 false)) (j15 false)) p0.length 0 ([] : List Update)) (fun (a4 : List Update) => (diff_At fuel p0 p1).bind fun r5 => (diff_At fuel p0 p2).bind fun r6 => (diff_At fuel a4 p2).bind fun r7 => jn (fun (a8 : Bool) => bf a8 (some true) ((diff_Merge fuel ([r5.1, r7.1] : List (List Count))).bind fun r10 => jn (fun (a11 : Bool) => some a11) fun j12 => bf (decide (r10.2 = 0)) ((freshetref05_SameCounts r10.1 r6.1).bind fun r13 => j12 r13) (j12 false))) fun j9 => bf (!decide (r5.2 = 0)) (j9 true) (bf (!decide (r6.2 = 0)) (j9 true) (bf (!decide (r7.2 = 0)) (j9 true) (bf (decide (p2.epoch < p1.epoch)) (j9 true) (bf (decide (p2.loop.1 < p1.loop.1)) (j9 true) (j9 (decide (p2.loop.2 < p1.loop.2)))))))) (fun (x : Empty) => x.elim))
end Go.Av
namespace Go.Av
open Go
set_option linter.unusedVariables false
set_option linter.unusedSimpArgs false
def cmpV (a b : Value) : Int := if a.isText = b.isText then (if a.isText then cmpS a.s b.s else cmpZ a.n b.n) else (if a.isText then 1 else -1)
theorem cmpV_is : IsCmp cmpV where
  vals a b := by
    unfold cmpV
    split
    · split
      · exact cmpS_is.vals _ _
      · exact cmpZ_is.vals _ _
    · split <;> simp
  anti a b := by
    unfold cmpV
    cases a.isText <;> cases b.isText <;> simp
    · exact cmpZ_is.anti _ _
    · exact cmpS_is.anti _ _
  tr a b d := by
    unfold cmpV
    cases a.isText <;> cases b.isText <;> cases d.isText <;> simp
    · exact cmpZ_is.tr _ _ _
    · exact cmpS_is.tr _ _ _
theorem strLe_cmp (a b : ByteArray) : (strLt a b || strEq a b) = decide (cmpS a b ≤ 0) := by
  rw [strLt_cmp, strEq_cmp, Bool.eq_iff_iff]
  simp
  omega
theorem cmpInt_eq (x y : Int) : cmp_Compare_int x y = some (cmpZ x y) := by
  unfold cmp_Compare_int cmp_isNaN_int cmpZ
  simp only [decide_true, Bool.not_true, Option.bind_some, bf_false, bf_decide]
  split <;> (try split) <;> rfl
theorem cmpInt64_eq (x y : Int) : cmp_Compare_int64 x y = some (cmpZ x y) := by
  unfold cmp_Compare_int64 cmp_isNaN_int64 cmpZ
  simp only [decide_true, Bool.not_true, Option.bind_some, bf_false, bf_decide]
  split <;> (try split) <;> rfl
theorem cmpString_eq (x y : ByteArray) : cmp_Compare_string x y = some (cmpS x y) := by
  unfold cmp_Compare_string cmp_isNaN_string
  simp only [strEq_self, Bool.not_true, Option.bind_some, bf_false]
  rw [strLe_cmp, strLt_cmp]
  simp only [bf_not, bf_decide]
  rcases cmpS_is.vals x y with h | h | h <;> simp [h]
theorem valueCompare_eq (a b : Value) : value_Compare a b = some (cmpV a b) := by
  unfold value_Compare value_mark cmpV
  simp only [cmpInt_eq, cmpString_eq, cmpInt64_eq, bf_not]
  cases a.isText <;> cases b.isText <;> simp [cmpInt_eq, cmpZ]
theorem valueRows_eq (a b : List Value) : value_Rows a b = some (cmpL cmpV a b) := by
  unfold value_Rows slices_CompareFuncfreshet_api_Value_freshet_api_Value_freshet_api_Value_freshet_api_Value_Value__value_Compare
  rw [cmpLoop (c := cmpV)]
  · rfl
  · intro i hi
    simp only [valueCompare_eq, Option.bind_some, bf_decide, bf_not, Int.ofNat_le]
    split
    · rfl
    · rw [need_true (by omega)]
  · simp only [bf_decide, Int.ofNat_lt]
    split <;> rfl
def rightV (v : Value) : Bool := if v.isText then decide (v.n = 0) && decide (v.s.size ≤ 64) else strEq v.s (bs [])
def okRow (p : List Value) : Bool := decide (p.length ≤ 8) && p.all rightV
theorem right_eq (v : Value) : value_right v = some (rightV v) := by
  unfold value_right rightV
  have e : ((v.s.size : Int) ≤ 64) ↔ v.s.size ≤ 64 := by omega
  cases v.isText <;> by_cases h : v.n = 0 <;> simp [h, e]
theorem rangeN_any {S R X : Type} [Inhabited X] {B : Nat → S → Option (Ctl S R)} {l : List X} (P : X → Bool) (f : Nat → R) {s : S}
    (hB : ∀ i, i < l.length → B i s = if P (l.getD i default) then some (.ret (f i)) else some (.next s)) :
    (l.any P = false ∧ rangeN B l.length 0 s = some (.done s)) ∨ (l.any P = true ∧ ∃ i, i < l.length ∧ P (l.getD i default) = true ∧ rangeN B l.length 0 s = some (.ret (f i))) := by
  have key : ∀ k i, i + k = l.length → ((l.drop i).any P = false ∧ rangeN B k i s = some (.done s)) ∨ ((l.drop i).any P = true ∧ ∃ j, j < l.length ∧ P (l.getD j default) = true ∧ rangeN B k i s = some (.ret (f j))) := by
    intro k
    induction k with
    | zero => intro i hi; left; rw [List.drop_eq_nil_of_le (by omega : l.length ≤ i)]; exact ⟨rfl, rfl⟩
    | succ k ih =>
      intro i hi
      rw [drop_cons_getD (by omega : i < l.length)]
      simp only [rangeN, hB i (by omega), List.any_cons]
      by_cases h : P (l.getD i default) = true
      · rw [if_pos h]; right; exact ⟨by rw [h]; rfl, i, by omega, h, rfl⟩
      · rw [if_neg h]
        have hf : P (l.getD i default) = false := by simpa using h
        rw [hf, Bool.false_or]
        exact ih (i + 1) (by omega)
  have := key l.length 0 (by omega)
  rwa [List.drop_zero] at this
theorem any_not_right (p : List Value) : (p.any fun v => !rightV v) = !(p.all rightV) := by
  rw [List.any_eq_not_all_not]
  simp
theorem valueCheck_eq (p : List Value) : value_Check p = some (if okRow p then 0 else 4) := by
  unfold value_Check slices_ContainsFuncfreshet_api_Value_freshet_api_Value_Value__value_Check_1 slices_IndexFuncfreshet_api_Value_freshet_api_Value_Value__value_Check_1 value_Check_1 okRow
  simp only [jn_eq, bf_decide, right_eq, Option.bind_some]
  by_cases h : 8 < (p.length : Int)
  · rw [if_pos h, decide_eq_false (by omega : ¬ p.length ≤ 8)]; rfl
  · rw [if_neg h, decide_eq_true (by omega : p.length ≤ 8)]
    rcases rangeN_any (S := Unit) (R := Int) (l := p) (fun v => !rightV v) (fun i => (i : Int)) (s := ()) (B := fun i1 a2 => bf (!rightV (p.getD i1 default)) (some (.ret ((i1 : Nat) : Int))) (some (.next ()))) (fun i hi => by
      cases rightV (p.getD i default) <;> rfl) with ⟨h1, h2⟩ | ⟨h1, i, _, _, h2⟩
    · rw [h2]
      rw [any_not_right] at h1
      have : p.all rightV = true := by simpa using h1
      simp [this]
    · rw [h2]
      rw [any_not_right] at h1
      have : p.all rightV = false := by simpa using h1
      simp [this, Int.natCast_nonneg]
theorem eqValue_iff {a b : Value} : eqValue a b = true ↔ a = b := by
  rcases a with ⟨t, n, s⟩
  rcases b with ⟨t', n', s'⟩
  simp [eqValue, strEq_iff]
theorem same_eq (a b : List Value) : ∃ r, freshetref03_Same a b = some r ∧ (r = true ↔ a = b) := by
  unfold freshetref03_Same
  by_cases hl : a.length = b.length
  · rw [decide_eq_true (by omega : (a.length : Int) = (b.length : Int))]
    simp only [Bool.not_true, bf_false]
    have key : ∀ k i, i + k = a.length → ∃ r, outK (rangeN (S := Unit) (R := Bool) (fun i1 (a2 : Unit) => need ((0 : Int) ≤ ((i1 : Nat) : Int) ∧ ((i1 : Nat) : Int) < (b.length : Int)) <| bf (!(eqValue (a.getD i1 default) (b.getD i1 default))) (some (.ret false)) (some (.next ()))) k i ()) (fun (a3 : Unit) => some true) (fun x => some x) = some r ∧ (r = true ↔ a.drop i = b.drop i) := by
      intro k
      induction k with
      | zero =>
        intro i hi
        refine ⟨true, rfl, ?_⟩
        rw [List.drop_eq_nil_of_le (by omega : a.length ≤ i), List.drop_eq_nil_of_le (by omega : b.length ≤ i)]
        simp
      | succ k ih =>
        intro i hi
        simp only [rangeN]
        rw [need_true (by omega), drop_cons_getD (by omega : i < a.length), drop_cons_getD (by omega : i < b.length)]
        by_cases he : eqValue (a.getD i default) (b.getD i default) = true
        · rw [he]
          obtain ⟨r, h1, h2⟩ := ih (i + 1) (by omega)
          refine ⟨r, h1, ?_⟩
          rw [h2, eqValue_iff.1 he]
          simp
        · have he' : eqValue (a.getD i default) (b.getD i default) = false := by simpa using he
          rw [he']
          refine ⟨false, rfl, ?_⟩
          simp only [Bool.false_eq_true, false_iff, List.cons.injEq, not_and]
          intro h
          exact absurd (eqValue_iff.2 h) he
    obtain ⟨r, h1, h2⟩ := key a.length 0 (by omega)
    exact ⟨r, h1, by simpa using h2⟩
  · rw [decide_eq_false (by omega : ¬ (a.length : Int) = (b.length : Int))]
    exact ⟨false, rfl, by simp; intro h; exact hl (by rw [h])⟩
theorem same_self (a : List Value) : freshetref03_Same a a = some true := by
  obtain ⟨r, h1, h2⟩ := same_eq a a
  rw [h1, h2.2 rfl]
theorem cmpV_zero {a b : Value} (ha : rightV a = true) (hb : rightV b = true) : cmpV a b = 0 ↔ a = b := by
  rcases a with ⟨t, n, s⟩
  rcases b with ⟨t', n', s'⟩
  unfold cmpV rightV at *
  cases t <;> cases t' <;> simp [cmpS_zero, cmpZ_zero, strEq_iff] at *
  · intro _; rw [ha, hb]
  · intro h; omega
theorem cmpRows_zero : ∀ {a b : List Value}, a.all rightV = true → b.all rightV = true → (cmpL cmpV a b = 0 ↔ a = b)
  | [], [], _, _ => by simp [cmpL]
  | [], _ :: _, _, _ => by simp [cmpL]
  | _ :: _, [], _, _ => by simp [cmpL]
  | x :: a, y :: b, ha, hb => by
    simp only [List.all_cons, Bool.and_eq_true] at ha hb
    have h1 := cmpV_zero ha.1 hb.1
    have h2 := cmpRows_zero ha.2 hb.2
    simp only [cmpL, thenC]
    split
    · rename_i h; rw [h2, h1.1 h]; simp
    · rename_i h
      constructor
      · intro g; exact absurd g h
      · intro g; exact absurd (h1.2 (List.cons.inj g).1) h
theorem okRow_all {p : List Value} (h : okRow p = true) : p.all rightV = true ∧ p.length ≤ 8 := by
  unfold okRow at h
  simp only [Bool.and_eq_true, decide_eq_true_eq] at h
  exact ⟨h.2, h.1⟩
end Go.Av
namespace Go.Av
open Go
set_option linter.unusedVariables false
set_option linter.unusedSimpArgs false
def nnTime (t : Time) : Prop := 0 ≤ t.epoch ∧ 0 ≤ t.loop.1 ∧ 0 ≤ t.loop.2
def lub2 (a x : Time) : Time := ⟨if a.epoch < x.epoch then x.epoch else a.epoch, (if a.loop.1 < x.loop.1 then x.loop.1 else a.loop.1, if a.loop.2 < x.loop.2 then x.loop.2 else a.loop.2)⟩
def zeroT : Time := ⟨0, (0, 0)⟩
def lubL (l : List Time) : Time := l.foldl lub2 zeroT
theorem Time.ext' {a b : Time} (h1 : a.epoch = b.epoch) (h2 : a.loop.1 = b.loop.1) (h3 : a.loop.2 = b.loop.2) : a = b := by
  rcases a with ⟨e, l1, l2⟩; rcases b with ⟨e', l1', l2'⟩; simp at h1 h2 h3; simp [h1, h2, h3]
theorem max0 {a : Int} (h : 0 ≤ a) : a = if 0 < a then a else 0 := by
  by_cases h1 : 0 < a
  · rw [if_pos h1]
  · rw [if_neg h1]; omega
theorem foldGreatest_eq {l : List Time} (hl : ∀ x ∈ l, nnTime x) : moment_fold__greatest l = some (lubL l) := by
  unfold moment_fold__greatest
  rw [rangeN_to (lubL l) (fun i a => a = lubL (l.take i)) (fun s h => by rw [h, List.take_length])]
  · rfl
  · intro i a hi ha
    refine ⟨_, ?_, rfl⟩
    rw [take_succ_getD hi]
    have hx := hl _ (getD_mem' hi)
    generalize l.getD i default = x at *
    simp only [lubL, List.foldl_append, List.foldl_cons, List.foldl_nil]
    rw [← lubL, ← ha]
    simp only [jn_eq, rangeN, moment_greatest, Option.bind_some, bf_decide]
    rcases Nat.eq_zero_or_pos i with h0 | h0
    · subst h0
      simp [lubL] at ha
      subst ha
      obtain ⟨x1, x2, x3⟩ := hx
      simp [outK, lub2, zeroT]
      exact ⟨max0 x1, max0 x2, max0 x3⟩
    · rw [if_neg (by omega)]
      simp [outK, lub2]
  · rfl
theorem mx_eq (a b : Int) : (if a < b then b else a) = max a b := by split <;> omega
theorem zero_lub2 {x : Time} (h : nnTime x) : lub2 zeroT x = x := by
  obtain ⟨h1, h2, h3⟩ := h
  simp only [lub2, mx_eq, zeroT]
  refine Time.ext' ?_ ?_ ?_ <;> simp only <;> omega
theorem lubL_two {x y : Time} (hx : nnTime x) : lubL [x, y] = lub2 x y := by
  simp [lubL, zero_lub2 hx]
def leT (a b : Time) : Bool := decide (a.epoch ≤ b.epoch) && (decide (a.loop.1 ≤ b.loop.1) && decide (a.loop.2 ≤ b.loop.2))
theorem ahead_eq {a b : Time} (ha : nnTime a) (hb : nnTime b) : moment_Ahead a b = some (leT a b) := by
  unfold moment_Ahead moment_Lub
  have hl : ∀ x ∈ [a, b], nnTime x := fun x hx => by
    rcases List.mem_cons.1 hx with rfl | hx
    · exact ha
    · rw [List.mem_singleton.1 hx]; exact hb
  rw [foldGreatest_eq hl, lubL_two ha]
  simp only [Option.bind_some, lub2, mx_eq, eqTime, leT, Bool.and_true]
  congr 1
  rw [Bool.eq_iff_iff]
  simp only [Bool.and_eq_true, decide_eq_true_eq]
  omega
def cmpT (a b : Time) : Int :=
  if a.epoch < b.epoch then -1 else if b.epoch < a.epoch then 1 else if a.loop.1 < b.loop.1 then -1 else if b.loop.1 < a.loop.1 then 1 else if a.loop.2 < b.loop.2 then -1 else if b.loop.2 < a.loop.2 then 1 else 0
theorem or2_eq (u v : Int) : cmp_Or_int [u, v] = some (if u = 0 then v else u) := by
  unfold cmp_Or_int
  simp only [List.length_cons, List.length_nil, Nat.zero_add, Nat.reduceAdd, rangeN, bf_decide, bf_not]
  by_cases h1 : u = 0 <;> by_cases h2 : v = 0 <;> simp [outK, h1, h2]
theorem leT_trans {a b c : Time} (h : leT a b = true) (g : leT b c = true) : leT a c = true := by
  simp only [leT, Bool.and_eq_true, decide_eq_true_eq] at *
  omega
theorem leT_iff {a b : Time} : leT a b = true ↔ a.epoch ≤ b.epoch ∧ a.loop.1 ≤ b.loop.1 ∧ a.loop.2 ≤ b.loop.2 := by simp [leT]
theorem orList_eq3 (u v w : Int) : cmp_Or_int [u, v, w] = some (thenC u (thenC v w)) := by
  unfold cmp_Or_int thenC
  simp only [List.length_cons, List.length_nil, Nat.zero_add, Nat.reduceAdd, rangeN, bf_decide, bf_not]
  by_cases h1 : u = 0 <;> by_cases h2 : v = 0 <;> by_cases h3 : w = 0 <;> simp [outK, h1, h2, h3]
theorem orErr3 (u v w : Int) : cmp_Or_Errno [u, v, w] = some (thenC u (thenC v w)) := orList_eq3 u v w
theorem orErr2 (u v : Int) : cmp_Or_Errno [u, v] = some (thenC u v) := or2_eq u v
def okT (t : Time) : Bool := decide (t.epoch ≤ 4611686018427387904) && (decide (t.loop.1 ≤ 4611686018427387904) && decide (t.loop.2 ≤ 4611686018427387904))
theorem max2_eq {fuel : Nat} (hf : 5 < fuel) (a b : Int) : slices_Maxuint64_uint64_uint64 fuel [a, b] = some (if a < b then b else a) := by
  unfold slices_Maxuint64_uint64_uint64
  obtain ⟨f, rfl⟩ : ∃ f, fuel = f + 2 := ⟨fuel - 2, by omega⟩
  have w : IntKind.i64.wrap 2 = 2 := by rw [wrap_small (by omega) (by omega)]
  simp [loopN, outK, need, bf, w]
theorem momentCheck_eq {fuel : Nat} (hf : 5 < fuel) (t : Time) : moment_Check fuel [t] = some (if okT t then 0 else 1) := by
  unfold moment_Check okT
  simp only [List.length_cons, List.length_nil, Nat.zero_add, rangeN, List.getD_cons_zero, max2_eq hf, Option.bind_some, bf_decide, mx_eq]
  by_cases h : 4611686018427387904 < max t.epoch (max t.loop.1 t.loop.2)
  · rw [if_pos h]
    simp only [outK]
    rw [if_neg (by simp only [Bool.and_eq_true, decide_eq_true_eq]; omega)]
  · rw [if_neg h]
    simp only [outK]
    rw [if_pos (by simp only [Bool.and_eq_true, decide_eq_true_eq]; omega)]
end Go.Av
namespace Go.Av
open Go
set_option linter.unusedVariables false
set_option linter.unusedSimpArgs false
section
variable {α : Type} {c : α → α → Int}
def sm (c : α → α → Int) : List (α × Int) → α → Int
  | [], _ => 0
  | p :: l, y => (if c y p.1 = 0 then p.2 else 0) + sm c l y
theorem sm_append (l l' : List (α × Int)) (y : α) : sm c (l ++ l') y = sm c l y + sm c l' y := by
  induction l with
  | nil => simp [sm]
  | cons p l ih => simp only [List.cons_append, sm, ih]; omega
theorem sm_perm {l l' : List (α × Int)} (h : l.Perm l') (y : α) : sm c l y = sm c l' y := by
  induction h with
  | nil => rfl
  | cons p _ ih => simp only [sm, ih]
  | swap p q l => simp only [sm]; omega
  | trans _ _ h1 h2 => exact h1.trans h2
theorem sm_class (hC : IsCmp c) {y z : α} (h : c y z = 0) : ∀ l : List (α × Int), sm c l y = sm c l z
  | [] => rfl
  | p :: l => by simp only [sm, sm_class hC h l, hC.eqL p.1 h]
theorem sm_none {y : α} : ∀ {l : List (α × Int)}, (∀ p ∈ l, c y p.1 ≠ 0) → sm c l y = 0
  | [], _ => rfl
  | p :: l, h => by simp only [sm, if_neg (h p (List.mem_cons_self ..)), sm_none fun q hq => h q (List.mem_cons_of_mem _ hq)]; omega
theorem sm_some {y : α} {l : List (α × Int)} (h : sm c l y ≠ 0) : ∃ p ∈ l, c y p.1 = 0 := by
  apply Classical.byContradiction
  intro hn
  exact h (sm_none fun p hp e => hn ⟨p, hp, e⟩)
structure SS (c : α → α → Int) (l S : List (α × Int)) : Prop where
  strict : S.Pairwise fun a b => c a.1 b.1 < 0
  sum : ∀ p ∈ S, p.2 = sm c l p.1
  mem : ∀ p ∈ S, ∃ y ∈ l, y.1 = p.1
  all : ∀ y ∈ l, ∃ p ∈ S, c p.1 y.1 = 0
theorem ss_nil : SS c [] [] := ⟨List.Pairwise.nil, fun p h => (by cases h), fun p h => (by cases h), fun p h => (by cases h)⟩
theorem sm_one (x y : α) (n : Int) : sm c [(x, n)] y = if c y x = 0 then n else 0 := by simp [sm]
theorem ss_new (hC : IsCmp c) {l A B : List (α × Int)} {x : α} {n : Int} (h : SS c l (A ++ B)) (hA : ∀ p ∈ A, c p.1 x < 0) (hB : ∀ p ∈ B, c x p.1 < 0) : SS c (l ++ [(x, n)]) (A ++ (x, n) :: B) := by
  have hne : ∀ p ∈ A ++ B, c p.1 x ≠ 0 := fun p hp => by
    rcases List.mem_append.1 hp with hp | hp
    · have := hA p hp; omega
    · have := hB p hp; have := hC.anti x p.1; omega
  have hs := h.strict
  rw [List.pairwise_append] at hs
  refine ⟨?_, ?_, ?_, ?_⟩
  · rw [List.pairwise_append]
    refine ⟨hs.1, List.pairwise_cons.2 ⟨hB, hs.2.1⟩, fun a ha b hb => ?_⟩
    rcases List.mem_cons.1 hb with rfl | hb
    · exact hA a ha
    · exact hs.2.2 a ha b hb
  · intro p hp
    rw [sm_append, sm_one]
    have hp' : p = (x, n) ∨ p ∈ A ++ B := by
      rcases List.mem_append.1 hp with hp | hp
      · exact .inr (List.mem_append.2 (.inl hp))
      · rcases List.mem_cons.1 hp with hp | hp
        · exact .inl hp
        · exact .inr (List.mem_append.2 (.inr hp))
    rcases hp' with rfl | hp'
    · simp only [hC.refl]
      rw [sm_none fun q hq e => ?_]
      · simp
      · obtain ⟨p, hp, e2⟩ := h.all q hq
        exact hne p hp (by rw [hC.eqL x e2]; exact hC.symm0 e)
    · rw [if_neg (hne p hp'), ← h.sum p hp']
      omega
  · intro p hp
    rcases List.mem_append.1 hp with hp | hp
    · obtain ⟨y, h1, h2⟩ := h.mem p (List.mem_append.2 (.inl hp))
      exact ⟨y, List.mem_append.2 (.inl h1), h2⟩
    · rcases List.mem_cons.1 hp with rfl | hp
      · exact ⟨(x, n), List.mem_append.2 (.inr (List.mem_singleton.2 rfl)), rfl⟩
      · obtain ⟨y, h1, h2⟩ := h.mem p (List.mem_append.2 (.inr hp))
        exact ⟨y, List.mem_append.2 (.inl h1), h2⟩
  · intro y hy
    rcases List.mem_append.1 hy with hy | hy
    · obtain ⟨p, h1, h2⟩ := h.all y hy
      refine ⟨p, ?_, h2⟩
      rcases List.mem_append.1 h1 with h1 | h1
      · exact List.mem_append.2 (.inl h1)
      · exact List.mem_append.2 (.inr (List.mem_cons_of_mem _ h1))
    · rw [List.mem_singleton.1 hy]
      exact ⟨(x, n), List.mem_append.2 (.inr (List.mem_cons_self ..)), hC.refl x⟩
theorem ss_add (hC : IsCmp c) {l A B : List (α × Int)} {x : α} {p : α × Int} {n : Int} (h : SS c l (A ++ p :: B)) (hp : c p.1 x = 0) : SS c (l ++ [(x, n)]) (A ++ (p.1, p.2 + n) :: B) := by
  have hs := h.strict
  rw [List.pairwise_append, List.pairwise_cons] at hs
  have hx := hC.symm0 hp
  have hA : ∀ q ∈ A, c q.1 x ≠ 0 := fun q hq e => by
    have := hs.2.2 q hq p (List.mem_cons_self ..)
    rw [hC.eqR q.1 hp] at this
    omega
  have hB : ∀ q ∈ B, c q.1 x ≠ 0 := fun q hq e => by
    have := hs.2.1.1 q hq
    rw [hC.eqL q.1 hp, hC.symm0 e] at this
    omega
  refine ⟨?_, ?_, ?_, ?_⟩
  · rw [List.pairwise_append, List.pairwise_cons]
    refine ⟨hs.1, ⟨hs.2.1.1, hs.2.1.2⟩, fun a ha b hb => ?_⟩
    rcases List.mem_cons.1 hb with rfl | hb
    · exact hs.2.2 a ha p (List.mem_cons_self ..)
    · exact hs.2.2 a ha b (List.mem_cons_of_mem _ hb)
  · intro q hq
    rw [sm_append, sm_one]
    rcases List.mem_append.1 hq with hq | hq
    · rw [if_neg (hA q hq), h.sum q (List.mem_append.2 (.inl hq))]; omega
    · rcases List.mem_cons.1 hq with rfl | hq
      · simp only
        rw [if_pos hp, h.sum p (List.mem_append.2 (.inr (List.mem_cons_self ..)))]
      · rw [if_neg (hB q hq), h.sum q (List.mem_append.2 (.inr (List.mem_cons_of_mem _ hq)))]; omega
  · intro q hq
    have : ∃ q' ∈ A ++ p :: B, q'.1 = q.1 := by
      rcases List.mem_append.1 hq with hq | hq
      · exact ⟨q, List.mem_append.2 (.inl hq), rfl⟩
      · rcases List.mem_cons.1 hq with rfl | hq
        · exact ⟨p, List.mem_append.2 (.inr (List.mem_cons_self ..)), rfl⟩
        · exact ⟨q, List.mem_append.2 (.inr (List.mem_cons_of_mem _ hq)), rfl⟩
    obtain ⟨q', h1, h2⟩ := this
    obtain ⟨y, h3, h4⟩ := h.mem q' h1
    exact ⟨y, List.mem_append.2 (.inl h3), h4.trans h2⟩
  · intro y hy
    rcases List.mem_append.1 hy with hy | hy
    · obtain ⟨q, h1, h2⟩ := h.all y hy
      rcases List.mem_append.1 h1 with h1 | h1
      · exact ⟨q, List.mem_append.2 (.inl h1), h2⟩
      · rcases List.mem_cons.1 h1 with rfl | h1
        · exact ⟨(q.1, q.2 + n), List.mem_append.2 (.inr (List.mem_cons_self ..)), h2⟩
        · exact ⟨q, List.mem_append.2 (.inr (List.mem_cons_of_mem _ h1)), h2⟩
    · rw [List.mem_singleton.1 hy]
      exact ⟨(p.1, p.2 + n), List.mem_append.2 (.inr (List.mem_cons_self ..)), hp⟩
def Fits (c : α → α → Int) (l : List (α × Int)) : Prop := ∀ y, in64 (sm c l y)
theorem ss_fits (hC : IsCmp c) {l S : List (α × Int)} (h : SS c l S) : Fits c l ↔ ∀ p ∈ S, in64 p.2 := by
  constructor
  · intro hf p hp
    rw [h.sum p hp]; exact hf p.1
  · intro hf y
    by_cases e : sm c l y = 0
    · rw [e]; unfold in64; omega
    · obtain ⟨q, h1, h2⟩ := sm_some e
      obtain ⟨p, h3, h4⟩ := h.all q h1
      have e2 : c p.1 y = 0 := by rw [hC.eqL y h4]; exact hC.symm0 h2
      rw [← sm_class hC e2, ← h.sum p h3]
      exact hf p h3
structure Res (c : α → α → Int) (num : α → Int) (put : α → Int → α) (l : List (α × Int)) (R : List α) : Prop where
  strict : R.Pairwise fun a b => c a b < 0
  sum : ∀ r ∈ R, num r = sm c l r ∧ num r ≠ 0
  mem : ∀ r ∈ R, ∃ y ∈ l, r = put y.1 (num r)
  all : ∀ y ∈ l, sm c l y.1 ≠ 0 → ∃ r ∈ R, c r y.1 = 0
def Tot (c : α → α → Int) (num : α → Int) (put : α → Int → α) (l : List (α × Int)) (R : List α) (e : Int) : Prop := (e = 0 ∧ Res c num put l R ∧ Fits c l) ∨ (e = 10 ∧ R = [] ∧ ¬ Fits c l)
def left0 (put : α → Int → α) (S : List (α × Int)) : List α := (S.filter fun p => !decide (p.2 = 0)).map fun p => put p.1 p.2
theorem res_of (hC : IsCmp c) {num : α → Int} {put : α → Int → α} (h1 : ∀ x n, num (put x n) = n) (h2 : ∀ x n y, c (put x n) y = c x y) {l S : List (α × Int)} (h : SS c l S) : Res c num put l (left0 put S) := by
  have h3 : ∀ x n y, c y (put x n) = c y x := fun x n y => by have := hC.anti y (put x n); have := hC.anti y x; have := h2 x n y; omega
  unfold left0
  refine ⟨?_, ?_, ?_, ?_⟩
  · rw [List.pairwise_map]
    refine List.Pairwise.imp (fun {a b} hab => ?_) (h.strict.filter _)
    rw [h2, h3]; exact hab
  · intro r hr
    obtain ⟨p, hp, rfl⟩ := List.mem_map.1 hr
    obtain ⟨hp, hz⟩ := List.mem_filter.1 hp
    rw [h1]
    refine ⟨?_, by simpa using hz⟩
    rw [sm_class hC (show c (put p.1 p.2) p.1 = 0 by rw [h2]; exact hC.refl _)]
    exact h.sum p hp
  · intro r hr
    obtain ⟨p, hp, rfl⟩ := List.mem_map.1 hr
    obtain ⟨hp, hz⟩ := List.mem_filter.1 hp
    obtain ⟨y, g1, g2⟩ := h.mem p hp
    exact ⟨y, g1, by rw [h1, g2]⟩
  · intro y hy hn
    obtain ⟨p, g1, g2⟩ := h.all y hy
    refine ⟨put p.1 p.2, List.mem_map.2 ⟨p, List.mem_filter.2 ⟨g1, ?_⟩, rfl⟩, by rw [h2]; exact g2⟩
    have := h.sum p g1
    rw [sm_class hC g2] at this
    simp only [Bool.not_eq_eq_eq_not, Bool.not_true, decide_eq_false_iff_not]
    omega
theorem strict_ext (hC : IsCmp c) : ∀ {R R' : List α}, R.Pairwise (fun a b => c a b < 0) → R'.Pairwise (fun a b => c a b < 0) → (∀ x, x ∈ R ↔ x ∈ R') → R = R'
  | [], [], _, _, _ => rfl
  | [], x :: _, _, _, h => by cases (h x).2 (List.mem_cons_self ..)
  | x :: _, [], _, _, h => by cases (h x).1 (List.mem_cons_self ..)
  | a :: R, b :: R', h1, h2, h => by
    rw [List.pairwise_cons] at h1 h2
    have hab : a = b := by
      rcases List.mem_cons.1 ((h a).1 (List.mem_cons_self ..)) with e | e
      · exact e
      · rcases List.mem_cons.1 ((h b).2 (List.mem_cons_self ..)) with e2 | e2
        · exact e2.symm
        · have := h2.1 a e; have := h1.1 b e2; have := hC.anti a b; omega
    subst hab
    have ne1 : a ∉ R := fun g => by have := h1.1 a g; rw [hC.refl] at this; omega
    have ne2 : a ∉ R' := fun g => by have := h2.1 a g; rw [hC.refl] at this; omega
    rw [strict_ext hC h1.2 h2.2 fun x => ?_]
    constructor
    · intro hx
      rcases List.mem_cons.1 ((h x).1 (List.mem_cons_of_mem _ hx)) with rfl | g
      · exact absurd hx ne1
      · exact g
    · intro hx
      rcases List.mem_cons.1 ((h x).2 (List.mem_cons_of_mem _ hx)) with rfl | g
      · exact absurd hx ne2
      · exact g
theorem res_unique (hC : IsCmp c) {num : α → Int} {put : α → Int → α} {l l' : List (α × Int)} {R R' : List α} (h : Res c num put l R) (h' : Res c num put l' R') (hs : ∀ y, sm c l y = sm c l' y)
    (hV : ∀ r ∈ R, ∀ r' ∈ R', c r r' = 0 → num r = num r' → r = r') : R = R' := by
  refine strict_ext hC h.strict h'.strict fun x => ⟨fun hx => ?_, fun hx => ?_⟩
  · obtain ⟨e1, e2⟩ := h.sum x hx
    rw [hs] at e1
    obtain ⟨y, hy, e3⟩ := sm_some (c := c) (l := l') (y := x) (by omega)
    obtain ⟨r, hr, e4⟩ := h'.all y hy (by rw [← sm_class hC e3]; omega)
    have e5 : c x r = 0 := by rw [hC.eqL r e3]; exact hC.symm0 e4
    rw [hV x hx r hr e5 (by rw [(h'.sum r hr).1, ← sm_class hC e5]; exact e1)]
    exact hr
  · obtain ⟨e1, e2⟩ := h'.sum x hx
    rw [← hs] at e1
    obtain ⟨y, hy, e3⟩ := sm_some (c := c) (l := l) (y := x) (by omega)
    obtain ⟨r, hr, e4⟩ := h.all y hy (by rw [← sm_class hC e3]; omega)
    have e5 : c r x = 0 := by rw [hC.eqL x e4]; exact hC.symm0 e3
    rw [← hV r hr x hx e5 (by rw [(h.sum r hr).1, sm_class hC e5]; omega)]
    exact hr
theorem tot_unique (hC : IsCmp c) {num : α → Int} {put : α → Int → α} {l l' : List (α × Int)} {R R' : List α} {e e' : Int} (h : Tot c num put l R e) (h' : Tot c num put l' R' e') (hs : ∀ y, sm c l y = sm c l' y)
    (hV : ∀ r ∈ R, ∀ r' ∈ R', c r r' = 0 → num r = num r' → r = r') : R = R' ∧ e = e' := by
  have hf : Fits c l ↔ Fits c l' := by unfold Fits; simp only [hs]
  rcases h with ⟨rfl, h1, h2⟩ | ⟨rfl, rfl, h2⟩
  · rcases h' with ⟨rfl, g1, g2⟩ | ⟨rfl, rfl, g2⟩
    · exact ⟨res_unique hC h1 g1 hs hV, rfl⟩
    · exact absurd (hf.1 h2) g2
  · rcases h' with ⟨rfl, g1, g2⟩ | ⟨rfl, rfl, g2⟩
    · exact absurd (hf.2 g2) h2
    · exact ⟨rfl, rfl⟩
theorem res_sm (hC : IsCmp c) {num : α → Int} {put : α → Int → α} {l : List (α × Int)} {R : List α} (h : Res c num put l R) (y : α) : sm c (R.map fun r => (r, num r)) y = sm c l y := by
  by_cases e : ∃ r ∈ R, c y r = 0
  · obtain ⟨r, hr, e⟩ := e
    rw [sm_class hC e, sm_class hC e, ← (h.sum r hr).1]
    have hs := h.strict
    clear h e
    induction R with
    | nil => cases hr
    | cons a R ih =>
      rw [List.pairwise_cons] at hs
      simp only [List.map_cons, sm]
      rcases List.mem_cons.1 hr with rfl | hr
      · rw [if_pos (hC.refl _), sm_none fun p hp => ?_]
        · omega
        · obtain ⟨q, hq, rfl⟩ := List.mem_map.1 hp
          have := hs.1 q hq
          simp only
          omega
      · rw [if_neg (by have := hs.1 r hr; have := hC.anti r a; omega), ih hr hs.2]
        omega
  · rw [sm_none fun p hp => ?_]
    · apply Classical.byContradiction
      intro hn
      obtain ⟨q, h1, h2⟩ := sm_some (c := c) (l := l) (y := y) (fun h => hn h.symm)
      obtain ⟨r, h3, h4⟩ := h.all q h1 (by rw [← sm_class hC h2]; exact fun h => hn h.symm)
      exact e ⟨r, h3, by rw [hC.eqL r h2]; exact hC.symm0 h4⟩
    · obtain ⟨q, hq, rfl⟩ := List.mem_map.1 hp
      exact fun h => e ⟨q, hq, h⟩
end
end Go.Av
namespace Go.Av
open Go
set_option linter.unusedVariables false
set_option linter.unusedSimpArgs false
section
variable {α X Y : Type}
inductive R2 (r : X → Y → Prop) : List X → List Y → Prop
  | nil : R2 r [] []
  | cons {x : X} {y : Y} {a : List X} {b : List Y} (h : r x y) (t : R2 r a b) : R2 r (x :: a) (y :: b)
theorem R2.len {r : X → Y → Prop} {a : List X} {b : List Y} (h : R2 r a b) : a.length = b.length := by induction h <;> simp_all
theorem R2.app {r : X → Y → Prop} {a a' : List X} {b b' : List Y} (h : R2 r a b) (h' : R2 r a' b') : R2 r (a ++ a') (b ++ b') := by
  induction h with
  | nil => exact h'
  | cons h _ ih => exact .cons h ih
theorem R2.split {r : X → Y → Prop} : ∀ {b b' : List Y} {a : List X}, R2 r a (b ++ b') → ∃ a1 a2, a = a1 ++ a2 ∧ R2 r a1 b ∧ R2 r a2 b'
  | [], b', a, h => ⟨[], a, rfl, .nil, h⟩
  | y :: b, b', _, h => by
    cases h with
    | cons h t =>
      obtain ⟨a1, a2, rfl, h1, h2⟩ := R2.split t
      exact ⟨_ :: a1, a2, rfl, .cons h h1, h2⟩
theorem R2.get [Inhabited X] [Inhabited Y] {r : X → Y → Prop} {a : List X} {b : List Y} (h : R2 r a b) : ∀ {i : Nat}, i < b.length → r (a.getD i default) (b.getD i default) := by
  induction h with
  | nil => intro i hi; simp at hi
  | cons h _ ih =>
    intro i hi
    cases i with
    | zero => exact h
    | succ i => exact ih (by simpa using hi)
theorem R2.one {r : X → Y → Prop} {x : X} {y : Y} (h : r x y) : R2 r [x] [y] := .cons h .nil
theorem rangeN_P {S R Q : Type} {G : Option Q → Prop} {B : Nat → S → Option (Ctl S R)} {n : Nat} {s : S} {kn : S → Option Q} {kr : R → Option Q} (I : Nat → S → Prop) (D : S → Prop) (J : R → Prop) (h0 : I 0 s) (hD : ∀ s, I n s → D s) (hk : ∀ s, D s → G (kn s)) (hr : ∀ r, J r → G (kr r))
    (hs : ∀ i s, i < n → I i s → (∃ s', B i s = some (.next s') ∧ I (i + 1) s') ∨ (∃ s', B i s = some (.brk s') ∧ D s') ∨ ∃ r, B i s = some (.ret r) ∧ J r) : G (outK (rangeN B n 0 s) kn kr) := by
  rcases rangeN_inv' I D J h0 hs hD with ⟨s', h1, h2⟩ | ⟨r, h1, h2⟩
  · rw [h1]; exact hk s' h2
  · rw [h1]; exact hr r h2
theorem getD_last [Inhabited X] (a : List X) (x : X) : (a ++ [x]).getD a.length default = x := by simp [List.getD_eq_getElem?_getD]
theorem set_mid (a b : List X) (x y : X) : (a ++ x :: b).set a.length y = a ++ y :: b := by simp [List.set_append]
def PR (num : α → Int) (l : List α) : List (α × Int) := l.map fun x => (x, num x)
theorem PR_append (num : α → Int) (l l' : List α) : PR num (l ++ l') = PR num l ++ PR num l' := by simp [PR]
theorem PR_mem {num : α → Int} {l : List α} {p : α × Int} : p ∈ PR num l ↔ ∃ x ∈ l, (x, num x) = p := by simp [PR]
theorem sm_bound {c : α → α → Int} {y : α} : ∀ {l : List (α × Int)}, (∀ p ∈ l, in64 p.2) → -9223372036854775808 * (l.length : Int) ≤ sm c l y ∧ sm c l y ≤ 9223372036854775808 * (l.length : Int)
  | [], _ => by simp [sm]
  | p :: l, h => by
    have h1 := sm_bound (c := c) (y := y) (l := l) fun q hq => h q (List.mem_cons_of_mem _ hq)
    have h2 := h p (List.mem_cons_self ..)
    unfold in64 at h2
    simp only [sm, List.length_cons]
    split <;> omega
theorem tot_perm {c : α → α → Int} {num : α → Int} {put : α → Int → α} {l l' : List (α × Int)} {R : List α} {e : Int} (hp : l.Perm l') (h : Tot c num put l R e) : Tot c num put l' R e := by
  have hs : ∀ y, sm c l y = sm c l' y := sm_perm hp
  rcases h with ⟨h1, h2, h3⟩ | ⟨h1, h2, h3⟩
  · refine .inl ⟨h1, ⟨h2.strict, fun r hr => ?_, fun r hr => ?_, fun y hy hn => ?_⟩, fun y => ?_⟩
    · rw [← hs]; exact h2.sum r hr
    · obtain ⟨y, g1, g2⟩ := h2.mem r hr
      exact ⟨y, hp.mem_iff.1 g1, g2⟩
    · exact h2.all y (hp.mem_iff.2 hy) (by rw [hs]; exact hn)
    · rw [← hs]; exact h3 y
  · refine .inr ⟨h1, h2, fun h => h3 fun y => ?_⟩
    rw [hs]; exact h y
theorem left0_app (put : α → Int → α) (S S' : List (α × Int)) : left0 put (S ++ S') = left0 put S ++ left0 put S' := by simp [left0]
theorem left0_one (put : α → Int → α) (p : α × Int) : left0 put [p] = if p.2 = 0 then [] else [put p.1 p.2] := by
  unfold left0
  by_cases h : p.2 = 0 <;> simp [h]
theorem left0_len (put : α → Int → α) (S : List (α × Int)) : (left0 put S).length ≤ S.length := by
  unfold left0
  rw [List.length_map]
  exact List.length_filter_le _ _
def fit64 (s : Int) : Int × Int := if -9223372036854775808 ≤ s ∧ s < 9223372036854775808 then (s, 0) else (0, 10)
theorem fit64_in {s : Int} (h : in64 s) : fit64 s = (s, 0) := if_pos h
theorem fit64_out {s : Int} (h : ¬ in64 s) : fit64 s = (0, 10) := if_neg h
def repT (t : Tally) (s : Int) : Prop := inU64 t.high ∧ inU64 t.low ∧ (t.high * 18446744073709551616 + t.low - s) % 340282366920938463463374607431768211456 = 0
end
end Go.Av
namespace Go.Av
open Go
set_option linter.unusedVariables false
set_option linter.unusedSimpArgs false
def cU (a b : Update) : Int := thenC (cmpL cmpV a.key b.key) (thenC (cmpL cmpV a.row b.row) (cmpT a.time b.time))
def putUpdate (x : Update) (n : Int) : Update := ⟨x.key, x.row, x.time, n⟩
end Go.Av
namespace Go.Av
open Go
set_option linter.unusedVariables false
set_option linter.unusedSimpArgs false
def cK (a b : Count) : Int := cmpL cmpV a.row b.row
theorem cK_is : IsCmp cK := cmpV_is.list.on fun u : Count => u.row
theorem cmpCount_eq (a b : Count) : diff_added_1 a b = some (cK a b) := by
  unfold diff_added_1 cK
  simp only [valueRows_eq, Option.bind_some]
def putCount (x : Count) (n : Int) : Count := ⟨x.row, n⟩
theorem putFCount {x : Count} {n : Int} (h : x.row.length ≤ 8) : diff_added_3 x n = some (putCount x n) := by
  unfold diff_added_3 slices_Clonefreshet_api_Value_freshet_api_Value_Value
  rw [need_true (by omega)]
  rfl
def relCount (x : Line_Count) (p : Count × Int) : Prop := x.of = p.1 ∧ repT x.tally p.2
theorem addFCount {a : List Line_Count} {x : Line_Count} {p s : Int} (hp : in64 p) (h : repT x.tally s) :
    ∃ t : Tally, freshet_diff_tally_add_w1 a.length p (a ++ [x]) = some (a ++ [(⟨t, x.of⟩ : Line_Count)]) ∧ repT t (s + p) := by
  obtain ⟨hh, hl, hs⟩ := h
  unfold in64 inU64 repT at *
  unfold freshet_diff_tally_add_w1 bits_Add64
  simp only [getD_last, set_mid, List.length_set, List.length_append, List.length_singleton, shr63 hp, wrap_u64]
  rw [need_true (by omega), need_true (by omega)]
  simp only [Option.bind_some]
  rw [need_true (by omega), need_true (by omega), need_true (by split <;> omega)]
  simp only [Option.bind_some]
  rw [need_true (by omega)]
  refine ⟨_, rfl, ?_, ?_, ?_⟩
  · simp only [inU64]; omega
  · simp only [inU64]; omega
  · simp only; split <;> omega
theorem fitFCount {x : Line_Count} {s : Int} (h : repT x.tally s) (hb : -85070591730234615865843651857942052864 ≤ s ∧ s ≤ 85070591730234615865843651857942052864) : freshet_diff_tally_fit_w1 x = some ((fit64 s).1, (fit64 s).2, x) := by
  obtain ⟨hh, hl, hs⟩ := h
  unfold inU64 at *
  have hw : in64 (IntKind.i64.wrap x.tally.low) := by unfold in64; rw [wrap_i64]; split <;> omega
  unfold freshet_diff_tally_fit_w1
  rw [shr63 hw, wrap_u64]
  by_cases h : -9223372036854775808 ≤ s ∧ s < 9223372036854775808
  · rw [fit64_in h]
    have e1 : IntKind.i64.wrap x.tally.low = s := by rw [wrap_i64]; split <;> omega
    rw [e1]
    have e2 : x.tally.high = (if s < 0 then (-1 : Int) else 0) % 18446744073709551616 := by split <;> omega
    rw [decide_eq_true e2]
    rfl
  · rw [fit64_out h]
    have e2 : ¬ x.tally.high = (if IntKind.i64.wrap x.tally.low < 0 then (-1 : Int) else 0) % 18446744073709551616 := by
      rw [wrap_i64]
      split <;> split <;> omega
    rw [decide_eq_false e2]
    rfl
theorem rotCount : slices_rotateCmpFunc_Count__diff_added_1_w = rotG (α := Count) := rfl
theorem insCount : slices_insertionSortCmpFunc_Count__diff_added_1_w = insG (α := Count) diff_added_1 := rfl
theorem symCount : ∀ (fuel : Nat) (a b d : Int) (l : List Count), slices_symMergeCmpFunc_Count__diff_added_1_w fuel a b d l = symG (α := Count) diff_added_1 fuel a b d l
  | 0, _, _, _, _ => rfl
  | fuel + 1, a, b, d, l => by
    unfold slices_symMergeCmpFunc_Count__diff_added_1_w symG
    simp only [rotCount, symCount fuel]
theorem stabCount (fuel : Nat) (n : Int) (l : List Count) : slices_stableCmpFunc_Count__diff_added_1_w fuel n l = stabG (α := Count) diff_added_1 fuel n l := by
  unfold slices_stableCmpFunc_Count__diff_added_1_w stabG
  simp only [insCount, symCount]
theorem totalCount {fuel : Nat} {l : List Count} (hl : ∀ x ∈ l, in64 x.n) (hr : ∀ x ∈ l, x.row.length ≤ 8) (hn : l.length ≤ 4000000) (hf : 20000000 ≤ fuel) :
    ∃ R e l', diff_total_Count__diff_added_1__diff_added_2__diff_added_3_w fuel l = some (R, e, l') ∧ Tot cK (fun x => x.n) putCount (PR (fun x => x.n) l) R e ∧ R.length ≤ l.length := by
  obtain ⟨r1, h1, h2, h3⟩ := stabG_list (c := cK) cmpCount_eq cK_is (fuel := fuel) (l := l) (by omega) (by omega)
  have hlen : r1.length = l.length := h2.length_eq
  unfold diff_total_Count__diff_added_1__diff_added_2__diff_added_3_w slices_SortStableFuncfreshet_api_Count_freshet_api_Count_Count__diff_added_1_w
  rw [stabCount, h1]
  simp only [Option.bind_some]
  rw [need_true hlen]
  suffices hS : ∃ R e, (_ : Option ((List Count) × Int × (List Count))) = some (R, e, r1) ∧ Tot cK (fun x => x.n) putCount (PR (fun x => x.n) r1) R e ∧ R.length ≤ r1.length by
    obtain ⟨R, e, g1, g2, g3⟩ := hS
    refine ⟨R, e, r1, ?_, tot_perm ?_ g2, by omega⟩
    · exact g1
    · exact h2.map _
  have hl1 : ∀ x ∈ r1, in64 x.n := fun x hx => hl x (h2.mem_iff.1 hx)
  have hr1 : ∀ x ∈ r1, x.row.length ≤ 8 := fun x hx => hr x (h2.mem_iff.1 hx)
  refine outK_P (G := fun q => ∃ R e, q = some (R, e, r1) ∧ Tot cK (fun x => x.n) putCount (PR (fun x => x.n) r1) R e ∧ R.length ≤ r1.length) (P := fun a => ∃ S, R2 relCount a S ∧ SS cK (PR (fun x => x.n) r1) S ∧ S.length ≤ r1.length) ?_ ?_
  · have := fun B h => rangeN_inv (R := Empty) (B := B) (n := r1.length) (fun i (a : List Line_Count) => ∃ S, R2 relCount a S ∧ SS cK (PR (fun x => x.n) (r1.take i)) S ∧ S.length ≤ i) (s := ([] : List Line_Count)) ⟨[], .nil, ss_nil, Nat.le_refl _⟩ h
    simp only [List.take_length] at this
    refine this _ ?_
    rintro i a hi ⟨S, k1, k2, k3⟩
    have hx := hl1 _ (getD_mem' hi)
    rw [Nat.zero_add, need_true hi]
    have htk : PR (fun x : Count => x.n) (r1.take (i + 1)) = PR (fun x => x.n) (r1.take i) ++ [(r1.getD i default, (r1.getD i default).n)] := by
      rw [take_succ_getD hi, PR_append]; rfl
    have hle : ∀ p ∈ S, cK p.1 (r1.getD i default) ≤ 0 := fun p hp => by
      obtain ⟨y, g1, g2⟩ := k2.mem p hp
      obtain ⟨z, g3, g4⟩ := PR_mem.1 g1
      obtain ⟨j, hj, g5⟩ := List.mem_iff_getElem.1 g3
      rw [List.length_take] at hj
      have := h3 j i (by omega) hi
      rw [← g2, ← g4]
      simp only
      rw [← g5, List.getElem_take]
      rw [List.getD_eq_getElem?_getD, List.getElem?_eq_getElem (by omega : j < r1.length)] at this
      exact this
    generalize hxe : r1.getD i default = x at *
    rw [htk]
    clear htk
    let G : Option (Ctl (List Line_Count) Empty) → Prop := fun q => ∃ s', q = some (.next s') ∧ ∃ S, R2 relCount s' S ∧ SS cK (PR (fun x => x.n) (r1.take i) ++ [(x, x.n)]) S ∧ S.length ≤ i + 1
    refine jn_P (G := G) (P := fun b => ∃ (b' : List Line_Count) (y : Line_Count) (S' : List (Count × Int)) (s : Int), b = b' ++ [y] ∧ b.length ≤ i + 1 ∧ R2 relCount b' S' ∧ repT y.tally s ∧ SS cK (PR (fun x => x.n) (r1.take i) ++ [(x, x.n)]) (S' ++ [(y.of, s + x.n)])) ?_ ?_
    · rintro _ ⟨b', y, S', s, rfl, q0, q1, q2, q3⟩
      simp only [List.length_append, List.length_singleton] at q0 ⊢
      rw [wsub1 (by omega) (by omega), need_true (by omega)]
      obtain ⟨t, g1, g2⟩ := addFCount (a := b') (x := y) hx q2
      unfold diff_added_2
      simp only [Option.bind_some, Nat.add_sub_cancel, Nat.zero_add, Int.toNat_natCast]
      rw [g1]
      simp only [Option.bind_some]
      rw [need_true (by simp)]
      refine ⟨_, rfl, _, R2.app q1 (R2.one (show relCount ⟨t, y.of⟩ (y.of, s + x.n) from ⟨rfl, g2⟩)), q3, ?_⟩
      have := q1.len
      simp only [List.length_append, List.length_singleton]
      omega
    · simp only [jn_eq, bf_decide]
      have hlen2 := k1.len
      rcases List.eq_nil_or_concat S with rfl | ⟨A, p, rfl⟩
      · have ha : a = [] := List.eq_nil_of_length_eq_zero hlen2
        subst ha
        rw [if_pos (by simp), bf_true, need_true (by simp)]
        refine ⟨_, ⟨[], _, [], 0, rfl, by simp, .nil, by simp [repT, inU64], ?_⟩, rfl⟩
        have := ss_new (A := []) (B := []) (x := x) (n := x.n) cK_is k2 (fun p hp => by cases hp) (fun p hp => by cases hp)
        simpa using this
      · simp only [List.concat_eq_append] at *
        obtain ⟨a1, a2, rfl, u1, u2⟩ := R2.split k1
        cases u2 with
        | @cons y _ _ _ v t =>
          cases t
          obtain ⟨v1, v2⟩ := v
          have e1 : (a1 ++ [y]).length = a1.length + 1 := by simp
          have e2 := u1.len
          simp only [List.length_append, List.length_singleton] at k3
          rw [if_neg (by omega), e1, wsub1 (by omega) (by omega), need_true (by omega)]
          simp only [Nat.add_sub_cancel, Nat.zero_add, Int.toNat_natCast, getD_last]
          rw [need_true (by omega), cmpCount_eq, v1]
          simp only [Option.bind_some]
          by_cases g : cK p.1 x = 0
          · rw [decide_eq_true g]
            simp only [Bool.not_true, bf_false]
            refine ⟨_, ⟨a1, y, A, p.2, rfl, by omega, u1, v2, ?_⟩, ?_⟩
            · rw [v1]
              exact ss_add cK_is k2 g
            · rw [e1, wsub1 (by omega) (by omega)]
              simp only [Nat.add_sub_cancel, Int.toNat_natCast]
          · rw [decide_eq_false g]
            simp only [Bool.not_false, bf_true]
            rw [need_true (by simp; omega)]
            refine ⟨_, ⟨a1 ++ [y], _, A ++ [p], 0, rfl, by simp; omega, k1, by simp [repT, inU64], ?_⟩, rfl⟩
            have := ss_new (A := A ++ [p]) (B := []) (x := x) (n := x.n) cK_is (by simpa using k2) (fun q hq => by
              have h4 := hle p (by simp)
              have h5 : cK q.1 p.1 ≤ 0 := by
                rcases List.mem_append.1 hq with hq | hq
                · have h6 := k2.strict
                  rw [List.pairwise_append] at h6
                  have := h6.2.2 q hq p (by simp)
                  omega
                · rw [List.mem_singleton.1 hq, cK_is.refl]; omega
              have h7 := cK_is.tr _ _ _ h5 h4
              by_cases h8 : cK q.1 x = 0
              · exfalso
                have h9 : cK x p.1 ≤ 0 := by rw [← cK_is.eqL p.1 h8]; exact h5
                have := cK_is.anti p.1 x
                omega
              · omega) (fun q hq => by cases hq)
            simpa using this
  · rintro a ⟨S, k1, k2, k3⟩
    have hb : ∀ i, i < S.length → -85070591730234615865843651857942052864 ≤ (S.getD i default).2 ∧ (S.getD i default).2 ≤ 85070591730234615865843651857942052864 := fun i hi => by
      rw [k2.sum _ (getD_mem' hi)]
      have := sm_bound (c := cK) (y := (S.getD i default).1) (l := PR (fun x => x.n) r1) (fun p hp => by
        obtain ⟨z, g1, g2⟩ := PR_mem.1 hp
        rw [← g2]; exact hl1 z g1)
      have e : (PR (fun x : Count => x.n) r1).length = r1.length := by simp [PR]
      rw [e] at this
      omega
    have hrow : ∀ i, i < S.length → (S.getD i default).1.row.length ≤ 8 := fun i hi => by
      obtain ⟨y, g1, g2⟩ := k2.mem _ (getD_mem' hi)
      obtain ⟨z, g3, g4⟩ := PR_mem.1 g1
      rw [← g2, ← g4]
      exact hr1 z g3
    have hlen2 := k1.len
    rw [hlen2]
    refine rangeN_P (G := fun q => ∃ R e, q = some (R, e, r1) ∧ Tot cK (fun x => x.n) putCount (PR (fun x => x.n) r1) R e ∧ R.length ≤ r1.length) (fun i (b : List Count) => (∀ j, j < i → in64 (S.getD j default).2) ∧ b = left0 putCount (S.take i)) (fun b => (∀ j, j < S.length → in64 (S.getD j default).2) ∧ b = left0 putCount S) (fun r => r = ([], 10, r1) ∧ ∃ j, j < S.length ∧ ¬ in64 (S.getD j default).2) ⟨fun j hj => by omega, rfl⟩ (fun b hb => by
      rw [List.take_length] at hb; exact hb) ?_ ?_ ?_
    rotate_left 2
    · rintro i b hi ⟨m1, m2⟩
      obtain ⟨v1, v2⟩ := k1.get hi
      rw [Nat.zero_add, need_true hi, fitFCount v2 (hb i hi)]
      simp only [Option.bind_some, bf_not, bf_decide]
      by_cases g : in64 (S.getD i default).2
      · left
        rw [fit64_in g, v1]
        have hput := putFCount (x := (S.getD i default).1) (n := (S.getD i default).2) (hrow i hi)
        have hlb : b.length ≤ i := by
          rw [m2]
          have := left0_len putCount (S.take i)
          rw [List.length_take] at this
          omega
        rw [take_succ_getD hi, left0_app, left0_one, ← m2]
        have m3 : ∀ j, j < i + 1 → in64 (S.getD j default).2 := fun j hj => by
          by_cases e : j = i
          · subst e; exact g
          · exact m1 j (by omega)
        by_cases g2 : (S.getD i default).2 = 0
        · exact ⟨b, by simp only [if_true, if_pos g2], m3, by rw [if_pos g2, List.append_nil]⟩
        · refine ⟨b ++ [putCount (S.getD i default).1 (S.getD i default).2], ?_, m3, by rw [if_neg g2]⟩
          simp only [if_true, if_neg g2, hput, Option.bind_some]
          rw [need_true (by simp; omega)]
      · right; right
        rw [fit64_out g]
        exact ⟨_, rfl, rfl, i, hi, g⟩
    · rintro b ⟨g2, g3⟩
      refine ⟨_, _, rfl, .inl ⟨rfl, ?_, ?_⟩, by rw [g3]; have := left0_len putCount S; omega⟩
      · rw [g3]
        exact res_of (num := fun x => x.n) (put := putCount) cK_is (fun x n => rfl) (fun x n y => rfl) k2
      · rw [ss_fits cK_is k2]
        intro p hp
        obtain ⟨j, hj, e⟩ := List.mem_iff_getElem.1 hp
        have := g2 j hj
        rw [List.getD_eq_getElem?_getD, List.getElem?_eq_getElem hj] at this
        rw [← e]; exact this
    · rintro r ⟨g2, j, g3, g4⟩
      rw [g2]
      refine ⟨_, _, rfl, .inr ⟨rfl, rfl, ?_⟩, Nat.zero_le _⟩
      rw [ss_fits cK_is k2]
      intro h
      exact g4 (h _ (getD_mem' g3))
end Go.Av
namespace Go.Av
open Go
set_option linter.unusedVariables false
set_option linter.unusedSimpArgs false
theorem thenC_z (v : Int) : thenC 0 v = v := rfl
theorem thenC_n {u v : Int} (h : u ≠ 0) : thenC u v = u := if_neg h
theorem rangeN_chk {X : Type} [Inhabited X] {R : Type} {B : Nat → Unit → Option (Ctl Unit R)} {l : List X} (e : X → Int) (f : Int → R) (hB : ∀ i, i < l.length → B i () = if e (l.getD i default) = 0 then some (.next ()) else some (.ret (f (e (l.getD i default))))) :
    rangeN B l.length 0 () = if l.foldr (fun x v => thenC (e x) v) 0 = 0 then some (.done ()) else some (.ret (f (l.foldr (fun x v => thenC (e x) v) 0))) := by
  have key : ∀ k i, i + k = l.length → rangeN B k i () = if (l.drop i).foldr (fun x v => thenC (e x) v) 0 = 0 then some (.done ()) else some (.ret (f ((l.drop i).foldr (fun x v => thenC (e x) v) 0))) := by
    intro k
    induction k with
    | zero =>
      intro i hi
      rw [List.drop_eq_nil_of_le (by omega)]
      rfl
    | succ k ih =>
      intro i hi
      rw [drop_cons_getD (by omega : i < l.length)]
      simp only [rangeN, hB i (by omega), List.foldr_cons]
      by_cases h : e (l.getD i default) = 0
      · simp only [h, if_true, thenC_z]
        exact ih (i + 1) (by omega)
      · simp only [thenC_n h, if_neg h]
  have := key l.length 0 (by omega)
  rwa [List.drop_zero] at this
def errU (u : Update) : Int := thenC (if okRow u.key then 0 else 4) (thenC (if okRow u.row then 0 else 4) (if okT u.time then 0 else 1))
def chkL (l : List Update) : Int := l.foldr (fun u v => thenC (errU u) v) 0
def okU (u : Update) : Prop := okRow u.key = true ∧ okRow u.row = true ∧ okT u.time = true
theorem errU_zero {u : Update} : errU u = 0 ↔ okU u := by
  unfold errU okU thenC
  by_cases h1 : okRow u.key = true <;> by_cases h2 : okRow u.row = true <;> by_cases h3 : okT u.time = true <;> simp [h1, h2, h3]
theorem thenC_zero {u v : Int} : thenC u v = 0 ↔ u = 0 ∧ v = 0 := by unfold thenC; split <;> omega
theorem chkL_zero {l : List Update} : chkL l = 0 ↔ ∀ u ∈ l, okU u := by
  induction l with
  | nil => simp [chkL]
  | cons u l ih =>
    unfold chkL at *
    rw [List.foldr_cons, thenC_zero, errU_zero, ih]
    simp
theorem diffCheck_eq {fuel : Nat} (hf : 5 < fuel) (l : List Update) : diff_Check fuel l = some (chkL l) := by
  unfold diff_Check
  rw [rangeN_chk errU (fun x => x)]
  · show outK (if chkL l = 0 then _ else some (.ret (chkL l))) _ _ = _
    split
    · rename_i h; rw [h]; rfl
    · rfl
  · intro i hi
    rw [valueCheck_eq, valueCheck_eq, momentCheck_eq hf]
    simp only [Option.bind_some, orErr3, bf_not, bf_decide]
    rfl
theorem cK_zero {a b : Count} (ha : okRow a.row = true) (hb : okRow b.row = true) (h : cK a b = 0) (hd : a.n = b.n) : a = b := by
  unfold cK at h
  rw [cmpRows_zero (okRow_all ha).1 (okRow_all hb).1] at h
  rcases a with ⟨r, d⟩; rcases b with ⟨r', d'⟩
  simp only at h hd
  rw [h, hd]
end Go.Av
namespace Go.Av
open Go
set_option linter.unusedVariables false
set_option linter.unusedSimpArgs false
set_option linter.unusedSectionVars false
section
variable {α : Type} [Inhabited α]
def growG (z : α) (p1 : Int) : Option (List α) :=
  bf (decide (p1 < 0)) (none) (jn (fun (a1 : List α) => some a1) fun j2 => bf (decide (0 < (IntKind.i64.wrap (p1 - (IntKind.i64.wrap ((0 : Int) - 0)))))) (need ((0 : Int) < (IntKind.i64.wrap (p1 - (IntKind.i64.wrap ((0 : Int) - 0)))) ∧ (IntKind.i64.wrap (p1 - (IntKind.i64.wrap ((0 : Int) - 0)))) ≤ (lim : Int)) <| need ((0 : Int) ≤ 0 ∧ (0 : Int) ≤ 0 ∧ (0 : Int) ≤ ((List.replicate ((IntKind.i64.wrap (p1 - (IntKind.i64.wrap ((0 : Int) - 0)))).toNat) z).length : Int)) <| j2 ((List.replicate ((IntKind.i64.wrap (p1 - (IntKind.i64.wrap ((0 : Int) - 0)))).toNat) z).take 0)) (j2 ([] : List α)))
def concG (z : α) (p0 : List (List α)) : Option (List α) :=
  outK (rangeN (S := Int) (R := Empty) (fun i1 (a2 : Int) => bf (decide ((IntKind.i64.wrap (a2 + ((p0.getD i1 default).length : Int))) < 0)) (none) (some (.next (IntKind.i64.wrap (a2 + ((p0.getD i1 default).length : Int)))))) p0.length 0 0) (fun (a3 : Int) => (growG z a3).bind fun r4 => outK (rangeN (S := List α) (R := Empty) (fun i5 (a6 : List α) => need (a6.length + (p0.getD i5 default).length ≤ 274877906944) <| some (.next (a6 ++ (p0.getD i5 default)))) p0.length 0 r4) (fun (a7 : List α) => some a7) (fun (x : Empty) => x.elim)) (fun (x : Empty) => x.elim)
theorem take_flat {l : List (List α)} {i : Nat} (h : i < l.length) : (l.take (i + 1)).flatten = (l.take i).flatten ++ l.getD i default := by
  rw [take_succ_getD h]; simp
theorem flat_split {l : List (List α)} {i : Nat} (h : i < l.length) : l.flatten = (l.take i).flatten ++ (l.getD i default ++ (l.drop (i + 1)).flatten) := by
  have e : l = l.take i ++ l.getD i default :: l.drop (i + 1) := by rw [← drop_cons_getD h, List.take_append_drop]
  have e2 := congrArg List.flatten e
  rw [List.flatten_append, List.flatten_cons] at e2
  exact e2
theorem flat_le {l : List (List α)} {i : Nat} (h : i < l.length) : (l.take i).flatten.length + (l.getD i default).length ≤ l.flatten.length := by
  have := congrArg List.length (flat_split h)
  simp only [List.length_append] at this
  omega
theorem growG_eq {z : α} {n : Nat} (hn : n ≤ 4000000) : growG z (n : Int) = some [] := by
  unfold growG
  have e : IntKind.i64.wrap ((n : Int) - IntKind.i64.wrap ((0 : Int) - 0)) = (n : Int) := by
    rw [show IntKind.i64.wrap ((0 : Int) - 0) = 0 by rfl, wrap_small (by omega) (by omega)]; omega
  rw [e]
  simp only [bf_decide, jn_eq]
  rw [if_neg (by omega)]
  split
  · rw [need_true (by simp only [lim]; omega), need_true (by simp)]
    simp
  · rfl
theorem concG_eq {z : α} {p0 : List (List α)} (hn : p0.flatten.length ≤ 4000000) : concG z p0 = some p0.flatten := by
  unfold concG
  have h1 := fun B h => rangeN_to (R := Empty) (B := B) (n := p0.length) (s := (0 : Int)) ((p0.flatten.length : Nat) : Int) (fun i a => a = (((p0.take i).flatten.length : Nat) : Int)) (fun s hs => by rw [hs, List.take_length]) h (by rfl)
  rw [h1]
  · simp only [outK_done, growG_eq hn, Option.bind_some]
    rw [rangeN_to p0.flatten (fun i a => a = (p0.take i).flatten) (fun s hs => by rw [hs, List.take_length])]
    · rfl
    · intro i a hi ha
      refine ⟨_, ?_, rfl⟩
      have := flat_le hi
      rw [need_true (by rw [ha]; omega), ha, take_flat hi]
    · rfl
  · intro i a hi ha
    have := flat_le hi
    refine ⟨_, ?_, rfl⟩
    rw [ha, wadd (by omega), take_flat hi, List.length_append]
    simp only [bf_decide]
    rw [if_neg (by omega)]
end
end Go.Av
namespace Go.Av
open Go
set_option linter.unusedVariables false
set_option linter.unusedSimpArgs false
abbrev pU (l : List Update) : List (Update × Int) := PR (fun x => x.diff) l
abbrev pK (l : List Count) : List (Count × Int) := PR (fun x => x.n) l
abbrev TotU (l : List Update) (R : List Update) (e : Int) : Prop := Tot cU (fun x => x.diff) putUpdate (pU l) R e
abbrev TotK (l : List Count) (R : List Count) (e : Int) : Prop := Tot cK (fun x => x.n) putCount (pK l) R e
theorem tot_memK {l R : List Count} {e : Int} (h : TotK l R e) (ho : ∀ u ∈ l, okRow u.row = true) : ∀ r ∈ R, okRow r.row = true := fun r hr => by
  rcases h with ⟨_, h, _⟩ | ⟨_, rfl, _⟩
  · obtain ⟨y, h1, h2⟩ := h.mem r hr
    obtain ⟨z, h3, h4⟩ := PR_mem.1 h1
    rw [h2, ← h4]
    exact ho z h3
  · cases hr
end Go.Av
namespace Go.Av
open Go
set_option linter.unusedVariables false
set_option linter.unusedSimpArgs false
theorem added_ok {fuel : Nat} {l : List Count} (hf : 20000000 ≤ fuel) (hn : l.length ≤ 4000000) (hd : ∀ u ∈ l, in64 u.n) (ho : ∀ u ∈ l, okRow u.row = true) :
    ∃ R e l', diff_added_w fuel l = some (R, e, l') ∧ TotK l R e ∧ R.length ≤ l.length := by
  unfold diff_added_w
  obtain ⟨R, e, l', h1, h2, h3⟩ := totalCount (fuel := fuel) hd (fun u hu => (okRow_all (ho u hu)).2) hn hf
  rw [h1]
  exact ⟨R, e, l', rfl, h2, h3⟩
def atL (l : List Update) (t : Time) : List Count := (l.filter fun u => leT u.time t).map fun u => ⟨u.row, u.diff⟩
theorem atL_app (l l' : List Update) (t : Time) : atL (l ++ l') t = atL l t ++ atL l' t := by simp [atL]
theorem atL_one (u : Update) (t : Time) : atL [u] t = if leT u.time t = true then [⟨u.row, u.diff⟩] else [] := by
  unfold atL
  by_cases h : leT u.time t = true <;> simp [h]
theorem atL_len (l : List Update) (t : Time) : (atL l t).length ≤ l.length := by
  unfold atL
  rw [List.length_map]
  exact List.length_filter_le _ _
theorem atL_mem {l : List Update} {t : Time} {c : Count} (h : c ∈ atL l t) : ∃ u ∈ l, leT u.time t = true ∧ c = ⟨u.row, u.diff⟩ := by
  unfold atL at h
  obtain ⟨u, h1, h2⟩ := List.mem_map.1 h
  obtain ⟨h3, h4⟩ := List.mem_filter.1 h1
  exact ⟨u, h3, h4, h2.symm⟩
def errA (l : List Update) (t : Time) : Int := thenC (chkL l) (if okT t then 0 else 1)
def AtOk (l : List Update) (t : Time) (R : List Count) (e : Int) : Prop := (errA l t ≠ 0 ∧ R = [] ∧ e = errA l t) ∨ (errA l t = 0 ∧ TotK (atL l t) R e)
theorem atLoop {l : List Update} {t : Time} (hn : l.length ≤ 4000000) {B : Nat → List Count → Option (Ctl (List Count) Empty)} (hB : ∀ i a, i < l.length → B i a = bf (leT (l.getD i default).time t) (need (a.length + ([(⟨(l.getD i default).row, (l.getD i default).diff⟩ : Count)] : List Count).length ≤ 274877906944) <| some (.next (a ++ ([(⟨(l.getD i default).row, (l.getD i default).diff⟩ : Count)] : List Count)))) (some (.next a))) :
    rangeN B l.length 0 [] = some (.done (atL l t)) := by
  refine rangeN_to (atL l t) (fun i a => a = atL (l.take i) t) (fun s hs => by rw [hs, List.take_length]) ?_ rfl
  intro i a hi ha
  rw [hB i a hi, take_succ_getD hi, atL_app, ← ha, atL_one]
  have hl : a.length ≤ i := by
    have := atL_len (l.take i) t
    rw [ha]
    rw [List.length_take] at this
    omega
  by_cases h : leT (l.getD i default).time t = true
  · rw [h, bf_true, need_true (by simp; omega)]
    exact ⟨_, rfl, rfl⟩
  · have h' : leT (l.getD i default).time t = false := by simpa using h
    rw [h', bf_false]
    exact ⟨_, rfl, by simp⟩
theorem errA_zero {l : List Update} {t : Time} : errA l t = 0 ↔ (∀ u ∈ l, okU u) ∧ okT t = true := by
  unfold errA
  rw [thenC_zero, chkL_zero]
  simp
theorem atL_ok {l : List Update} {t : Time} (ho : ∀ u ∈ l, okU u) : ∀ c ∈ atL l t, okRow c.row = true := fun c hc => by
  obtain ⟨u, h1, _, h2⟩ := atL_mem hc
  rw [h2]; exact (ho u h1).2.1
theorem atL_in {l : List Update} {t : Time} (ho : ∀ u ∈ l, in64 u.diff) : ∀ c ∈ atL l t, in64 c.n := fun c hc => by
  obtain ⟨u, h1, _, h2⟩ := atL_mem hc
  rw [h2]; exact ho u h1
theorem at_ok {fuel : Nat} {l : List Update} {t : Time} (hf : 20000000 ≤ fuel) (hn : l.length ≤ 4000000) (hd : ∀ u ∈ l, in64 u.diff) (ht : ∀ u ∈ l, nnTime u.time) (ht' : nnTime t) :
    ∃ R e, diff_At fuel l t = some (R, e) ∧ AtOk l t R e ∧ R.length ≤ l.length := by
  unfold diff_At
  rw [diffCheck_eq (by omega), momentCheck_eq (by omega)]
  simp only [Option.bind_some, orErr2, bf_not, bf_decide]
  show ∃ R e, (if errA l t = 0 then _ else some (([] : List Count), errA l t)) = some (R, e) ∧ AtOk l t R e ∧ R.length ≤ l.length
  by_cases h : errA l t = 0
  · rw [if_pos h]
    obtain ⟨ho, hT⟩ := errA_zero.1 h
    rw [atLoop (t := t) hn]
    · simp only [outK_done]
      have hl := atL_len l t
      obtain ⟨R, e, l', h1, h2, h3⟩ := added_ok (fuel := fuel) hf (by omega) (atL_in (t := t) hd) (atL_ok (t := t) ho)
      rw [h1]
      exact ⟨R, e, rfl, .inr ⟨h, h2⟩, by omega⟩
    · intro i a hi
      rw [ahead_eq (ht _ (getD_mem' hi)) ht']
      rfl
  · rw [if_neg h]
    exact ⟨_, _, rfl, .inl ⟨h, rfl, rfl⟩, Nat.zero_le _⟩
def MergeOk (l : List Count) (R : List Count) (e : Int) : Prop := (¬ (∀ c ∈ l, okRow c.row = true) ∧ R = [] ∧ e = 4) ∨ ((∀ c ∈ l, okRow c.row = true) ∧ TotK l R e)
theorem foldr_rows (l : List Count) : ((∀ c ∈ l, okRow c.row = true) ∧ l.foldr (fun x v => thenC (if okRow x.row then 0 else 4) v) (0 : Int) = 0) ∨ (¬ (∀ c ∈ l, okRow c.row = true) ∧ l.foldr (fun x v => thenC (if okRow x.row then 0 else 4) v) (0 : Int) = 4) := by
  induction l with
  | nil => left; exact ⟨fun c hc => (by cases hc), rfl⟩
  | cons x l ih =>
    rw [List.foldr_cons]
    by_cases h : okRow x.row = true
    · rw [if_pos h, thenC_z]
      simpa [h] using ih
    · right
      rw [if_neg h, thenC_n (by decide)]
      exact ⟨fun g => h (g x (List.mem_cons_self ..)), rfl⟩
theorem merge_ok {fuel : Nat} {ls : List (List Count)} (hf : 20000000 ≤ fuel) (hn : ls.flatten.length ≤ 4000000) (hd : ∀ u ∈ ls.flatten, in64 u.n) :
    ∃ R e, diff_Merge fuel ls = some (R, e) ∧ MergeOk ls.flatten R e := by
  unfold diff_Merge
  rw [show slices_Concatfreshet_api_Count_freshet_api_Count_Count ls = some ls.flatten from concG_eq hn]
  simp only [Option.bind_some]
  rw [rangeN_chk (l := ls.flatten) (fun x : Count => if okRow x.row then 0 else 4) (fun w => (([] : List Count), w))]
  · rcases foldr_rows ls.flatten with ⟨h, e⟩ | ⟨h, e⟩
    · rw [e, if_pos rfl]
      simp only [outK_done]
      obtain ⟨R, e, l', h1, h2, h3⟩ := added_ok (fuel := fuel) hf hn hd h
      rw [h1]
      exact ⟨R, e, rfl, .inr ⟨h, h2⟩⟩
    · rw [e, if_neg (by decide)]
      exact ⟨_, _, rfl, .inl ⟨h, rfl, rfl⟩⟩
  · intro i hi
    rw [Nat.zero_add, need_true hi, valueCheck_eq]
    simp only [Option.bind_some, bf_not, bf_decide]
end Go.Av
namespace Go.Av
open Go
set_option linter.unusedVariables false
set_option linter.unusedSimpArgs false
theorem sameC (l : List Count) : freshetref05_SameCounts l l = some true := by
  unfold freshetref05_SameCounts
  rw [decide_eq_true rfl, Bool.not_true, bf_false]
  rw [rangeN_to () (fun _ _ => True) (fun _ _ => rfl)]
  · rfl
  · intro i a hi ha
    refine ⟨(), ?_, trivial⟩
    simp only [jn_eq, same_self, Option.bind_some, Bool.not_true, bf_false, decide_true]
    rw [need_true (by omega), need_true (by omega)]
  · trivial
theorem tot_uniqueK {l l' R R' : List Count} {e e' : Int} (h : TotK l R e) (h' : TotK l' R' e') (ho : ∀ u ∈ l, okRow u.row = true) (ho' : ∀ u ∈ l', okRow u.row = true) (hs : ∀ y, sm cK (pK l) y = sm cK (pK l') y) : R = R' ∧ e = e' :=
  tot_unique cK_is h h' hs fun r hr r' hr' h1 h2 => cK_zero (tot_memK h ho r hr) (tot_memK h' ho' r' hr') h1 h2
end Go.Av
namespace Go.Av
open Go
theorem lists_eq : freshetlaw05_lists 100000000 = some true := by kernel_rfl
end Go.Av
