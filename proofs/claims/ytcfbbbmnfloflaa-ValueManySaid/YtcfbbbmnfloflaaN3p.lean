import Derived.Test.YtcfbbbmnfloflaaAvY
namespace Go.Av
open Go
set_option linter.unusedVariables false
set_option linter.unusedSimpArgs false

structure Value where
  isText : Bool
  n : Int
  s : ByteArray
  deriving Inhabited

def encValue (x : Value) : List D := [.bool x.isText, .int .i64 x.n, .str x.s]

def eqValue (x y : Value) : Bool := ((x.isText == y.isText) && (decide (x.n = y.n) && (strEq x.s y.s && true)))

def freshetlaw03_num (p0 : Int) : Option Value :=
  some (⟨false, p0, (bs [])⟩ : Value)

def freshetlaw03_text (p0 : ByteArray) : Option Value :=
  some (⟨true, 0, p0⟩ : Value)

def value_mark (p0 : Value) : Option Int :=
  bf p0.isText (some 1) (some 0)

def cmp_isNaN_int (p0 : Int) : Option Bool :=
  some (!decide (p0 = p0))

def cmp_Compare_int (p0 : Int) (p1 : Int) : Option Int :=
  (cmp_isNaN_int p0).bind fun r1 => (cmp_isNaN_int p1).bind fun r2 => bf r1 (bf r2 (some 0) (some (-1))) (bf r2 (some 1) (bf (decide (p0 < p1)) (some (-1)) (bf (decide (p1 < p0)) (some 1) (some 0))))

def cmp_isNaN_string (p0 : ByteArray) : Option Bool :=
  some (!strEq p0 p0)

def cmp_Compare_string (p0 : ByteArray) (p1 : ByteArray) : Option Int :=
  (cmp_isNaN_string p0).bind fun r1 => (cmp_isNaN_string p1).bind fun r2 => bf r1 (bf r2 (some 0) (some (-1))) (bf r2 (some 1) (bf (strLt p0 p1) (some (-1)) (bf (!(strLt p0 p1 || strEq p0 p1)) (some 1) (some 0))))

def cmp_isNaN_int64 (p0 : Int) : Option Bool :=
  some (!decide (p0 = p0))

def cmp_Compare_int64 (p0 : Int) (p1 : Int) : Option Int :=
  (cmp_isNaN_int64 p0).bind fun r1 => (cmp_isNaN_int64 p1).bind fun r2 => bf r1 (bf r2 (some 0) (some (-1))) (bf r2 (some 1) (bf (decide (p0 < p1)) (some (-1)) (bf (decide (p1 < p0)) (some 1) (some 0))))

def value_Compare (p0 : Value) (p1 : Value) : Option Int :=
  bf (!(p0.isText == p1.isText)) ((value_mark p0).bind fun r1 => (value_mark p1).bind fun r2 => (cmp_Compare_int r1 r2).bind fun r3 => some r3) (bf p0.isText ((cmp_Compare_string p0.s p1.s).bind fun r4 => some r4) ((cmp_Compare_int64 p0.n p1.n).bind fun r5 => some r5))

def slices_CompareFuncfreshet_api_Value_freshet_api_Value_freshet_api_Value_freshet_api_Value_Value__value_Compare (p0 : List Value) (p1 : List Value) : Option Int :=
  outK (rangeN (S := Unit) (R := Int) (fun i1 (a2 : Unit) => bf (decide ((p1.length : Int) ≤ ((i1 : Nat) : Int))) (some (.ret 1)) (need ((0 : Int) ≤ ((i1 : Nat) : Int) ∧ ((i1 : Nat) : Int) < (p1.length : Int)) <| (value_Compare (p0.getD i1 default) (p1.getD i1 default)).bind fun r5 => bf (!decide (r5 = 0)) (some (.ret r5)) (some (.next ())))) p0.length 0 ()) (fun (a3 : Unit) => bf (decide ((p0.length : Int) < (p1.length : Int))) (some (-1)) (some 0)) (fun x => some x)

def value_Rows (p0 : List Value) (p1 : List Value) : Option Int :=
  (slices_CompareFuncfreshet_api_Value_freshet_api_Value_freshet_api_Value_freshet_api_Value_Value__value_Compare p0 p1).bind fun r1 => some r1

def freshetlaw03_orders  : Option Bool :=
  jn (fun (a1 : Bool) => some a1) fun j2 => (freshetlaw03_num 5).bind fun r3 => (freshetlaw03_text (bs [])).bind fun r4 => (value_Compare r3 r4).bind fun r5 => bf (decide (r5 = (-1))) ((freshetlaw03_num 1).bind fun r6 => (freshetlaw03_num 1).bind fun r7 => (freshetlaw03_num 0).bind fun r8 => (value_Rows ([r6] : List Value) ([r7, r8] : List Value)).bind fun r9 => bf (decide (r9 = (-1))) ((freshetlaw03_num 2).bind fun r10 => (freshetlaw03_num 1).bind fun r11 => (freshetlaw03_num 9).bind fun r12 => (value_Rows ([r10] : List Value) ([r11, r12] : List Value)).bind fun r13 => j2 (decide (r13 = 1))) (j2 false)) (j2 false)

def freshetlaw03_ValueFirst (p0 : List Value) (p1 : List Value) (p2 : List Value) : Option Bool :=
  (freshetlaw03_orders).bind fun r1 => bf (!r1) (some false) (need (p0.length ≤ 274877906944) <| need (p0.length + p1.length ≤ 274877906944) <| need (p0.length ≤ 274877906944) <| need (p0.length + p2.length ≤ 274877906944) <| (value_Rows (p0 ++ p1) (p0 ++ p2)).bind fun r6 => (value_Rows p1 p2).bind fun r7 => some (decide (r6 = r7)))

def freshetref03_Compare (p0 : Value) (p1 : Value) : Option Int :=
  jn (fun (a1 : Bool × Bool) => jn (fun (a3 : Bool × Bool) => bf a3.1 (some (-1)) (bf a3.2 (some 1) (some 0))) fun j4 => jn (fun (a5 : Bool) => bf a5 (j4 ((strLt p0.s p1.s), (!(strLt p0.s p1.s || strEq p0.s p1.s)))) (jn (fun (a7 : Bool) => bf a7 (j4 ((decide (p0.n < p1.n)), (decide (p1.n < p0.n)))) (j4 (a1.1, a1.2))) fun j8 => bf (!p0.isText) (j8 (!p1.isText)) (j8 false))) fun j6 => bf p0.isText (j6 p1.isText) (j6 false)) fun j2 => bf (!p0.isText) (bf p0.isText (j2 (p1.isText, (!p1.isText))) (j2 (p1.isText, false))) (bf p0.isText (j2 (false, (!p1.isText))) (j2 (false, false)))

def freshetref03_Rows (fuel : Nat) (p0 : List Value) (p1 : List Value) : Option Int :=
  outK (loopN (S := Int) (R := Int) (fun (a1 : Int) => jn (fun (a3 : Bool) => bf a3 (need ((0 : Int) ≤ a1 ∧ a1 < (p0.length : Int)) <| need ((0 : Int) ≤ a1 ∧ a1 < (p1.length : Int)) <| (freshetref03_Compare (p0.getD a1.toNat default) (p1.getD a1.toNat default)).bind fun r7 => bf (!decide (r7 = 0)) (some (.ret r7)) (some (.next (IntKind.i64.wrap (a1 + 1))))) (some (.brk a1))) fun j4 => bf (decide (a1 < (p0.length : Int))) (j4 (decide (a1 < (p1.length : Int)))) (j4 false)) fuel 0) (fun (a2 : Int) => bf (decide ((p0.length : Int) < (p1.length : Int))) (some (-1)) (bf (decide ((p1.length : Int) < (p0.length : Int))) (some 1) (some 0))) (fun x => some x)

def value_right (p0 : Value) : Option Bool :=
  bf p0.isText (jn (fun (a1 : Bool) => some a1) fun j2 => bf (decide (p0.n = 0)) (j2 (decide ((p0.s.size : Int) ≤ 64))) (j2 false)) (some (strEq p0.s (bs [])))

def value_Check_1 (p0 : Value) : Option Bool :=
  (value_right p0).bind fun r1 => some (!r1)

def slices_IndexFuncfreshet_api_Value_freshet_api_Value_Value__value_Check_1 (p0 : List Value) : Option Int :=
  outK (rangeN (S := Unit) (R := Int) (fun i1 (a2 : Unit) => (value_Check_1 (p0.getD i1 default)).bind fun r4 => bf r4 (some (.ret ((i1 : Nat) : Int))) (some (.next ()))) p0.length 0 ()) (fun (a3 : Unit) => some (-1)) (fun x => some x)

def slices_ContainsFuncfreshet_api_Value_freshet_api_Value_Value__value_Check_1 (p0 : List Value) : Option Bool :=
  (slices_IndexFuncfreshet_api_Value_freshet_api_Value_Value__value_Check_1 p0).bind fun r1 => some (decide (0 ≤ r1))

def value_Check (p0 : List Value) : Option Int :=
  jn (fun (a1 : Bool) => bf a1 (some 4) (some 0)) fun j2 => bf (decide (8 < (p0.length : Int))) (j2 true) ((slices_ContainsFuncfreshet_api_Value_freshet_api_Value_Value__value_Check_1 p0).bind fun r3 => j2 r3)

def freshetref03_right (p0 : Value) : Option Bool :=
  bf p0.isText (jn (fun (a1 : Bool) => some a1) fun j2 => bf (decide (p0.n = 0)) (j2 (decide ((p0.s.size : Int) ≤ 64))) (j2 false)) (some (strEq p0.s (bs [])))

def freshetref03_Check (p0 : List Value) : Option Int :=
  outK (rangeN (S := Unit) (R := Int) (fun i1 (a2 : Unit) => (freshetref03_right (p0.getD i1 default)).bind fun r4 => bf (!r4) (some (.ret 4)) (some (.next ()))) p0.length 0 ()) (fun (a3 : Unit) => bf (decide (8 < (p0.length : Int))) (some 4) (some 0)) (fun x => some x)

def freshetlaw03_ValueOrders (fuel : Nat) (p0 : Value) (p1 : Value) (p2 : List Value) (p3 : List Value) : Option Bool :=
  jn (fun (a1 : Bool) => some a1) fun j2 => (freshetlaw03_orders).bind fun r3 => bf r3 ((value_Compare p0 p1).bind fun r5 => (freshetref03_Compare p0 p1).bind fun r6 => bf (decide (r5 = r6)) ((value_Rows p2 p3).bind fun r8 => (freshetref03_Rows fuel p2 p3).bind fun r9 => bf (decide (r8 = r9)) ((value_Check p2).bind fun r11 => (freshetref03_Check p2).bind fun r12 => j2 (decide (r11 = r12))) (j2 false)) (j2 false)) (j2 false)

def freshetref03_Same (p0 : List Value) (p1 : List Value) : Option Bool :=
  bf (!decide ((p0.length : Int) = (p1.length : Int))) (some false) (outK (rangeN (S := Unit) (R := Bool) (fun i1 (a2 : Unit) => need ((0 : Int) ≤ ((i1 : Nat) : Int) ∧ ((i1 : Nat) : Int) < (p1.length : Int)) <| bf (!(eqValue (p0.getD i1 default) (p1.getD i1 default))) (some (.ret false)) (some (.next ()))) p0.length 0 ()) (fun (a3 : Unit) => some true) (fun x => some x))

def freshetlaw03_ValueLine (p0 : List Value) (p1 : List Value) (p2 : List Value) : Option Bool :=
  (freshetlaw03_orders).bind fun r1 => bf (!r1) (some false) ((value_Rows p0 p1).bind fun r2 => (value_Rows p1 p2).bind fun r3 => (value_Rows p0 p2).bind fun r4 => jn (fun (a5 : Bool) => bf a5 (some false) (jn (fun (a7 : Bool) => some a7) fun j8 => (value_Check p0).bind fun r9 => bf (!decide (r9 = 0)) (j8 true) ((value_Check p1).bind fun r10 => bf (!decide (r10 = 0)) (j8 true) ((freshetref03_Same p0 p1).bind fun r11 => j8 ((decide (r2 = 0)) == r11))))) fun j6 => (value_Rows p1 p0).bind fun r12 => bf (!decide (r12 = (IntKind.i64.wrap (0 - r2)))) (j6 true) ((value_Rows p0 p0).bind fun r13 => bf (!decide (r13 = 0)) (j6 true) (bf (decide (r2 ≤ 0)) (bf (decide (r3 ≤ 0)) (bf (decide (0 < r4)) (j6 true) (bf (decide (r4 = 0)) (bf (decide (r2 < 0)) (j6 true) (j6 (decide (r3 < 0)))) (j6 false))) (j6 false)) (j6 false))))

def value_Cols (p0 : List Value) (p1 : List Int) : Option ((List Value) × Int) :=
  (value_Check p0).bind fun r1 => bf (!decide (r1 = 0)) (some (([] : List Value), r1)) (outK (rangeN (S := List Value) (R := (List Value) × Int) (fun i2 (a3 : List Value) => jn (fun (a5 : Bool) => bf a5 (some (.ret (([] : List Value), 1))) (need ((0 : Int) ≤ (p1.getD i2 default) ∧ (p1.getD i2 default) < (p0.length : Int)) <| need (a3.length + ([(p0.getD ((p1.getD i2 default).toNat) default)] : List Value).length ≤ 274877906944) <| some (.next (a3 ++ ([(p0.getD ((p1.getD i2 default).toNat) default)] : List Value))))) fun j6 => bf (decide ((p1.getD i2 default) < 0)) (j6 true) (j6 (decide ((p0.length : Int) ≤ (p1.getD i2 default))))) p1.length 0 ([] : List Value)) (fun (a4 : List Value) => bf (decide (8 < (a4.length : Int))) (some (([] : List Value), 2)) (some (a4, 0))) (fun x => some x))

def freshetref03_Cols (p0 : List Value) (p1 : List Int) : Option ((List Value) × Int) :=
  (freshetref03_Check p0).bind fun r1 => outK (rangeN (S := Int × (List Value)) (R := Empty) (fun i2 (a3 : Int × (List Value)) => jn (fun (a9 : Int) => bf (decide (a9 = 0)) (need ((0 : Int) ≤ (p1.getD i2 default) ∧ (p1.getD i2 default) < (p0.length : Int)) <| need (a3.2.length + ([(p0.getD ((p1.getD i2 default).toNat) default)] : List Value).length ≤ 274877906944) <| some (.next (a9, (a3.2 ++ ([(p0.getD ((p1.getD i2 default).toNat) default)] : List Value))))) (some (.next (a9, a3.2)))) fun j10 => jn (fun (a13 : Bool) => bf a13 (j10 1) (j10 a3.1)) fun j14 => bf (decide (a3.1 = 0)) (bf (decide ((p1.getD i2 default) < 0)) (j14 true) (j14 (decide ((p0.length : Int) ≤ (p1.getD i2 default))))) (j14 false)) p1.length 0 (r1, ([] : List Value))) (fun (a4 : Int × (List Value)) => jn (fun (a5 : Int) => bf (!decide (a5 = 0)) (some (([] : List Value), a5)) (some (a4.2, 0))) fun j6 => jn (fun (a7 : Bool) => bf a7 (j6 2) (j6 a4.1)) fun j8 => bf (decide (a4.1 = 0)) (j8 (decide (8 < (p1.length : Int)))) (j8 false)) (fun (x : Empty) => x.elim)

def slices_Growfreshet_api_Value_freshet_api_Value_Value (p1 : Int) : Option (List Value) :=
  bf (decide (p1 < 0)) (none) (jn (fun (a1 : List Value) => some a1) fun j2 => bf (decide (0 < (IntKind.i64.wrap (p1 - (IntKind.i64.wrap ((0 : Int) - 0)))))) (need ((0 : Int) < (IntKind.i64.wrap (p1 - (IntKind.i64.wrap ((0 : Int) - 0)))) ∧ (IntKind.i64.wrap (p1 - (IntKind.i64.wrap ((0 : Int) - 0)))) ≤ (lim : Int)) <| need ((0 : Int) ≤ 0 ∧ (0 : Int) ≤ 0 ∧ 0 ≤ ((List.replicate ((IntKind.i64.wrap (p1 - (IntKind.i64.wrap ((0 : Int) - 0)))).toNat) ((⟨false, 0, (bs [])⟩ : Value) : Value)).length : Int)) <| j2 ((List.replicate ((IntKind.i64.wrap (p1 - (IntKind.i64.wrap ((0 : Int) - 0)))).toNat) ((⟨false, 0, (bs [])⟩ : Value) : Value)).take 0)) (j2 ([] : List Value)))

def slices_Concatfreshet_api_Value_freshet_api_Value_Value (p0 : List (List Value)) : Option (List Value) :=
  outK (rangeN (S := Int) (R := Empty) (fun i1 (a2 : Int) => bf (decide ((IntKind.i64.wrap (a2 + ((p0.getD i1 default).length : Int))) < 0)) (none) (some (.next (IntKind.i64.wrap (a2 + ((p0.getD i1 default).length : Int)))))) p0.length 0 0) (fun (a3 : Int) => (slices_Growfreshet_api_Value_freshet_api_Value_Value a3).bind fun r4 => outK (rangeN (S := List Value) (R := Empty) (fun i5 (a6 : List Value) => need (a6.length + (p0.getD i5 default).length ≤ 274877906944) <| some (.next (a6 ++ (p0.getD i5 default)))) p0.length 0 r4) (fun (a7 : List Value) => some a7) (fun (x : Empty) => x.elim)) (fun (x : Empty) => x.elim)

def value_Join (p0 : List (List Value)) : Option ((List Value) × Int) :=
  outK (rangeN (S := Unit) (R := (List Value) × Int) (fun i1 (a2 : Unit) => (value_Check (p0.getD i1 default)).bind fun r5 => bf (!decide (r5 = 0)) (some (.ret (([] : List Value), r5))) (some (.next ()))) p0.length 0 ()) (fun (a3 : Unit) => (slices_Concatfreshet_api_Value_freshet_api_Value_Value p0).bind fun r4 => bf (decide (8 < (r4.length : Int))) (some (([] : List Value), 2)) (some (r4, 0))) (fun x => some x)

def freshetref03_Join (p0 : List (List Value)) : Option ((List Value) × Int) :=
  outK (rangeN (S := Unit) (R := (List Value) × Int) (fun i1 (a2 : Unit) => (freshetref03_Check (p0.getD i1 default)).bind fun r8 => bf (!decide (r8 = 0)) (some (.ret (([] : List Value), r8))) (some (.next ()))) p0.length 0 ()) (fun (a3 : Unit) => outK (rangeN (S := List Value) (R := (List Value) × Int) (fun i4 (a5 : List Value) => need (a5.length + (p0.getD i4 default).length ≤ 274877906944) <| bf (decide (8 < ((a5 ++ (p0.getD i4 default)).length : Int))) (some (.ret (([] : List Value), 2))) (some (.next (a5 ++ (p0.getD i4 default))))) p0.length 0 ([] : List Value)) (fun (a6 : List Value) => some (a6, 0)) (fun x => some x)) (fun x => some x)

def freshetlaw03_makes  : Option Bool :=
  (freshetlaw03_num 1).bind fun r1 => (freshetlaw03_num 2).bind fun r2 => (value_Cols ([r1, r2] : List Value) ([1, 1, 0] : List Int)).bind fun r3 => (freshetlaw03_num 1).bind fun r4 => (freshetlaw03_num 3).bind fun r5 => (value_Join ([([r4] : List Value), ([] : List Value), ([r5] : List Value)] : List (List Value))).bind fun r6 => jn (fun (a7 : Bool) => some a7) fun j8 => bf (decide ((r3.1.length : Int) = 3)) (need ((0 : Int) ≤ 0 ∧ 0 < (r3.1.length : Int)) <| bf (decide ((r3.1.getD 0 default).n = 2)) (need ((0 : Int) ≤ 2 ∧ 2 < (r3.1.length : Int)) <| bf (decide ((r3.1.getD 2 default).n = 1)) (bf (decide (r3.2 = 0)) (bf (decide ((r6.1.length : Int) = 2)) (need ((0 : Int) ≤ 1 ∧ 1 < (r6.1.length : Int)) <| bf (decide ((r6.1.getD 1 default).n = 3)) (j8 (decide (r6.2 = 0))) (j8 false)) (j8 false)) (j8 false)) (j8 false)) (j8 false)) (j8 false)

def freshetlaw03_ValueMakes (p0 : List Value) (p1 : List Int) (p2 : List (List Value)) : Option Bool :=
  (value_Cols p0 p1).bind fun r1 => (freshetref03_Cols p0 p1).bind fun r2 => (value_Join p2).bind fun r3 => (freshetref03_Join p2).bind fun r4 => jn (fun (a5 : Bool) => some a5) fun j6 => (freshetlaw03_makes).bind fun r7 => bf r7 ((freshetref03_Same r1.1 r2.1).bind fun r8 => bf r8 (bf (decide (r1.2 = r2.2)) ((freshetref03_Same r3.1 r4.1).bind fun r9 => bf r9 (j6 (decide (r3.2 = r4.2))) (j6 false)) (j6 false)) (j6 false)) (j6 false)

def freshetlaw03_ValueParts (p0 : List Value) (p1 : List Value) : Option Bool :=
  (freshetlaw03_makes).bind fun r1 => bf (!r1) (some false) ((value_Join ([p0, p1] : List (List Value))).bind fun r2 => bf (!decide (r2.2 = 0)) (some (decide ((r2.1.length : Int) = 0))) (outK (rangeN (S := (List Int) × (List Int)) (R := Empty) (fun i3 (a4 : (List Int) × (List Int)) => bf (decide (((i3 : Nat) : Int) < (p0.length : Int))) (need (a4.1.length + ([((i3 : Nat) : Int)] : List Int).length ≤ 274877906944) <| some (.next ((a4.1 ++ ([((i3 : Nat) : Int)] : List Int)), a4.2))) (need (a4.2.length + ([((i3 : Nat) : Int)] : List Int).length ≤ 274877906944) <| some (.next (a4.1, (a4.2 ++ ([((i3 : Nat) : Int)] : List Int)))))) r2.1.length 0 (([] : List Int), ([] : List Int))) (fun (a5 : (List Int) × (List Int)) => (value_Cols r2.1 a5.1).bind fun r6 => (value_Cols r2.1 a5.2).bind fun r7 => jn (fun (a8 : Bool) => some a8) fun j9 => bf (decide (r6.2 = 0)) (bf (decide (r7.2 = 0)) ((freshetref03_Same r6.1 p0).bind fun r10 => bf r10 ((freshetref03_Same r7.1 p1).bind fun r11 => j9 r11) (j9 false)) (j9 false)) (j9 false)) (fun (x : Empty) => x.elim)))

def freshetlaw03_ValueMany (p0 : List Value) (p1 : List Value) (p2 : List Value) : Option Bool :=
  (freshetlaw03_makes).bind fun r1 => bf (!r1) (some false) ((value_Join ([p0, p1, p2] : List (List Value))).bind fun r2 => (value_Join ([p0, p1] : List (List Value))).bind fun r3 => bf (!decide (r3.2 = 0)) (some (!decide (r2.2 = 0))) ((value_Join ([r3.1, p2] : List (List Value))).bind fun r4 => jn (fun (a5 : Bool) => some a5) fun j6 => bf (decide (r2.2 = r4.2)) ((freshetref03_Same r2.1 r4.1).bind fun r7 => j6 r7) (j6 false)))

end Go.Av