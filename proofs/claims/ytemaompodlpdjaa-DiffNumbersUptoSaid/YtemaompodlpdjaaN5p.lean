import Derived.Test.YtemaompodlpdjaaAvY
namespace Go.Av
open Go
set_option linter.unusedVariables false
set_option linter.unusedSimpArgs false

structure Tally where
  high : Int
  low : Int
  deriving Inhabited

def encTally (x : Tally) : List D := [.int .u64 x.high, .int .u64 x.low]

def eqTally (x y : Tally) : Bool := (decide (x.high = y.high) && (decide (x.low = y.low) && true))

structure Wide where
  high : Int
  low : Int
  deriving Inhabited

def encWide (x : Wide) : List D := [.int .i64 x.high, .int .u64 x.low]

def eqWide (x y : Wide) : Bool := (decide (x.high = y.high) && (decide (x.low = y.low) && true))

def freshet_diff_tally_add_w (p1 : Int) (l0 : Tally) : Option Tally :=
  (bits_Add64 l0.low (IntKind.u64.wrap p1) 0).bind fun r1 => (bits_Add64 l0.high (IntKind.u64.wrap (shrOp .i64 p1 63)) r1.2).bind fun r2 => some (⟨r2.1, r1.1⟩ : Tally)

def freshet_diff_tally_fit_w (l0 : Tally) : Option (Int × Int × Tally) :=
  bf (!decide (l0.high = (IntKind.u64.wrap (shrOp .i64 (IntKind.i64.wrap l0.low) 63)))) (some (0, 10, l0)) (some ((IntKind.i64.wrap l0.low), 0, l0))

def diff_Sum (p0 : List Int) : Option (Int × Int) :=
  outK (rangeN (S := Tally) (R := Empty) (fun i1 (a2 : Tally) => (freshet_diff_tally_add_w (p0.getD i1 default) a2).bind fun r5 => some (.next r5)) p0.length 0 (⟨0, 0⟩ : Tally)) (fun (a3 : Tally) => (freshet_diff_tally_fit_w a3).bind fun r4 => some (r4.1, r4.2.1)) (fun (x : Empty) => x.elim)

def freshet_freshetref05_Wide_Plus (p0 : Wide) (p1 : Int) : Option Wide :=
  jn (fun (a1 : Wide) => jn (fun (a3 : Wide) => some (⟨a3.high, (IntKind.u64.wrap (p0.low + (IntKind.u64.wrap p1)))⟩ : Wide)) fun j4 => bf (decide (p1 < 0)) (j4 (⟨(IntKind.i64.wrap (a1.high - 1)), a1.low⟩ : Wide)) (j4 a1)) fun j2 => bf (decide ((IntKind.u64.wrap (p0.low + (IntKind.u64.wrap p1))) < p0.low)) (j2 (⟨(IntKind.i64.wrap (p0.high + 1)), p0.low⟩ : Wide)) (j2 p0)

def freshet_freshetref05_Wide_Fit (p0 : Wide) : Option (Int × Int) :=
  jn (fun (a1 : Bool) => bf a1 (some ((IntKind.i64.wrap p0.low), 0)) (some (0, 10))) fun j2 => bf (decide (p0.high = 0)) (bf (decide (0 ≤ (IntKind.i64.wrap p0.low))) (j2 true) (bf (decide (p0.high = (-1))) (j2 (decide ((IntKind.i64.wrap p0.low) < 0))) (j2 false))) (bf (decide (p0.high = (-1))) (j2 (decide ((IntKind.i64.wrap p0.low) < 0))) (j2 false))

def freshetref05_Sum (p0 : List Int) : Option (Int × Int) :=
  outK (rangeN (S := Wide) (R := Empty) (fun i1 (a2 : Wide) => (freshet_freshetref05_Wide_Plus a2 (p0.getD i1 default)).bind fun r5 => some (.next r5)) p0.length 0 (⟨0, 0⟩ : Wide)) (fun (a3 : Wide) => (freshet_freshetref05_Wide_Fit a3).bind fun r4 => some (r4.1, r4.2)) (fun (x : Empty) => x.elim)

def diff_size (p0 : Int) : Option Int :=
  bf (decide (p0 < 0)) (some (IntKind.u64.wrap (0 - (IntKind.u64.wrap p0)))) (some (IntKind.u64.wrap p0))

def math_bits_Mul64 (p0 : Int) (p1 : Int) : Option (Int × Int) :=
  some ((IntKind.u64.wrap ((IntKind.u64.wrap ((IntKind.u64.wrap ((shrOp .u64 p0 32) * (shrOp .u64 p1 32))) + (shrOp .u64 (IntKind.u64.wrap ((IntKind.u64.wrap ((shrOp .u64 p0 32) * (bitsOp .and .u64 p1 4294967295))) + (shrOp .u64 (IntKind.u64.wrap ((bitsOp .and .u64 p0 4294967295) * (bitsOp .and .u64 p1 4294967295))) 32))) 32))) + (shrOp .u64 (IntKind.u64.wrap ((bitsOp .and .u64 (IntKind.u64.wrap ((IntKind.u64.wrap ((shrOp .u64 p0 32) * (bitsOp .and .u64 p1 4294967295))) + (shrOp .u64 (IntKind.u64.wrap ((bitsOp .and .u64 p0 4294967295) * (bitsOp .and .u64 p1 4294967295))) 32))) 4294967295) + (IntKind.u64.wrap ((bitsOp .and .u64 p0 4294967295) * (shrOp .u64 p1 32))))) 32))), (IntKind.u64.wrap (p0 * p1)))

def diff_Times (p0 : Int) (p1 : Int) : Option (Int × Int) :=
  (diff_size p0).bind fun r1 => (diff_size p1).bind fun r2 => (math_bits_Mul64 r1 r2).bind fun r3 => jn (fun (a4 : Int) => jn (fun (a6 : Bool) => bf a6 (some (0, 10)) (some ((IntKind.i64.wrap (p0 * p1)), 0))) fun j7 => bf (!decide (r3.1 = 0)) (j7 true) (j7 (decide (a4 < r3.2)))) fun j5 => bf ((decide (p0 < 0)) == (decide (p1 < 0))) (j5 (IntKind.u64.wrap ((9223372036854775808 : Int) - 1))) (j5 9223372036854775808)

def freshetref05_Times (p0 : Int) (p1 : Int) : Option (Int × Int) :=
  jn (fun (a1 : Bool) => bf a1 (some (0, 0)) (jn (fun (a3 : Bool) => bf a3 (some (0, 10)) (some ((IntKind.i64.wrap (p0 * p1)), 0))) fun j4 => bf (decide (p0 = (-1))) (bf (decide (p1 = (IntKind.i64.wrap (p0 * p1)))) (bf (decide (p1 < 0)) (bf (decide (0 < (IntKind.i64.wrap (p1 - 1)))) (j4 true) (bf (decide (p1 = (-1))) (bf (decide (p0 = (IntKind.i64.wrap (p0 * p1)))) (bf (decide (p0 < 0)) (bf (decide (0 < (IntKind.i64.wrap (p0 - 1)))) (j4 true) (need (p1 ≠ 0) <| bf (!decide ((IntKind.i64.wrap ((IntKind.i64.wrap (p0 * p1)).tdiv p1)) = p0)) (j4 true) (need (p0 ≠ 0) <| j4 (!decide ((IntKind.i64.wrap ((IntKind.i64.wrap (p0 * p1)).tdiv p0)) = p1))))) (need (p1 ≠ 0) <| bf (!decide ((IntKind.i64.wrap ((IntKind.i64.wrap (p0 * p1)).tdiv p1)) = p0)) (j4 true) (need (p0 ≠ 0) <| j4 (!decide ((IntKind.i64.wrap ((IntKind.i64.wrap (p0 * p1)).tdiv p0)) = p1))))) (need (p1 ≠ 0) <| bf (!decide ((IntKind.i64.wrap ((IntKind.i64.wrap (p0 * p1)).tdiv p1)) = p0)) (j4 true) (need (p0 ≠ 0) <| j4 (!decide ((IntKind.i64.wrap ((IntKind.i64.wrap (p0 * p1)).tdiv p0)) = p1))))) (need (p1 ≠ 0) <| bf (!decide ((IntKind.i64.wrap ((IntKind.i64.wrap (p0 * p1)).tdiv p1)) = p0)) (j4 true) (need (p0 ≠ 0) <| j4 (!decide ((IntKind.i64.wrap ((IntKind.i64.wrap (p0 * p1)).tdiv p0)) = p1)))))) (bf (decide (p1 = (-1))) (bf (decide (p0 = (IntKind.i64.wrap (p0 * p1)))) (bf (decide (p0 < 0)) (bf (decide (0 < (IntKind.i64.wrap (p0 - 1)))) (j4 true) (need (p1 ≠ 0) <| bf (!decide ((IntKind.i64.wrap ((IntKind.i64.wrap (p0 * p1)).tdiv p1)) = p0)) (j4 true) (need (p0 ≠ 0) <| j4 (!decide ((IntKind.i64.wrap ((IntKind.i64.wrap (p0 * p1)).tdiv p0)) = p1))))) (need (p1 ≠ 0) <| bf (!decide ((IntKind.i64.wrap ((IntKind.i64.wrap (p0 * p1)).tdiv p1)) = p0)) (j4 true) (need (p0 ≠ 0) <| j4 (!decide ((IntKind.i64.wrap ((IntKind.i64.wrap (p0 * p1)).tdiv p0)) = p1))))) (need (p1 ≠ 0) <| bf (!decide ((IntKind.i64.wrap ((IntKind.i64.wrap (p0 * p1)).tdiv p1)) = p0)) (j4 true) (need (p0 ≠ 0) <| j4 (!decide ((IntKind.i64.wrap ((IntKind.i64.wrap (p0 * p1)).tdiv p0)) = p1))))) (need (p1 ≠ 0) <| bf (!decide ((IntKind.i64.wrap ((IntKind.i64.wrap (p0 * p1)).tdiv p1)) = p0)) (j4 true) (need (p0 ≠ 0) <| j4 (!decide ((IntKind.i64.wrap ((IntKind.i64.wrap (p0 * p1)).tdiv p0)) = p1)))))) (bf (decide (p1 = (-1))) (bf (decide (p0 = (IntKind.i64.wrap (p0 * p1)))) (bf (decide (p0 < 0)) (bf (decide (0 < (IntKind.i64.wrap (p0 - 1)))) (j4 true) (need (p1 ≠ 0) <| bf (!decide ((IntKind.i64.wrap ((IntKind.i64.wrap (p0 * p1)).tdiv p1)) = p0)) (j4 true) (need (p0 ≠ 0) <| j4 (!decide ((IntKind.i64.wrap ((IntKind.i64.wrap (p0 * p1)).tdiv p0)) = p1))))) (need (p1 ≠ 0) <| bf (!decide ((IntKind.i64.wrap ((IntKind.i64.wrap (p0 * p1)).tdiv p1)) = p0)) (j4 true) (need (p0 ≠ 0) <| j4 (!decide ((IntKind.i64.wrap ((IntKind.i64.wrap (p0 * p1)).tdiv p0)) = p1))))) (need (p1 ≠ 0) <| bf (!decide ((IntKind.i64.wrap ((IntKind.i64.wrap (p0 * p1)).tdiv p1)) = p0)) (j4 true) (need (p0 ≠ 0) <| j4 (!decide ((IntKind.i64.wrap ((IntKind.i64.wrap (p0 * p1)).tdiv p0)) = p1))))) (need (p1 ≠ 0) <| bf (!decide ((IntKind.i64.wrap ((IntKind.i64.wrap (p0 * p1)).tdiv p1)) = p0)) (j4 true) (need (p0 ≠ 0) <| j4 (!decide ((IntKind.i64.wrap ((IntKind.i64.wrap (p0 * p1)).tdiv p0)) = p1)))))) (bf (decide (p1 = (-1))) (bf (decide (p0 = (IntKind.i64.wrap (p0 * p1)))) (bf (decide (p0 < 0)) (bf (decide (0 < (IntKind.i64.wrap (p0 - 1)))) (j4 true) (need (p1 ≠ 0) <| bf (!decide ((IntKind.i64.wrap ((IntKind.i64.wrap (p0 * p1)).tdiv p1)) = p0)) (j4 true) (need (p0 ≠ 0) <| j4 (!decide ((IntKind.i64.wrap ((IntKind.i64.wrap (p0 * p1)).tdiv p0)) = p1))))) (need (p1 ≠ 0) <| bf (!decide ((IntKind.i64.wrap ((IntKind.i64.wrap (p0 * p1)).tdiv p1)) = p0)) (j4 true) (need (p0 ≠ 0) <| j4 (!decide ((IntKind.i64.wrap ((IntKind.i64.wrap (p0 * p1)).tdiv p0)) = p1))))) (need (p1 ≠ 0) <| bf (!decide ((IntKind.i64.wrap ((IntKind.i64.wrap (p0 * p1)).tdiv p1)) = p0)) (j4 true) (need (p0 ≠ 0) <| j4 (!decide ((IntKind.i64.wrap ((IntKind.i64.wrap (p0 * p1)).tdiv p0)) = p1))))) (need (p1 ≠ 0) <| bf (!decide ((IntKind.i64.wrap ((IntKind.i64.wrap (p0 * p1)).tdiv p1)) = p0)) (j4 true) (need (p0 ≠ 0) <| j4 (!decide ((IntKind.i64.wrap ((IntKind.i64.wrap (p0 * p1)).tdiv p0)) = p1))))))) fun j2 => bf (decide (p0 = 0)) (j2 true) (j2 (decide (p1 = 0)))

def freshetlaw05_sums  : Option Bool :=
  (diff_Sum ([9223372036854775807, 1, (-1)] : List Int)).bind fun r1 => (diff_Sum ([9223372036854775807, 1] : List Int)).bind fun r2 => (diff_Times (-3) 4).bind fun r3 => (diff_Times (-9223372036854775808) (-1)).bind fun r4 => jn (fun (a5 : Bool) => some a5) fun j6 => bf (decide (r1.1 = 9223372036854775807)) (bf (decide (r1.2 = 0)) (bf (decide (r2.2 = 10)) (bf (decide (r3.1 = (-12))) (bf (decide (r3.2 = 0)) (j6 (decide (r4.2 = 10))) (j6 false)) (j6 false)) (j6 false)) (j6 false)) (j6 false)

def freshetlaw05_DiffSums (p0 : List Int) (p1 : Int) (p2 : Int) : Option Bool :=
  (diff_Sum p0).bind fun r1 => (freshetref05_Sum p0).bind fun r2 => (diff_Times p1 p2).bind fun r3 => (freshetref05_Times p1 p2).bind fun r4 => jn (fun (a5 : Bool) => some a5) fun j6 => (freshetlaw05_sums).bind fun r7 => bf r7 (bf (decide (r1.1 = r2.1)) (bf (decide (r1.2 = r2.2)) (bf (decide (r3.1 = r4.1)) (j6 (decide (r3.2 = r4.2))) (j6 false)) (j6 false)) (j6 false)) (j6 false)

def freshetlaw05_DiffNumbers (fuel : Nat) (p0 : List Int) (p1 : Int) (p2 : Int) : Option Bool :=
  (freshetlaw05_sums).bind fun r1 => bf (!r1) (some false) (outK (loopN (S := Int × (List Int) × (List Int)) (R := Empty) (fun (a2 : Int × (List Int) × (List Int)) => bf (decide (0 ≤ a2.1)) (jn (fun (a14 : List Int) => some (.next ((IntKind.i64.wrap (a2.1 - 1)), (a2.2.1 ++ ([(p0.getD a2.1.toNat default)] : List Int)), a14))) fun j15 => need ((0 : Int) ≤ a2.1 ∧ a2.1 < (p0.length : Int)) <| need (a2.2.1.length + ([(p0.getD a2.1.toNat default)] : List Int).length ≤ 274877906944) <| need ((0 : Int) ≤ a2.1 ∧ a2.1 < (p0.length : Int)) <| bf (decide ((-9223372036854775807) < (p0.getD a2.1.toNat default))) (need ((0 : Int) ≤ a2.1 ∧ a2.1 < (p0.length : Int)) <| need ((0 : Int) ≤ a2.1 ∧ a2.1 < (p0.length : Int)) <| need (a2.2.2.length + ([(p0.getD a2.1.toNat default), (IntKind.i64.wrap (0 - (p0.getD a2.1.toNat default)))] : List Int).length ≤ 274877906944) <| j15 (a2.2.2 ++ ([(p0.getD a2.1.toNat default), (IntKind.i64.wrap (0 - (p0.getD a2.1.toNat default)))] : List Int))) (j15 a2.2.2)) (some (.brk (a2.1, a2.2.1, a2.2.2)))) fuel ((IntKind.i64.wrap ((p0.length : Int) - 1)), ([] : List Int), ([] : List Int))) (fun (a3 : Int × (List Int) × (List Int)) => (diff_Sum p0).bind fun r4 => (diff_Sum a3.2.1).bind fun r5 => (diff_Sum a3.2.2).bind fun r6 => outK (loopN (S := Int × (List Int)) (R := Empty) (fun (a7 : Int × (List Int)) => bf (decide (a7.1 < (p2.tmod 20))) (need (a7.2.length + ([p1] : List Int).length ≤ 274877906944) <| some (.next ((IntKind.u8.wrap (a7.1 + 1)), (a7.2 ++ ([p1] : List Int))))) (some (.brk (a7.1, a7.2)))) fuel (0, ([] : List Int))) (fun (a8 : Int × (List Int)) => (diff_Sum a8.2).bind fun r9 => (diff_Times p1 (IntKind.i64.wrap (p2.tmod 20))).bind fun r10 => jn (fun (a11 : Bool) => some a11) fun j12 => bf (decide (r4.1 = r5.1)) (bf (decide (r4.2 = r5.2)) (bf (decide (r6.1 = 0)) (bf (decide (r6.2 = 0)) (bf (decide (r9.1 = r10.1)) (j12 (decide (r9.2 = r10.2))) (j12 false)) (j12 false)) (j12 false)) (j12 false)) (j12 false)) (fun (x : Empty) => x.elim)) (fun (x : Empty) => x.elim))

end Go.Av