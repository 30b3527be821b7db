import Derived.Test.YtoiphmpjiobaiaaAvW
namespace Go.Av
open Go
set_option linter.unusedVariables false
set_option linter.unusedSimpArgs false

structure Time where
  epoch : Int
  loop : Int × Int
  deriving Inhabited

def encTime (x : Time) : List D := [.int .u64 x.epoch, .int .u64 x.loop.1, .int .u64 x.loop.2]

def eqTime (x y : Time) : Bool := (decide (x.epoch = y.epoch) && ((decide (x.loop.1 = y.loop.1) && (decide (x.loop.2 = y.loop.2) && true)) && true))

def freshetlaw04_at (p0 : Int) (p1 : Int) (p2 : Int) : Option Time :=
  some (⟨p0, (p1, p2)⟩ : Time)

def moment_greatest (p0 : Int) (p1 : Int) : Option Int :=
  some (if p0 < p1 then p1 else p0)

def moment_fold__greatest (p1 : List Time) : Option Time :=
  outK (rangeN (S := Time) (R := Empty) (fun i1 (a2 : Time) => jn (fun (a4 : Time) => (moment_greatest a4.epoch ((p1.getD i1 default).epoch)).bind fun r6 => outK (rangeN (S := Time) (R := Empty) (fun i7 (a8 : Time) => (match i7 with | 0 => (moment_greatest a8.loop.1 ((p1.getD i1 default).loop.1)).bind fun r10 => some (.next (⟨a8.epoch, (r10, a8.loop.2)⟩ : Time)) | _ => (moment_greatest a8.loop.2 ((p1.getD i1 default).loop.2)).bind fun r11 => some (.next (⟨a8.epoch, (a8.loop.1, r11)⟩ : Time)))) 2 0 (⟨r6, a4.loop⟩ : Time)) (fun (a9 : Time) => some (.next a9)) (fun (x : Empty) => x.elim)) fun j5 => bf (decide (((i1 : Nat) : Int) = 0)) (j5 (p1.getD i1 default)) (j5 a2)) p1.length 0 (⟨0, (0, 0)⟩ : Time)) (fun (a3 : Time) => some a3) (fun (x : Empty) => x.elim)

def moment_Lub (p0 : List Time) : Option Time :=
  (moment_fold__greatest p0).bind fun r1 => some r1

def moment_Ahead (p0 : Time) (p1 : Time) : Option Bool :=
  (moment_Lub ([p0, p1] : List Time)).bind fun r1 => some (eqTime r1 p1)

def cmp_isNaN_uint64 (p0 : Int) : Option Bool :=
  some (!decide (p0 = p0))

def cmp_Compare_uint64 (p0 : Int) (p1 : Int) : Option Int :=
  (cmp_isNaN_uint64 p0).bind fun r1 => (cmp_isNaN_uint64 p1).bind fun r2 => bf r1 (bf r2 (some 0) (some (-1))) (bf r2 (some 1) (bf (decide (p0 < p1)) (some (-1)) (bf (decide (p1 < p0)) (some 1) (some 0))))

def slices_Compareuint64_uint64_uint64 (p0 : List Int) (p1 : List Int) : Option Int :=
  outK (rangeN (S := Unit) (R := Int) (fun i1 (a2 : Unit) => bf (decide ((p1.length : Int) ≤ ((i1 : Nat) : Int))) (some (.ret 1)) (need ((0 : Int) ≤ ((i1 : Nat) : Int) ∧ ((i1 : Nat) : Int) < (p1.length : Int)) <| (cmp_Compare_uint64 (p0.getD i1 default) (p1.getD i1 default)).bind fun r5 => bf (!decide (r5 = 0)) (some (.ret r5)) (some (.next ())))) p0.length 0 ()) (fun (a3 : Unit) => bf (decide ((p0.length : Int) < (p1.length : Int))) (some (-1)) (some 0)) (fun x => some x)

def cmp_Or_int (p0 : List Int) : Option Int :=
  outK (rangeN (S := Unit) (R := Int) (fun i1 (a2 : Unit) => bf (!decide ((p0.getD i1 default) = 0)) (some (.ret (p0.getD i1 default))) (some (.next ()))) p0.length 0 ()) (fun (a3 : Unit) => some 0) (fun x => some x)

def moment_Compare (p0 : Time) (p1 : Time) : Option Int :=
  bf (decide (p0.loop.1 = p1.loop.1) && (decide (p0.loop.2 = p1.loop.2) && true)) ((cmp_Compare_uint64 p0.epoch p1.epoch).bind fun r1 => some r1) ((cmp_Compare_uint64 p0.epoch p1.epoch).bind fun r2 => (slices_Compareuint64_uint64_uint64 ([p0.loop.1, p0.loop.2] : List Int) ([p1.loop.1, p1.loop.2] : List Int)).bind fun r3 => (cmp_Or_int ([r2, r3] : List Int)).bind fun r4 => some r4)

def freshetlaw04_orders  : Option Bool :=
  jn (fun (a1 : Bool) => some a1) fun j2 => (freshetlaw04_at 1 0 2).bind fun r3 => (freshetlaw04_at 1 1 2).bind fun r4 => (moment_Ahead r3 r4).bind fun r5 => bf r5 ((freshetlaw04_at 1 0 2).bind fun r6 => (freshetlaw04_at 2 0 1).bind fun r7 => (moment_Ahead r6 r7).bind fun r8 => bf (!r8) ((freshetlaw04_at 1 0 2).bind fun r9 => (freshetlaw04_at 2 0 1).bind fun r10 => (moment_Compare r9 r10).bind fun r11 => j2 (decide (r11 = (-1)))) (j2 false)) (j2 false)

def freshetlaw04_MomentLine (p0 : Time) (p1 : Time) (p2 : Time) : Option Bool :=
  (freshetlaw04_orders).bind fun r1 => bf (!r1) (some false) (jn (fun (a2 : Bool) => bf a2 (some false) (jn (fun (a4 : Bool) => some a4) fun j5 => (moment_Ahead p0 p0).bind fun r6 => bf r6 ((moment_Compare p0 p1).bind fun r8 => (moment_Compare p1 p0).bind fun r9 => bf (decide (r8 = (IntKind.i64.wrap (0 - r9)))) ((moment_Ahead p0 p1).bind fun r11 => bf (!r11) (j5 true) ((moment_Ahead p1 p2).bind fun r13 => bf (!r13) (j5 true) ((moment_Ahead p0 p2).bind fun r15 => j5 r15))) (j5 false)) (j5 false))) fun j3 => (moment_Ahead p0 p1).bind fun r16 => bf r16 ((moment_Compare p0 p1).bind fun r18 => bf (decide (0 < r18)) (j3 true) ((moment_Ahead p0 p1).bind fun r20 => bf r20 ((moment_Ahead p1 p0).bind fun r22 => bf r22 (bf (!(eqTime p0 p1)) (j3 true) ((moment_Compare p0 p1).bind fun r25 => j3 (!((decide (r25 = 0)) == (eqTime p0 p1))))) ((moment_Compare p0 p1).bind fun r26 => j3 (!((decide (r26 = 0)) == (eqTime p0 p1))))) ((moment_Compare p0 p1).bind fun r27 => j3 (!((decide (r27 = 0)) == (eqTime p0 p1)))))) ((moment_Ahead p0 p1).bind fun r28 => bf r28 ((moment_Ahead p1 p0).bind fun r30 => bf r30 (bf (!(eqTime p0 p1)) (j3 true) ((moment_Compare p0 p1).bind fun r33 => j3 (!((decide (r33 = 0)) == (eqTime p0 p1))))) ((moment_Compare p0 p1).bind fun r34 => j3 (!((decide (r34 = 0)) == (eqTime p0 p1))))) ((moment_Compare p0 p1).bind fun r35 => j3 (!((decide (r35 = 0)) == (eqTime p0 p1))))))

def moment_least (p0 : Int) (p1 : Int) : Option Int :=
  some (if p1 < p0 then p1 else p0)

def moment_fold__least (p1 : List Time) : Option Time :=
  outK (rangeN (S := Time) (R := Empty) (fun i1 (a2 : Time) => jn (fun (a4 : Time) => (moment_least a4.epoch ((p1.getD i1 default).epoch)).bind fun r6 => outK (rangeN (S := Time) (R := Empty) (fun i7 (a8 : Time) => (match i7 with | 0 => (moment_least a8.loop.1 ((p1.getD i1 default).loop.1)).bind fun r10 => some (.next (⟨a8.epoch, (r10, a8.loop.2)⟩ : Time)) | _ => (moment_least a8.loop.2 ((p1.getD i1 default).loop.2)).bind fun r11 => some (.next (⟨a8.epoch, (a8.loop.1, r11)⟩ : Time)))) 2 0 (⟨r6, a4.loop⟩ : Time)) (fun (a9 : Time) => some (.next a9)) (fun (x : Empty) => x.elim)) fun j5 => bf (decide (((i1 : Nat) : Int) = 0)) (j5 (p1.getD i1 default)) (j5 a2)) p1.length 0 (⟨0, (0, 0)⟩ : Time)) (fun (a3 : Time) => some a3) (fun (x : Empty) => x.elim)

def moment_Glb (p0 : List Time) : Option Time :=
  (moment_fold__least p0).bind fun r1 => some r1

def freshetlaw04_bounds  : Option Bool :=
  jn (fun (a1 : Bool) => some a1) fun j2 => (freshetlaw04_at 1 0 2).bind fun r3 => (freshetlaw04_at 2 0 1).bind fun r4 => (moment_Lub ([r3, r4] : List Time)).bind fun r5 => (freshetlaw04_at 2 0 2).bind fun r6 => bf (eqTime r5 r6) ((freshetlaw04_at 1 0 2).bind fun r7 => (freshetlaw04_at 2 0 1).bind fun r8 => (moment_Glb ([r7, r8] : List Time)).bind fun r9 => (freshetlaw04_at 1 0 1).bind fun r10 => j2 (eqTime r9 r10)) (j2 false)

def freshetlaw04_MomentLattice (p0 : List Time) (p1 : Time) : Option Bool :=
  jn (fun (a1 : Bool) => bf a1 (some false) ((moment_Lub p0).bind fun r3 => (moment_Glb p0).bind fun r4 => outK (rangeN (S := Bool × Bool) (R := Bool) (fun i5 (a6 : Bool × Bool) => jn (fun (a13 : Bool) => bf a13 (some (.ret false)) (bf a6.1 ((moment_Ahead (p0.getD i5 default) p1).bind fun r15 => bf a6.2 ((moment_Ahead p1 (p0.getD i5 default)).bind fun r16 => some (.next (r15, r16))) (some (.next (r15, false)))) (bf a6.2 ((moment_Ahead p1 (p0.getD i5 default)).bind fun r17 => some (.next (false, r17))) (some (.next (false, false)))))) fun j14 => (moment_Ahead (p0.getD i5 default) r3).bind fun r18 => bf (!r18) (j14 true) ((moment_Ahead r4 (p0.getD i5 default)).bind fun r19 => j14 (!r19))) p0.length 0 (true, true)) (fun (a7 : Bool × Bool) => jn (fun (a8 : Bool) => some a8) fun j9 => bf (decide ((p0.length : Int) = 0)) (j9 true) (bf (!a7.1) (bf (!a7.2) (j9 true) ((moment_Ahead p1 r4).bind fun r10 => j9 r10)) ((moment_Ahead r3 p1).bind fun r11 => bf r11 (bf (!a7.2) (j9 true) ((moment_Ahead p1 r4).bind fun r12 => j9 r12)) (j9 false)))) (fun x => some x))) fun j2 => (freshetlaw04_orders).bind fun r20 => bf (!r20) (j2 true) ((freshetlaw04_bounds).bind fun r21 => j2 (!r21))

def freshetref04_Ahead (p0 : Time) (p1 : Time) : Option Bool :=
  outK (rangeN (S := Unit) (R := Bool) (fun i1 (a2 : Unit) => (match i1 with | 0 => bf (decide (p1.loop.1 < p0.loop.1)) (some (.ret false)) (some (.next ())) | _ => bf (decide (p1.loop.2 < p0.loop.2)) (some (.ret false)) (some (.next ())))) 2 0 ()) (fun (a3 : Unit) => some (decide (p0.epoch ≤ p1.epoch))) (fun x => some x)

def freshetref04_Compare (p0 : Time) (p1 : Time) : Option Int :=
  bf (!decide (p0.epoch = p1.epoch)) (bf (decide (p0.epoch < p1.epoch)) (some (-1)) (some 1)) (outK (rangeN (S := Unit) (R := Int) (fun i1 (a2 : Unit) => (match i1 with | 0 => bf (decide (p0.loop.1 < p1.loop.1)) (some (.ret (-1))) (bf (decide (p1.loop.1 < p0.loop.1)) (some (.ret 1)) (some (.next ()))) | _ => bf (decide (p0.loop.2 < p1.loop.2)) (some (.ret (-1))) (bf (decide (p1.loop.2 < p0.loop.2)) (some (.ret 1)) (some (.next ()))))) 2 0 ()) (fun (a3 : Unit) => some 0) (fun x => some x))

def slices_Maxuint64_uint64_uint64 (fuel : Nat) (p0 : List Int) : Option Int :=
  bf (decide ((p0.length : Int) < 1)) (none) (need ((0 : Int) ≤ 0 ∧ 0 < (p0.length : Int)) <| outK (loopN (S := Int × Int) (R := Empty) (fun (a2 : Int × Int) => bf (decide (a2.2 < (p0.length : Int))) (need ((0 : Int) ≤ a2.2 ∧ a2.2 < (p0.length : Int)) <| some (.next ((if a2.1 < (p0.getD a2.2.toNat default) then (p0.getD a2.2.toNat default) else a2.1), (IntKind.i64.wrap (a2.2 + 1))))) (some (.brk (a2.1, a2.2)))) fuel ((p0.getD 0 default), 1)) (fun (a3 : Int × Int) => some a3.1) (fun (x : Empty) => x.elim))

def moment_Check (fuel : Nat) (p0 : List Time) : Option Int :=
  outK (rangeN (S := Unit) (R := Int) (fun i1 (a2 : Unit) => (slices_Maxuint64_uint64_uint64 fuel ([(p0.getD i1 default).loop.1, (p0.getD i1 default).loop.2] : List Int)).bind fun r4 => bf (decide (4611686018427387904 < (if (p0.getD i1 default).epoch < r4 then r4 else (p0.getD i1 default).epoch))) (some (.ret 1)) (some (.next ()))) p0.length 0 ()) (fun (a3 : Unit) => some 0) (fun x => some x)

def freshetref04_Check (p0 : List Time) : Option Int :=
  outK (rangeN (S := Unit) (R := Int) (fun i1 (a2 : Unit) => bf (decide (4611686018427387904 < (p0.getD i1 default).epoch)) (some (.ret 1)) (outK (rangeN (S := Unit) (R := Int) (fun i4 (a5 : Unit) => (match i4 with | 0 => bf (decide (4611686018427387904 < (p0.getD i1 default).loop.1)) (some (.ret 1)) (some (.next ())) | _ => bf (decide (4611686018427387904 < (p0.getD i1 default).loop.2)) (some (.ret 1)) (some (.next ())))) 2 0 ()) (fun (a6 : Unit) => some (.next ())) (fun x => some (.ret x)))) p0.length 0 ()) (fun (a3 : Unit) => some 0) (fun x => some x)

def freshetlaw04_MomentOrders (fuel : Nat) (p0 : Time) (p1 : Time) (p2 : List Time) : Option Bool :=
  jn (fun (a1 : Bool) => some a1) fun j2 => (freshetlaw04_orders).bind fun r3 => bf r3 ((moment_Ahead p0 p1).bind fun r5 => (freshetref04_Ahead p0 p1).bind fun r6 => bf (r5 == r6) ((moment_Compare p0 p1).bind fun r8 => (freshetref04_Compare p0 p1).bind fun r9 => bf (decide (r8 = r9)) ((moment_Check fuel p2).bind fun r11 => (freshetref04_Check p2).bind fun r12 => j2 (decide (r11 = r12))) (j2 false)) (j2 false)) (j2 false)

end Go.Av