import Derived.Test.YtoiphmpjiobaiaaAvW
import Derived.Test.YtoiphmpjiobaiaaProg
namespace Go.Av
open Go Go.Proofs
set_option linter.unusedVariables false
set_option linter.unusedSimpArgs false

structure Time where
  epoch : Int
  loop : Int × Int
  deriving Inhabited

def encTime (x : Time) : List D := [.int .u64 x.epoch, .int .u64 x.loop.1, .int .u64 x.loop.2]

def eqTime (x y : Time) : Bool := (decide (x.epoch = y.epoch) && ((decide (x.loop.1 = y.loop.1) && (decide (x.loop.2 = y.loop.2) && true)) && true))

def freshetlaw04_at (p0 : Int) (p1 : Int) (p2 : Int) : Option Time :=
  some (⟨p0, (p1, p2)⟩ : Time)

def moment_greatest (p0 : Int) (p1 : Int) : Option Int :=
  some (if p0 < p1 then p1 else p0)

def moment_fold__greatest (p1 : List Time) : Option Time :=
  outK (rangeN (S := Time) (R := Empty) (fun i1 (a2 : Time) => jn (fun (a4 : Time) => (moment_greatest a4.epoch ((p1.getD i1 default).epoch)).bind fun r6 => outK (rangeN (S := Time) (R := Empty) (fun i7 (a8 : Time) => (match i7 with | 0 => (moment_greatest a8.loop.1 ((p1.getD i1 default).loop.1)).bind fun r10 => some (.next (⟨a8.epoch, (r10, a8.loop.2)⟩ : Time)) | _ => (moment_greatest a8.loop.2 ((p1.getD i1 default).loop.2)).bind fun r11 => some (.next (⟨a8.epoch, (a8.loop.1, r11)⟩ : Time)))) 2 0 (⟨r6, a4.loop⟩ : Time)) (fun (a9 : Time) => some (.next a9)) (fun (x : Empty) => x.elim)) fun j5 => bf (decide (((i1 : Nat) : Int) = 0)) (j5 (p1.getD i1 default)) (j5 a2)) p1.length 0 (⟨0, (0, 0)⟩ : Time)) (fun (a3 : Time) => some a3) (fun (x : Empty) => x.elim)

def moment_Lub (p0 : List Time) : Option Time :=
  (moment_fold__greatest p0).bind fun r1 => some r1

def moment_least (p0 : Int) (p1 : Int) : Option Int :=
  some (if p1 < p0 then p1 else p0)

def moment_fold__least (p1 : List Time) : Option Time :=
  outK (rangeN (S := Time) (R := Empty) (fun i1 (a2 : Time) => jn (fun (a4 : Time) => (moment_least a4.epoch ((p1.getD i1 default).epoch)).bind fun r6 => outK (rangeN (S := Time) (R := Empty) (fun i7 (a8 : Time) => (match i7 with | 0 => (moment_least a8.loop.1 ((p1.getD i1 default).loop.1)).bind fun r10 => some (.next (⟨a8.epoch, (r10, a8.loop.2)⟩ : Time)) | _ => (moment_least a8.loop.2 ((p1.getD i1 default).loop.2)).bind fun r11 => some (.next (⟨a8.epoch, (a8.loop.1, r11)⟩ : Time)))) 2 0 (⟨r6, a4.loop⟩ : Time)) (fun (a9 : Time) => some (.next a9)) (fun (x : Empty) => x.elim)) fun j5 => bf (decide (((i1 : Nat) : Int) = 0)) (j5 (p1.getD i1 default)) (j5 a2)) p1.length 0 (⟨0, (0, 0)⟩ : Time)) (fun (a3 : Time) => some a3) (fun (x : Empty) => x.elim)

def moment_Glb (p0 : List Time) : Option Time :=
  (moment_fold__least p0).bind fun r1 => some r1

def freshetlaw04_bounds  : Option Bool :=
  jn (fun (a1 : Bool) => some a1) fun j2 => (freshetlaw04_at 1 0 2).bind fun r3 => (freshetlaw04_at 2 0 1).bind fun r4 => (moment_Lub ([r3, r4] : List Time)).bind fun r5 => (freshetlaw04_at 2 0 2).bind fun r6 => bf (eqTime r5 r6) ((freshetlaw04_at 1 0 2).bind fun r7 => (freshetlaw04_at 2 0 1).bind fun r8 => (moment_Glb ([r7, r8] : List Time)).bind fun r9 => (freshetlaw04_at 1 0 1).bind fun r10 => j2 (eqTime r9 r10)) (j2 false)

def freshetlaw04_MomentTwice (p0 : List Time) (p1 : List Time) : Option Bool :=
  (freshetlaw04_bounds).bind fun r1 => bf (!r1) (some false) (need (p0.length ≤ 274877906944) <| need (p0.length + p1.length ≤ 274877906944) <| jn (fun (a4 : Bool) => bf a4 ((moment_Lub (p0 ++ p1)).bind fun r6 => (moment_Lub p0).bind fun r7 => (moment_Lub p1).bind fun r8 => (moment_Lub ([r7, r8] : List Time)).bind fun r9 => some (eqTime r6 r9)) (jn (fun (a10 : Bool) => some a10) fun j11 => (moment_Lub (p0 ++ p1)).bind fun r12 => (moment_Lub p0).bind fun r13 => (moment_Lub p1).bind fun r14 => (moment_Lub ([r13, r14] : List Time)).bind fun r15 => bf (eqTime r12 r15) ((moment_Glb (p0 ++ p1)).bind fun r16 => (moment_Glb p0).bind fun r17 => (moment_Glb p1).bind fun r18 => (moment_Glb ([r17, r18] : List Time)).bind fun r19 => j11 (eqTime r16 r19)) (j11 false))) fun j5 => bf (decide ((p0.length : Int) = 0)) (j5 true) (j5 (decide ((p1.length : Int) = 0))))

def freshetref04_Lub (p0 : List Time) : Option Time :=
  outK (rangeN (S := Time) (R := Empty) (fun i1 (a2 : Time) => jn (fun (a4 : Time) => outK (rangeN (S := Time) (R := Empty) (fun i6 (a7 : Time) => (match i6 with | 0 => bf (decide (a7.loop.1 < (p0.getD i1 default).loop.1)) (some (.next (⟨a7.epoch, ((p0.getD i1 default).loop.1, a7.loop.2)⟩ : Time))) (some (.next a7)) | _ => bf (decide (a7.loop.2 < (p0.getD i1 default).loop.2)) (some (.next (⟨a7.epoch, (a7.loop.1, (p0.getD i1 default).loop.2)⟩ : Time))) (some (.next a7)))) 2 0 a4) (fun (a8 : Time) => some (.next a8)) (fun (x : Empty) => x.elim)) fun j5 => bf (decide (a2.epoch < (p0.getD i1 default).epoch)) (j5 (⟨(p0.getD i1 default).epoch, a2.loop⟩ : Time)) (j5 a2)) p0.length 0 (⟨0, (0, 0)⟩ : Time)) (fun (a3 : Time) => some a3) (fun (x : Empty) => x.elim)

def freshetref04_Glb (p0 : List Time) : Option Time :=
  bf (decide ((p0.length : Int) = 0)) (some (⟨0, (0, 0)⟩ : Time)) (need ((0 : Int) ≤ 0 ∧ 0 < (p0.length : Int)) <| outK (rangeN (S := Time) (R := Empty) (fun i2 (a3 : Time) => jn (fun (a5 : Time) => outK (rangeN (S := Time) (R := Empty) (fun i7 (a8 : Time) => (match i7 with | 0 => bf (decide ((p0.getD i2 default).loop.1 < a8.loop.1)) (some (.next (⟨a8.epoch, ((p0.getD i2 default).loop.1, a8.loop.2)⟩ : Time))) (some (.next a8)) | _ => bf (decide ((p0.getD i2 default).loop.2 < a8.loop.2)) (some (.next (⟨a8.epoch, (a8.loop.1, (p0.getD i2 default).loop.2)⟩ : Time))) (some (.next a8)))) 2 0 a5) (fun (a9 : Time) => some (.next a9)) (fun (x : Empty) => x.elim)) fun j6 => bf (decide ((p0.getD i2 default).epoch < a3.epoch)) (j6 (⟨(p0.getD i2 default).epoch, a3.loop⟩ : Time)) (j6 a3)) p0.length 0 (p0.getD 0 default)) (fun (a4 : Time) => some a4) (fun (x : Empty) => x.elim))

def freshetlaw04_MomentBounds (p0 : List Time) : Option Bool :=
  jn (fun (a1 : Bool) => some a1) fun j2 => (freshetlaw04_bounds).bind fun r3 => bf r3 ((moment_Lub p0).bind fun r4 => (freshetref04_Lub p0).bind fun r5 => bf (eqTime r4 r5) ((moment_Glb p0).bind fun r6 => (freshetref04_Glb p0).bind fun r7 => j2 (eqTime r6 r7)) (j2 false)) (j2 false)

set_option maxRecDepth 100000 in
theorem freshetlaw04_at_ok {p0 : Int} {p1 : Int} {p2 : Int} {q : Time} (h : freshetlaw04_at p0 p1 p2 = some q) :
    Summ Try.prog 33 [.c (.d (.int .u64 p0)), .c (.d (.int .u64 p1)), .c (.d (.int .u64 p2))] [] (.agg [.d (.int .u64 q.epoch), .d (.int .u64 q.loop.1), .d (.int .u64 q.loop.2)]) [] := by
  refine Summ.intro Try.func33 rfl (by kernel_rfl) (by kernel_rfl) ?_
  rintro ⟨P, w0, G0, V, LL, lk, N⟩ rfl rfl rfl
  unfold freshetlaw04_at at h
  refine Tri.seqS ?_
  refine Tri.reg ?_
  refine At.seg 1 [0, 1, 2, 6] [6] (s' := ⟨[(0, .c (.d (.int .u64 p0))), (1, .c (.d (.int .u64 p1))), (2, .c (.d (.int .u64 p2))), (6, .c (.ptr 6 0))], [(6, .box [.d (.int .u64 0), .d (.int .u64 0), .d (.int .u64 0)])]⟩) (c := True ∧ True) (by kernel_rfl) ⟨trivial, trivial⟩ ?_
  refine At.done rfl ?_
  show Tri _ _ _ _
  refine Tri.seqS ?_
  refine Tri.reg ?_
  refine At.seg 6 [6] [6] (s' := ⟨[(6, .c (.ptr 6 0))], [(6, .box [.d (.int .u64 p0), .d (.int .u64 p1), .d (.int .u64 p2)])]⟩) (c := True ∧ True ∧ True ∧ True ∧ True ∧ True ∧ True) (by kernel_rfl) ⟨trivial, trivial, trivial, trivial, trivial, trivial, trivial⟩ ?_
  refine At.done rfl ?_
  show Tri _ _ _ _
  refine Tri.keep [6] [6] (s' := ⟨[(6, .c (.ptr 6 0))], [(6, .box [.d (.int .u64 p0), .d (.int .u64 p1), .d (.int .u64 p2)])]⟩) (by kernel_rfl) ?_
  refine Tri.ret ?_
  cases h
  refine ⟨_, _, rfl, ⟨trivial, trivial⟩, rfl, rfl, ?_⟩
  intro k c h
  cases h

set_option maxRecDepth 100000 in
theorem moment_greatest_ok {p0 : Int} {p1 : Int} {q : Int} (h : moment_greatest p0 p1 = some q) :
    Summ Try.prog 35 [.c (.d (.int .u64 p0)), .c (.d (.int .u64 p1))] [] (.c (.d (.int .u64 q))) [] := by
  refine Summ.intro Try.func35 rfl (by kernel_rfl) (by kernel_rfl) ?_
  rintro ⟨P, w0, G0, V, LL, lk, N⟩ rfl rfl rfl
  unfold moment_greatest at h
  refine Tri.seqS ?_
  refine Tri.reg ?_
  refine At.seg 1 [0, 1] [] (s' := ⟨[(0, .c (.d (.int .u64 p0))), (1, .c (.d (.int .u64 p1)))], []⟩) (c := True ∧ True) (by kernel_rfl) ⟨trivial, trivial⟩ ?_
  refine At.done rfl ?_
  show Tri _ _ _ _
  refine Tri.seqS ?_
  refine Tri.reg ?_
  refine At.seg 4 [4] [] (s' := ⟨[(4, .c (.d (.int .u64 (if p0 < p1 then p1 else p0))))], []⟩) (c := True ∧ True ∧ True ∧ True ∧ True) (by kernel_rfl) ⟨trivial, trivial, trivial, trivial, trivial⟩ ?_
  refine At.done rfl ?_
  show Tri _ _ _ _
  refine Tri.keep [4] [] (s' := ⟨[(4, .c (.d (.int .u64 (if p0 < p1 then p1 else p0))))], []⟩) (by kernel_rfl) ?_
  refine Tri.ret ?_
  cases h
  refine ⟨_, _, rfl, ⟨trivial, trivial⟩, rfl, rfl, ?_⟩
  intro k c h
  cases h

set_option maxRecDepth 100000 in
theorem moment_fold__greatest_ok {p1 : List Time} {q : Time} (h : moment_fold__greatest p1 = some q) :
    Summ Try.prog 34 [.c (.d (.fn 35 [])), .c (.d (.list 3 p1.length (fun i => encTime (p1.getD i default))))] [] (.agg [.d (.int .u64 q.epoch), .d (.int .u64 q.loop.1), .d (.int .u64 q.loop.2)]) [] := by
  refine Summ.intro Try.func34 rfl (by kernel_rfl) (by kernel_rfl) ?_
  rintro ⟨P, w0, G0, V, LL, lk, N⟩ rfl rfl rfl
  unfold moment_fold__greatest at h
  refine Tri.seqS ?_
  refine Tri.reg ?_
  refine At.seg 1 [0, 1, 4] [4] (s' := ⟨[(0, .c (.d (.fn 35 []))), (1, .c (.d (.list 3 p1.length (fun i => encTime (p1.getD i default))))), (4, .c (.ptr 4 0))], [(4, .box [.d (.int .u64 0), .d (.int .u64 0), .d (.int .u64 0)])]⟩) (c := True ∧ True) (by kernel_rfl) ⟨trivial, trivial⟩ ?_
  refine At.done rfl ?_
  show Tri _ _ _ _
  refine Tri.seqS ?_
  refine Tri.seqS ?_
  refine Tri.reg ?_
  refine At.seg 3 [0, 4, 8, 9, 10] [4] (s' := ⟨[(0, .c (.d (.fn 35 []))), (4, .c (.ptr 4 0)), (8, .c (.d (.list 3 p1.length (fun i => encTime (p1.getD i default))))), (9, .c (.d (.int .i64 (p1.length : Int)))), (10, .c (.d (.int .i64 0)))], [(4, .box [.d (.int .u64 0), .d (.int .u64 0), .d (.int .u64 0)])]⟩) (c := True ∧ True ∧ True ∧ True) (by kernel_rfl) ⟨trivial, trivial, trivial, trivial⟩ ?_
  refine At.done rfl ?_
  show Tri _ _ _ _
  refine Tri.lenOf (t := 8) rfl fun hlena2 => ?_
  refine Tri.keep [10, 0, 4, 8, 9] [4] (s' := idx 10 0 ⟨[(0, .c (.d (.fn 35 []))), (4, .c (.ptr 4 0)), (8, .c (.d (.list 3 p1.length (fun i => encTime (p1.getD i default))))), (9, .c (.d (.int .i64 (p1.length : Int))))], [(4, .box [.d (.int .u64 ((⟨0, (0, 0)⟩ : Time).epoch)), .d (.int .u64 ((⟨0, (0, 0)⟩ : Time).loop.1)), .d (.int .u64 ((⟨0, (0, 0)⟩ : Time).loop.2))])]⟩) (by kernel_rfl) ?_
  refine Tri.range (n := p1.length) (st0 := (⟨0, (0, 0)⟩ : Time)) (fun (x : Empty) s => False) (fun (a2 : Time) => ⟨[(0, .c (.d (.fn 35 []))), (4, .c (.ptr 4 0)), (8, .c (.d (.list 3 p1.length (fun i => encTime (p1.getD i default))))), (9, .c (.d (.int .i64 (p1.length : Int))))], [(4, .box [.d (.int .u64 a2.epoch), .d (.int .u64 a2.loop.1), .d (.int .u64 a2.loop.2)])]⟩) (fun (a2 : Time) => ⟨[(0, .c (.d (.fn 35 []))), (4, .c (.ptr 4 0)), (8, .c (.d (.list 3 p1.length (fun i => encTime (p1.getD i default))))), (9, .c (.d (.int .i64 (p1.length : Int))))], [(4, .box [.d (.int .u64 a2.epoch), .d (.int .u64 a2.loop.1), .d (.int .u64 a2.loop.2)])]⟩) (fun i => decide ((i : Int) < (p1.length : Int))) [11, 10, 0, 4, 8, 9] [4] [0, 4, 8, 9] [4] [10, 0, 4, 8, 9] [4] h hlena2 rfl ?_ ?_ ?_ ?_ ?_ ?_ ?_ ?_
  · exact fun i a => ⟨True ∧ True, by kernel_rfl, ⟨trivial, trivial⟩⟩
  · exact fun i hi => decide_eq_true (by omega)
  · exact decide_eq_false (by omega)
  · exact fun a => by kernel_rfl
  · exact fun i a => ⟨True ∧ True ∧ True, by kernel_rfl, ⟨trivial, trivial, trivial⟩⟩
  · intro i1 a2 c hii1 h
    refine Tri.seqS ?_
    refine Tri.reg ?_
    refine At.seg 6 [0, 4, 5, 6, 8, 9, 10] [4, 6] (s' := ⟨[(0, .c (.d (.fn 35 []))), (4, .c (.ptr 4 0)), (5, .c (.d (.int .i64 ((i1 : Nat) : Int)))), (6, .c (.ptr 6 0)), (8, .c (.d (.list 3 p1.length (fun i => encTime (p1.getD i default))))), (9, .c (.d (.int .i64 (p1.length : Int)))), (10, .c (.d (.int .i64 ((i1 : Nat) : Int))))], [(4, .box [.d (.int .u64 a2.epoch), .d (.int .u64 a2.loop.1), .d (.int .u64 a2.loop.2)]), (6, .box [.d (.int .u64 ((p1.getD i1 default).epoch)), .d (.int .u64 ((p1.getD i1 default).loop.1)), .d (.int .u64 ((p1.getD i1 default).loop.2))])]⟩) (c := True ∧ ((0 : Int) ≤ ((i1 : Nat) : Int) ∧ ((i1 : Nat) : Int) < (p1.length : Int)) ∧ True ∧ True ∧ True ∧ True ∧ True) (by kernel_rfl) ⟨trivial, ⟨by omega, by omega⟩, trivial, trivial, trivial, trivial, trivial⟩ ?_
    refine At.done rfl ?_
    show Tri _ _ _ _
    refine Tri.seqJ (fun (a4 : Time) => ⟨[(0, .c (.d (.fn 35 []))), (4, .c (.ptr 4 0)), (6, .c (.ptr 6 0)), (8, .c (.d (.list 3 p1.length (fun i => encTime (p1.getD i default))))), (9, .c (.d (.int .i64 (p1.length : Int)))), (10, .c (.d (.int .i64 ((i1 : Nat) : Int))))], [(4, .box [.d (.int .u64 a4.epoch), .d (.int .u64 a4.loop.1), .d (.int .u64 a4.loop.2)]), (6, .box [.d (.int .u64 ((p1.getD i1 default).epoch)), .d (.int .u64 ((p1.getD i1 default).loop.1)), .d (.int .u64 ((p1.getD i1 default).loop.2))])]⟩) h (fun a4 h => ?_) (fun j5 h => ?_)
    · show Tri _ _ ⟨[(0, .c (.d (.fn 35 []))), (4, .c (.ptr 4 0)), (6, .c (.ptr 6 0)), (8, .c (.d (.list 3 p1.length (fun i => encTime (p1.getD i default))))), (9, .c (.d (.int .i64 (p1.length : Int)))), (10, .c (.d (.int .i64 ((i1 : Nat) : Int))))], [(4, .box [.d (.int .u64 a4.epoch), .d (.int .u64 a4.loop.1), .d (.int .u64 a4.loop.2)]), (6, .box [.d (.int .u64 ((p1.getD i1 default).epoch)), .d (.int .u64 ((p1.getD i1 default).loop.1)), .d (.int .u64 ((p1.getD i1 default).loop.2))])]⟩ _
      refine Tri.seqS ?_
      refine Tri.reg ?_
      refine At.seg 5 [0, 4, 6, 8, 9, 10, 18, 20, 22] [4, 6] (s' := ⟨[(0, .c (.d (.fn 35 []))), (4, .c (.ptr 4 0)), (6, .c (.ptr 6 0)), (8, .c (.d (.list 3 p1.length (fun i => encTime (p1.getD i default))))), (9, .c (.d (.int .i64 (p1.length : Int)))), (10, .c (.d (.int .i64 ((i1 : Nat) : Int)))), (18, .c (.d (.fn 35 []))), (20, .c (.d (.int .u64 a4.epoch))), (22, .c (.d (.int .u64 ((p1.getD i1 default).epoch))))], [(4, .box [.d (.int .u64 a4.epoch), .d (.int .u64 a4.loop.1), .d (.int .u64 a4.loop.2)]), (6, .box [.d (.int .u64 ((p1.getD i1 default).epoch)), .d (.int .u64 ((p1.getD i1 default).loop.1)), .d (.int .u64 ((p1.getD i1 default).loop.2))])]⟩) (c := True ∧ True ∧ True ∧ True ∧ True ∧ True) (by kernel_rfl) ⟨trivial, trivial, trivial, trivial, trivial, trivial⟩ ?_
      obtain ⟨r6, hr6, h⟩ := bind_elim h
      refine At.callA (caps := []) (xs := [.c (.d (.int .u64 a4.epoch)), .c (.d (.int .u64 ((p1.getD i1 default).epoch)))]) (moment_greatest_ok hr6) rfl rfl rfl rfl rfl rfl (.cons (.refl _) (.cons (.refl _) .nil)) rfl rfl ?_
      refine At.seg 2 [0, 4, 6, 8, 9, 10] [4, 6] (s' := ⟨[(0, .c (.d (.fn 35 []))), (4, .c (.ptr 4 0)), (6, .c (.ptr 6 0)), (8, .c (.d (.list 3 p1.length (fun i => encTime (p1.getD i default))))), (9, .c (.d (.int .i64 (p1.length : Int)))), (10, .c (.d (.int .i64 ((i1 : Nat) : Int))))], [(4, .box [.d (.int .u64 r6), .d (.int .u64 a4.loop.1), .d (.int .u64 a4.loop.2)]), (6, .box [.d (.int .u64 ((p1.getD i1 default).epoch)), .d (.int .u64 ((p1.getD i1 default).loop.1)), .d (.int .u64 ((p1.getD i1 default).loop.2))])]⟩) (c := True ∧ True ∧ True) (by kernel_rfl) ⟨trivial, trivial, trivial⟩ ?_
      refine At.done rfl ?_
      show Tri _ _ _ _
      refine Tri.seqS ?_
      refine Tri.reg ?_
      refine At.seg 1 [0, 4, 6, 8, 9, 10, 25] [4, 6] (s' := ⟨[(0, .c (.d (.fn 35 []))), (4, .c (.ptr 4 0)), (6, .c (.ptr 6 0)), (8, .c (.d (.list 3 p1.length (fun i => encTime (p1.getD i default))))), (9, .c (.d (.int .i64 (p1.length : Int)))), (10, .c (.d (.int .i64 ((i1 : Nat) : Int)))), (25, .c (.d (.int .i64 0)))], [(4, .box [.d (.int .u64 r6), .d (.int .u64 a4.loop.1), .d (.int .u64 a4.loop.2)]), (6, .box [.d (.int .u64 ((p1.getD i1 default).epoch)), .d (.int .u64 ((p1.getD i1 default).loop.1)), .d (.int .u64 ((p1.getD i1 default).loop.2))])]⟩) (c := True ∧ True) (by kernel_rfl) ⟨trivial, trivial⟩ ?_
      refine At.done rfl ?_
      show Tri _ _ _ _
      refine Tri.keep [25, 0, 4, 6, 8, 9, 10] [4, 6] (s' := idx 25 0 ⟨[(0, .c (.d (.fn 35 []))), (4, .c (.ptr 4 0)), (6, .c (.ptr 6 0)), (8, .c (.d (.list 3 p1.length (fun i => encTime (p1.getD i default))))), (9, .c (.d (.int .i64 (p1.length : Int)))), (10, .c (.d (.int .i64 ((i1 : Nat) : Int))))], [(4, .box [.d (.int .u64 ((⟨r6, a4.loop⟩ : Time).epoch)), .d (.int .u64 ((⟨r6, a4.loop⟩ : Time).loop.1)), .d (.int .u64 ((⟨r6, a4.loop⟩ : Time).loop.2))]), (6, .box [.d (.int .u64 ((p1.getD i1 default).epoch)), .d (.int .u64 ((p1.getD i1 default).loop.1)), .d (.int .u64 ((p1.getD i1 default).loop.2))])]⟩) (by kernel_rfl) ?_
      refine Tri.range (n := 2) (st0 := (⟨r6, a4.loop⟩ : Time)) (fun (x : Empty) s => False) (fun (a8 : Time) => ⟨[(0, .c (.d (.fn 35 []))), (4, .c (.ptr 4 0)), (6, .c (.ptr 6 0)), (8, .c (.d (.list 3 p1.length (fun i => encTime (p1.getD i default))))), (9, .c (.d (.int .i64 (p1.length : Int)))), (10, .c (.d (.int .i64 ((i1 : Nat) : Int))))], [(4, .box [.d (.int .u64 a8.epoch), .d (.int .u64 a8.loop.1), .d (.int .u64 a8.loop.2)]), (6, .box [.d (.int .u64 ((p1.getD i1 default).epoch)), .d (.int .u64 ((p1.getD i1 default).loop.1)), .d (.int .u64 ((p1.getD i1 default).loop.2))])]⟩) (fun (a8 : Time) => ⟨[(10, .c (.d (.int .i64 ((i1 : Nat) : Int)))), (0, .c (.d (.fn 35 []))), (4, .c (.ptr 4 0)), (8, .c (.d (.list 3 p1.length (fun i => encTime (p1.getD i default))))), (9, .c (.d (.int .i64 (p1.length : Int))))], [(4, .box [.d (.int .u64 a8.epoch), .d (.int .u64 a8.loop.1), .d (.int .u64 a8.loop.2)])]⟩) (fun i => decide ((i : Int) < (2 : Int))) [26, 25, 0, 4, 6, 8, 9, 10] [4, 6] [10, 0, 4, 8, 9] [4] [25, 0, 4, 6, 8, 9, 10] [4, 6] h (by unfold maxN; omega) rfl ?_ ?_ ?_ ?_ ?_ ?_ ?_ ?_
      · exact fun i a => ⟨True ∧ True, by kernel_rfl, ⟨trivial, trivial⟩⟩
      · exact fun i hi => decide_eq_true (by omega)
      · exact decide_eq_false (by omega)
      · exact fun a => by kernel_rfl
      · exact fun i a => ⟨True ∧ True ∧ True, by kernel_rfl, ⟨trivial, trivial, trivial⟩⟩
      · intro i7 a8 c hii7 h
        rcases i7 with _ | i7
        · refine Tri.seqS ?_
          refine Tri.reg ?_
          refine At.seg 2 [0, 4, 6, 7, 8, 9, 10, 25] [4, 6] (s' := ⟨[(0, .c (.d (.fn 35 []))), (4, .c (.ptr 4 0)), (6, .c (.ptr 6 0)), (7, .c (.d (.int .i64 ((0 : Nat) : Int)))), (8, .c (.d (.list 3 p1.length (fun i => encTime (p1.getD i default))))), (9, .c (.d (.int .i64 (p1.length : Int)))), (10, .c (.d (.int .i64 ((i1 : Nat) : Int)))), (25, .c (.d (.int .i64 ((0 : Nat) : Int))))], [(4, .box [.d (.int .u64 a8.epoch), .d (.int .u64 a8.loop.1), .d (.int .u64 a8.loop.2)]), (6, .box [.d (.int .u64 ((p1.getD i1 default).epoch)), .d (.int .u64 ((p1.getD i1 default).loop.1)), .d (.int .u64 ((p1.getD i1 default).loop.2))])]⟩) (c := True ∧ True ∧ True) (by kernel_rfl) ⟨trivial, trivial, trivial⟩ ?_
          refine At.done rfl ?_
          show Tri _ _ _ _
          obtain ⟨r10, hr10, h⟩ := bind_elim h
          refine Tri.drawn (specs := [⟨⟨[(7, .c (.d (.int .i64 ((0 : Nat) : Int))))], []⟩, ⟨[(28, .c (.d (.int .i64 ((0 : Nat) : Int))))], []⟩, [], []⟩, ⟨⟨[(0, .c (.d (.fn 35 [])))], []⟩, ⟨[(29, .c (.d (.fn 35 [])))], []⟩, [], []⟩, ⟨⟨[(7, .c (.d (.int .i64 ((0 : Nat) : Int))))], []⟩, ⟨[(30, .c (.d (.int .i64 ((0 : Nat) : Int))))], []⟩, [], []⟩, ⟨⟨[(4, .c (.ptr 4 0))], []⟩, ⟨[(31, .c (.ptr 4 1))], []⟩, [], []⟩, ⟨⟨[(30, .c (.d (.int .i64 ((0 : Nat) : Int)))), (31, .c (.ptr 4 1))], []⟩, ⟨[(32, .c (.ptr 4 1))], []⟩, [], []⟩, ⟨⟨[(32, .c (.ptr 4 1))], [(4, .box [.d (.int .u64 a8.epoch), .d (.int .u64 a8.loop.1), .d (.int .u64 a8.loop.2)])]⟩, ⟨[(33, .c (.d (.int .u64 a8.loop.1)))], []⟩, [], []⟩, ⟨⟨[(7, .c (.d (.int .i64 ((0 : Nat) : Int))))], []⟩, ⟨[(34, .c (.d (.int .i64 ((0 : Nat) : Int))))], []⟩, [], []⟩, ⟨⟨[(6, .c (.ptr 6 0))], []⟩, ⟨[(35, .c (.ptr 6 1))], []⟩, [], []⟩, ⟨⟨[(34, .c (.d (.int .i64 ((0 : Nat) : Int)))), (35, .c (.ptr 6 1))], []⟩, ⟨[(36, .c (.ptr 6 1))], []⟩, [], []⟩, ⟨⟨[(36, .c (.ptr 6 1))], [(6, .box [.d (.int .u64 ((p1.getD i1 default).epoch)), .d (.int .u64 ((p1.getD i1 default).loop.1)), .d (.int .u64 ((p1.getD i1 default).loop.2))])]⟩, ⟨[(37, .c (.d (.int .u64 ((p1.getD i1 default).loop.1))))], []⟩, [], []⟩, ⟨⟨[(29, .c (.d (.fn 35 []))), (33, .c (.d (.int .u64 a8.loop.1))), (37, .c (.d (.int .u64 ((p1.getD i1 default).loop.1))))], []⟩, ⟨[(38, .c (.d (.int .u64 r10)))], []⟩, [], []⟩, ⟨⟨[(4, .c (.ptr 4 0))], []⟩, ⟨[(39, .c (.ptr 4 1))], []⟩, [], []⟩, ⟨⟨[(28, .c (.d (.int .i64 ((0 : Nat) : Int)))), (39, .c (.ptr 4 1))], []⟩, ⟨[(40, .c (.ptr 4 1))], []⟩, [], []⟩, ⟨⟨[(38, .c (.d (.int .u64 r10))), (40, .c (.ptr 4 1))], [(4, .box [.d (.int .u64 a8.epoch), .d (.int .u64 a8.loop.1), .d (.int .u64 a8.loop.2)])]⟩, ⟨[], [(4, .box [.d (.int .u64 a8.epoch), .d (.int .u64 r10), .d (.int .u64 a8.loop.2)])]⟩, [], []⟩]) (bef := [[], [], [], [], [2, 3], [2, 3, 4], [], [], [6, 7], [6, 7, 8], [1, 2, 3, 4, 5, 6, 7, 8, 9], [], [0, 1, 2, 3, 4, 5, 6, 7, 8, 9, 10, 11], [0, 1, 2, 3, 4, 5, 6, 7, 8, 9, 10, 11, 12]]) (tk := [25, 0, 4, 6, 8, 9, 10]) (sk := [4, 6]) (s' := ⟨[(25, .c (.d (.int .i64 ((0 : Nat) : Int)))), (0, .c (.d (.fn 35 []))), (4, .c (.ptr 4 0)), (6, .c (.ptr 6 0)), (8, .c (.d (.list 3 p1.length (fun i => encTime (p1.getD i default))))), (9, .c (.d (.int .i64 (p1.length : Int)))), (10, .c (.d (.int .i64 ((i1 : Nat) : Int))))], [(4, .box [.d (.int .u64 a8.epoch), .d (.int .u64 r10), .d (.int .u64 a8.loop.2)]), (6, .box [.d (.int .u64 ((p1.getD i1 default).epoch)), .d (.int .u64 ((p1.getD i1 default).loop.1)), .d (.int .u64 ((p1.getD i1 default).loop.2))])]⟩) (by kernel_rfl) (by kernel_rfl) (by kernel_rfl) ⟨?_, ?_, ?_, ?_, ?_, ?_, ?_, ?_, ?_, ?_, ?_, ?_, ?_, ?_, trivial⟩ (by kernel_rfl) ?_
          · exact DOk.step (.val (.c (.d (.int .i64 ((0 : Nat) : Int)))) (True)) (fun r => by kernel_rfl) (fun r => by kernel_rfl) trivial (by kernel_rfl) (by kernel_rfl) (fun r => rfl)
          · exact DOk.step (.val (.c (.d (.fn 35 []))) (True)) (fun r => by kernel_rfl) (fun r => by kernel_rfl) trivial (by kernel_rfl) (by kernel_rfl) (fun r => rfl)
          · exact DOk.step (.val (.c (.d (.int .i64 ((0 : Nat) : Int)))) (True)) (fun r => by kernel_rfl) (fun r => by kernel_rfl) trivial (by kernel_rfl) (by kernel_rfl) (fun r => rfl)
          · exact DOk.step (.val (.c (.ptr 4 1)) (True)) (fun r => by kernel_rfl) (fun r => by kernel_rfl) trivial (by kernel_rfl) (by kernel_rfl) (fun r => rfl)
          · exact DOk.step (.val (.c (.ptr 4 1)) (True)) (fun r => by kernel_rfl) (fun r => by kernel_rfl) trivial (by kernel_rfl) (by kernel_rfl) (fun r => rfl)
          · exact DOk.step (.val (.c (.d (.int .u64 a8.loop.1))) (True)) (fun r => by kernel_rfl) (fun r => by kernel_rfl) trivial (by kernel_rfl) (by kernel_rfl) (fun r => rfl)
          · exact DOk.step (.val (.c (.d (.int .i64 ((0 : Nat) : Int)))) (True)) (fun r => by kernel_rfl) (fun r => by kernel_rfl) trivial (by kernel_rfl) (by kernel_rfl) (fun r => rfl)
          · exact DOk.step (.val (.c (.ptr 6 1)) (True)) (fun r => by kernel_rfl) (fun r => by kernel_rfl) trivial (by kernel_rfl) (by kernel_rfl) (fun r => rfl)
          · exact DOk.step (.val (.c (.ptr 6 1)) (True)) (fun r => by kernel_rfl) (fun r => by kernel_rfl) trivial (by kernel_rfl) (by kernel_rfl) (fun r => rfl)
          · exact DOk.step (.val (.c (.d (.int .u64 ((p1.getD i1 default).loop.1)))) (True)) (fun r => by kernel_rfl) (fun r => by kernel_rfl) trivial (by kernel_rfl) (by kernel_rfl) (fun r => rfl)
          · exact DOk.callA (caps := []) (xs := [.c (.d (.int .u64 a8.loop.1)), .c (.d (.int .u64 ((p1.getD i1 default).loop.1)))]) (moment_greatest_ok hr10) rfl (fun r => by kernel_rfl) rfl (fun r => by kernel_rfl) (fun r => by kernel_rfl) (fun r => (.cons (.refl _) (.cons (.refl _) .nil))) rfl rfl (fun r => rfl)
          · exact DOk.step (.val (.c (.ptr 4 1)) (True)) (fun r => by kernel_rfl) (fun r => by kernel_rfl) trivial (by kernel_rfl) (by kernel_rfl) (fun r => rfl)
          · exact DOk.step (.val (.c (.ptr 4 1)) (True)) (fun r => by kernel_rfl) (fun r => by kernel_rfl) trivial (by kernel_rfl) (by kernel_rfl) (fun r => rfl)
          · exact DOk.step (.turn 4 (.box [.d (.int .u64 a8.epoch), .d (.int .u64 r10), .d (.int .u64 a8.loop.2)])) (fun r => by kernel_rfl) (fun r => by kernel_rfl) trivial (by kernel_rfl) (by kernel_rfl) (fun r => rfl)
          cases h
          exact rfl
        rcases i7 with _ | i7
        · refine Tri.seqS ?_
          refine Tri.reg ?_
          refine At.seg 2 [0, 4, 6, 7, 8, 9, 10, 25] [4, 6] (s' := ⟨[(0, .c (.d (.fn 35 []))), (4, .c (.ptr 4 0)), (6, .c (.ptr 6 0)), (7, .c (.d (.int .i64 ((1 : Nat) : Int)))), (8, .c (.d (.list 3 p1.length (fun i => encTime (p1.getD i default))))), (9, .c (.d (.int .i64 (p1.length : Int)))), (10, .c (.d (.int .i64 ((i1 : Nat) : Int)))), (25, .c (.d (.int .i64 ((1 : Nat) : Int))))], [(4, .box [.d (.int .u64 a8.epoch), .d (.int .u64 a8.loop.1), .d (.int .u64 a8.loop.2)]), (6, .box [.d (.int .u64 ((p1.getD i1 default).epoch)), .d (.int .u64 ((p1.getD i1 default).loop.1)), .d (.int .u64 ((p1.getD i1 default).loop.2))])]⟩) (c := True ∧ True ∧ True) (by kernel_rfl) ⟨trivial, trivial, trivial⟩ ?_
          refine At.done rfl ?_
          show Tri _ _ _ _
          obtain ⟨r11, hr11, h⟩ := bind_elim h
          refine Tri.drawn (specs := [⟨⟨[(7, .c (.d (.int .i64 ((1 : Nat) : Int))))], []⟩, ⟨[(28, .c (.d (.int .i64 ((1 : Nat) : Int))))], []⟩, [], []⟩, ⟨⟨[(0, .c (.d (.fn 35 [])))], []⟩, ⟨[(29, .c (.d (.fn 35 [])))], []⟩, [], []⟩, ⟨⟨[(7, .c (.d (.int .i64 ((1 : Nat) : Int))))], []⟩, ⟨[(30, .c (.d (.int .i64 ((1 : Nat) : Int))))], []⟩, [], []⟩, ⟨⟨[(4, .c (.ptr 4 0))], []⟩, ⟨[(31, .c (.ptr 4 1))], []⟩, [], []⟩, ⟨⟨[(30, .c (.d (.int .i64 ((1 : Nat) : Int)))), (31, .c (.ptr 4 1))], []⟩, ⟨[(32, .c (.ptr 4 2))], []⟩, [], []⟩, ⟨⟨[(32, .c (.ptr 4 2))], [(4, .box [.d (.int .u64 a8.epoch), .d (.int .u64 a8.loop.1), .d (.int .u64 a8.loop.2)])]⟩, ⟨[(33, .c (.d (.int .u64 a8.loop.2)))], []⟩, [], []⟩, ⟨⟨[(7, .c (.d (.int .i64 ((1 : Nat) : Int))))], []⟩, ⟨[(34, .c (.d (.int .i64 ((1 : Nat) : Int))))], []⟩, [], []⟩, ⟨⟨[(6, .c (.ptr 6 0))], []⟩, ⟨[(35, .c (.ptr 6 1))], []⟩, [], []⟩, ⟨⟨[(34, .c (.d (.int .i64 ((1 : Nat) : Int)))), (35, .c (.ptr 6 1))], []⟩, ⟨[(36, .c (.ptr 6 2))], []⟩, [], []⟩, ⟨⟨[(36, .c (.ptr 6 2))], [(6, .box [.d (.int .u64 ((p1.getD i1 default).epoch)), .d (.int .u64 ((p1.getD i1 default).loop.1)), .d (.int .u64 ((p1.getD i1 default).loop.2))])]⟩, ⟨[(37, .c (.d (.int .u64 ((p1.getD i1 default).loop.2))))], []⟩, [], []⟩, ⟨⟨[(29, .c (.d (.fn 35 []))), (33, .c (.d (.int .u64 a8.loop.2))), (37, .c (.d (.int .u64 ((p1.getD i1 default).loop.2))))], []⟩, ⟨[(38, .c (.d (.int .u64 r11)))], []⟩, [], []⟩, ⟨⟨[(4, .c (.ptr 4 0))], []⟩, ⟨[(39, .c (.ptr 4 1))], []⟩, [], []⟩, ⟨⟨[(28, .c (.d (.int .i64 ((1 : Nat) : Int)))), (39, .c (.ptr 4 1))], []⟩, ⟨[(40, .c (.ptr 4 2))], []⟩, [], []⟩, ⟨⟨[(38, .c (.d (.int .u64 r11))), (40, .c (.ptr 4 2))], [(4, .box [.d (.int .u64 a8.epoch), .d (.int .u64 a8.loop.1), .d (.int .u64 a8.loop.2)])]⟩, ⟨[], [(4, .box [.d (.int .u64 a8.epoch), .d (.int .u64 a8.loop.1), .d (.int .u64 r11)])]⟩, [], []⟩]) (bef := [[], [], [], [], [2, 3], [2, 3, 4], [], [], [6, 7], [6, 7, 8], [1, 2, 3, 4, 5, 6, 7, 8, 9], [], [0, 1, 2, 3, 4, 5, 6, 7, 8, 9, 10, 11], [0, 1, 2, 3, 4, 5, 6, 7, 8, 9, 10, 11, 12]]) (tk := [25, 0, 4, 6, 8, 9, 10]) (sk := [4, 6]) (s' := ⟨[(25, .c (.d (.int .i64 ((1 : Nat) : Int)))), (0, .c (.d (.fn 35 []))), (4, .c (.ptr 4 0)), (6, .c (.ptr 6 0)), (8, .c (.d (.list 3 p1.length (fun i => encTime (p1.getD i default))))), (9, .c (.d (.int .i64 (p1.length : Int)))), (10, .c (.d (.int .i64 ((i1 : Nat) : Int))))], [(4, .box [.d (.int .u64 a8.epoch), .d (.int .u64 a8.loop.1), .d (.int .u64 r11)]), (6, .box [.d (.int .u64 ((p1.getD i1 default).epoch)), .d (.int .u64 ((p1.getD i1 default).loop.1)), .d (.int .u64 ((p1.getD i1 default).loop.2))])]⟩) (by kernel_rfl) (by kernel_rfl) (by kernel_rfl) ⟨?_, ?_, ?_, ?_, ?_, ?_, ?_, ?_, ?_, ?_, ?_, ?_, ?_, ?_, trivial⟩ (by kernel_rfl) ?_
          · exact DOk.step (.val (.c (.d (.int .i64 ((1 : Nat) : Int)))) (True)) (fun r => by kernel_rfl) (fun r => by kernel_rfl) trivial (by kernel_rfl) (by kernel_rfl) (fun r => rfl)
          · exact DOk.step (.val (.c (.d (.fn 35 []))) (True)) (fun r => by kernel_rfl) (fun r => by kernel_rfl) trivial (by kernel_rfl) (by kernel_rfl) (fun r => rfl)
          · exact DOk.step (.val (.c (.d (.int .i64 ((1 : Nat) : Int)))) (True)) (fun r => by kernel_rfl) (fun r => by kernel_rfl) trivial (by kernel_rfl) (by kernel_rfl) (fun r => rfl)
          · exact DOk.step (.val (.c (.ptr 4 1)) (True)) (fun r => by kernel_rfl) (fun r => by kernel_rfl) trivial (by kernel_rfl) (by kernel_rfl) (fun r => rfl)
          · exact DOk.step (.val (.c (.ptr 4 2)) (True)) (fun r => by kernel_rfl) (fun r => by kernel_rfl) trivial (by kernel_rfl) (by kernel_rfl) (fun r => rfl)
          · exact DOk.step (.val (.c (.d (.int .u64 a8.loop.2))) (True)) (fun r => by kernel_rfl) (fun r => by kernel_rfl) trivial (by kernel_rfl) (by kernel_rfl) (fun r => rfl)
          · exact DOk.step (.val (.c (.d (.int .i64 ((1 : Nat) : Int)))) (True)) (fun r => by kernel_rfl) (fun r => by kernel_rfl) trivial (by kernel_rfl) (by kernel_rfl) (fun r => rfl)
          · exact DOk.step (.val (.c (.ptr 6 1)) (True)) (fun r => by kernel_rfl) (fun r => by kernel_rfl) trivial (by kernel_rfl) (by kernel_rfl) (fun r => rfl)
          · exact DOk.step (.val (.c (.ptr 6 2)) (True)) (fun r => by kernel_rfl) (fun r => by kernel_rfl) trivial (by kernel_rfl) (by kernel_rfl) (fun r => rfl)
          · exact DOk.step (.val (.c (.d (.int .u64 ((p1.getD i1 default).loop.2)))) (True)) (fun r => by kernel_rfl) (fun r => by kernel_rfl) trivial (by kernel_rfl) (by kernel_rfl) (fun r => rfl)
          · exact DOk.callA (caps := []) (xs := [.c (.d (.int .u64 a8.loop.2)), .c (.d (.int .u64 ((p1.getD i1 default).loop.2)))]) (moment_greatest_ok hr11) rfl (fun r => by kernel_rfl) rfl (fun r => by kernel_rfl) (fun r => by kernel_rfl) (fun r => (.cons (.refl _) (.cons (.refl _) .nil))) rfl rfl (fun r => rfl)
          · exact DOk.step (.val (.c (.ptr 4 1)) (True)) (fun r => by kernel_rfl) (fun r => by kernel_rfl) trivial (by kernel_rfl) (by kernel_rfl) (fun r => rfl)
          · exact DOk.step (.val (.c (.ptr 4 2)) (True)) (fun r => by kernel_rfl) (fun r => by kernel_rfl) trivial (by kernel_rfl) (by kernel_rfl) (fun r => rfl)
          · exact DOk.step (.turn 4 (.box [.d (.int .u64 a8.epoch), .d (.int .u64 a8.loop.1), .d (.int .u64 r11)])) (fun r => by kernel_rfl) (fun r => by kernel_rfl) trivial (by kernel_rfl) (by kernel_rfl) (fun r => rfl)
          cases h
          exact rfl
        exact absurd hii7 (by omega)
      · intro a9 h
        cases h
        exact rfl
      · exact fun x => x.elim
    · refine Tri.seqS ?_
      refine Tri.reg ?_
      refine At.seg 2 [0, 4, 6, 8, 9, 10, 16] [4, 6] (s' := ⟨[(0, .c (.d (.fn 35 []))), (4, .c (.ptr 4 0)), (6, .c (.ptr 6 0)), (8, .c (.d (.list 3 p1.length (fun i => encTime (p1.getD i default))))), (9, .c (.d (.int .i64 (p1.length : Int)))), (10, .c (.d (.int .i64 ((i1 : Nat) : Int)))), (16, .c (.d (.bool (decide (((i1 : Nat) : Int) = 0)))))], [(4, .box [.d (.int .u64 a2.epoch), .d (.int .u64 a2.loop.1), .d (.int .u64 a2.loop.2)]), (6, .box [.d (.int .u64 ((p1.getD i1 default).epoch)), .d (.int .u64 ((p1.getD i1 default).loop.1)), .d (.int .u64 ((p1.getD i1 default).loop.2))])]⟩) (c := True ∧ True ∧ True) (by kernel_rfl) ⟨trivial, trivial, trivial⟩ ?_
      refine At.done rfl ?_
      show Tri _ _ _ _
      refine Tri.condP (b := (decide (((i1 : Nat) : Int) = 0))) rfl h (fun h => ?_) (fun h => ?_)
      · refine Tri.reg ?_
        refine At.seg 2 [0, 4, 6, 8, 9, 10] [4, 6] (s' := ⟨[(0, .c (.d (.fn 35 []))), (4, .c (.ptr 4 0)), (6, .c (.ptr 6 0)), (8, .c (.d (.list 3 p1.length (fun i => encTime (p1.getD i default))))), (9, .c (.d (.int .i64 (p1.length : Int)))), (10, .c (.d (.int .i64 ((i1 : Nat) : Int))))], [(4, .box [.d (.int .u64 ((p1.getD i1 default).epoch)), .d (.int .u64 ((p1.getD i1 default).loop.1)), .d (.int .u64 ((p1.getD i1 default).loop.2))]), (6, .box [.d (.int .u64 ((p1.getD i1 default).epoch)), .d (.int .u64 ((p1.getD i1 default).loop.1)), .d (.int .u64 ((p1.getD i1 default).loop.2))])]⟩) (c := True ∧ True ∧ True) (by kernel_rfl) ⟨trivial, trivial, trivial⟩ ?_
        refine At.done rfl ?_
        exact ⟨_, h, rfl⟩
      · refine Tri.keep [0, 4, 6, 8, 9, 10] [4, 6] (s' := ⟨[(0, .c (.d (.fn 35 []))), (4, .c (.ptr 4 0)), (6, .c (.ptr 6 0)), (8, .c (.d (.list 3 p1.length (fun i => encTime (p1.getD i default))))), (9, .c (.d (.int .i64 (p1.length : Int)))), (10, .c (.d (.int .i64 ((i1 : Nat) : Int))))], [(4, .box [.d (.int .u64 a2.epoch), .d (.int .u64 a2.loop.1), .d (.int .u64 a2.loop.2)]), (6, .box [.d (.int .u64 ((p1.getD i1 default).epoch)), .d (.int .u64 ((p1.getD i1 default).loop.1)), .d (.int .u64 ((p1.getD i1 default).loop.2))])]⟩) (by kernel_rfl) ?_
        refine Tri.skip ?_
        exact ⟨_, h, rfl⟩
  · intro a3 h
    show Tri _ _ _ _
    refine Tri.seqS ?_
    refine Tri.reg ?_
    refine At.seg 2 [4] [4] (s' := ⟨[(4, .c (.ptr 4 0))], [(4, .box [.d (.int .u64 a3.epoch), .d (.int .u64 a3.loop.1), .d (.int .u64 a3.loop.2)])]⟩) (c := True ∧ True ∧ True) (by kernel_rfl) ⟨trivial, trivial, trivial⟩ ?_
    refine At.done rfl ?_
    show Tri _ _ _ _
    refine Tri.keep [4] [4] (s' := ⟨[(4, .c (.ptr 4 0))], [(4, .box [.d (.int .u64 a3.epoch), .d (.int .u64 a3.loop.1), .d (.int .u64 a3.loop.2)])]⟩) (by kernel_rfl) ?_
    refine Tri.ret ?_
    cases h
    refine ⟨_, _, rfl, ⟨trivial, trivial⟩, rfl, rfl, ?_⟩
    intro k c h
    cases h
  · exact fun x => x.elim

set_option maxRecDepth 100000 in
theorem moment_Lub_ok {p0 : List Time} {q : Time} (h : moment_Lub p0 = some q) :
    Summ Try.prog 14 [.c (.d (.list 3 p0.length (fun i => encTime (p0.getD i default))))] [] (.agg [.d (.int .u64 q.epoch), .d (.int .u64 q.loop.1), .d (.int .u64 q.loop.2)]) [] := by
  refine Summ.intro Try.func14 rfl (by kernel_rfl) (by kernel_rfl) ?_
  rintro ⟨P, w0, G0, V, LL, lk, N⟩ rfl rfl rfl
  unfold moment_Lub at h
  refine Tri.seqS ?_
  refine Tri.reg ?_
  refine At.seg 1 [0, 2] [2] (s' := ⟨[(0, .c (.d (.list 3 p0.length (fun i => encTime (p0.getD i default))))), (2, .c (.ptr 2 0))], [(2, .box [.d (.int .u64 0), .d (.int .u64 0), .d (.int .u64 0)])]⟩) (c := True ∧ True) (by kernel_rfl) ⟨trivial, trivial⟩ ?_
  refine At.done rfl ?_
  show Tri _ _ _ _
  refine Tri.seqS ?_
  refine Tri.reg ?_
  refine At.seg 1 [2, 3] [2] (s' := ⟨[(2, .c (.ptr 2 0)), (3, .c (.d (.list 3 p0.length (fun i => encTime (p0.getD i default)))))], [(2, .box [.d (.int .u64 0), .d (.int .u64 0), .d (.int .u64 0)])]⟩) (c := True ∧ True) (by kernel_rfl) ⟨trivial, trivial⟩ ?_
  obtain ⟨r1, hr1, h⟩ := bind_elim h
  refine At.callA (caps := []) (xs := [.c (.d (.fn 35 [])), .c (.d (.list 3 p0.length (fun i => encTime (p0.getD i default))))]) (moment_fold__greatest_ok hr1) rfl rfl rfl rfl rfl rfl (.cons (.refl _) (.cons (.refl _) .nil)) rfl rfl ?_
  refine At.seg 1 [2] [2] (s' := ⟨[(2, .c (.ptr 2 0))], [(2, .box [.d (.int .u64 r1.epoch), .d (.int .u64 r1.loop.1), .d (.int .u64 r1.loop.2)])]⟩) (c := True ∧ True) (by kernel_rfl) ⟨trivial, trivial⟩ ?_
  refine At.done rfl ?_
  show Tri _ _ _ _
  refine Tri.keep [2] [2] (s' := ⟨[(2, .c (.ptr 2 0))], [(2, .box [.d (.int .u64 r1.epoch), .d (.int .u64 r1.loop.1), .d (.int .u64 r1.loop.2)])]⟩) (by kernel_rfl) ?_
  refine Tri.ret ?_
  cases h
  refine ⟨_, _, rfl, ⟨trivial, trivial⟩, rfl, rfl, ?_⟩
  intro k c h
  cases h

set_option maxRecDepth 100000 in
theorem moment_least_ok {p0 : Int} {p1 : Int} {q : Int} (h : moment_least p0 p1 = some q) :
    Summ Try.prog 36 [.c (.d (.int .u64 p0)), .c (.d (.int .u64 p1))] [] (.c (.d (.int .u64 q))) [] := by
  refine Summ.intro Try.func36 rfl (by kernel_rfl) (by kernel_rfl) ?_
  rintro ⟨P, w0, G0, V, LL, lk, N⟩ rfl rfl rfl
  unfold moment_least at h
  refine Tri.seqS ?_
  refine Tri.reg ?_
  refine At.seg 1 [0, 1] [] (s' := ⟨[(0, .c (.d (.int .u64 p0))), (1, .c (.d (.int .u64 p1)))], []⟩) (c := True ∧ True) (by kernel_rfl) ⟨trivial, trivial⟩ ?_
  refine At.done rfl ?_
  show Tri _ _ _ _
  refine Tri.seqS ?_
  refine Tri.reg ?_
  refine At.seg 4 [4] [] (s' := ⟨[(4, .c (.d (.int .u64 (if p1 < p0 then p1 else p0))))], []⟩) (c := True ∧ True ∧ True ∧ True ∧ True) (by kernel_rfl) ⟨trivial, trivial, trivial, trivial, trivial⟩ ?_
  refine At.done rfl ?_
  show Tri _ _ _ _
  refine Tri.keep [4] [] (s' := ⟨[(4, .c (.d (.int .u64 (if p1 < p0 then p1 else p0))))], []⟩) (by kernel_rfl) ?_
  refine Tri.ret ?_
  cases h
  refine ⟨_, _, rfl, ⟨trivial, trivial⟩, rfl, rfl, ?_⟩
  intro k c h
  cases h

set_option maxRecDepth 100000 in
theorem moment_fold__least_ok {p1 : List Time} {q : Time} (h : moment_fold__least p1 = some q) :
    Summ Try.prog 34 [.c (.d (.fn 36 [])), .c (.d (.list 3 p1.length (fun i => encTime (p1.getD i default))))] [] (.agg [.d (.int .u64 q.epoch), .d (.int .u64 q.loop.1), .d (.int .u64 q.loop.2)]) [] := by
  refine Summ.intro Try.func34 rfl (by kernel_rfl) (by kernel_rfl) ?_
  rintro ⟨P, w0, G0, V, LL, lk, N⟩ rfl rfl rfl
  unfold moment_fold__least at h
  refine Tri.seqS ?_
  refine Tri.reg ?_
  refine At.seg 1 [0, 1, 4] [4] (s' := ⟨[(0, .c (.d (.fn 36 []))), (1, .c (.d (.list 3 p1.length (fun i => encTime (p1.getD i default))))), (4, .c (.ptr 4 0))], [(4, .box [.d (.int .u64 0), .d (.int .u64 0), .d (.int .u64 0)])]⟩) (c := True ∧ True) (by kernel_rfl) ⟨trivial, trivial⟩ ?_
  refine At.done rfl ?_
  show Tri _ _ _ _
  refine Tri.seqS ?_
  refine Tri.seqS ?_
  refine Tri.reg ?_
  refine At.seg 3 [0, 4, 8, 9, 10] [4] (s' := ⟨[(0, .c (.d (.fn 36 []))), (4, .c (.ptr 4 0)), (8, .c (.d (.list 3 p1.length (fun i => encTime (p1.getD i default))))), (9, .c (.d (.int .i64 (p1.length : Int)))), (10, .c (.d (.int .i64 0)))], [(4, .box [.d (.int .u64 0), .d (.int .u64 0), .d (.int .u64 0)])]⟩) (c := True ∧ True ∧ True ∧ True) (by kernel_rfl) ⟨trivial, trivial, trivial, trivial⟩ ?_
  refine At.done rfl ?_
  show Tri _ _ _ _
  refine Tri.lenOf (t := 8) rfl fun hlena2 => ?_
  refine Tri.keep [10, 0, 4, 8, 9] [4] (s' := idx 10 0 ⟨[(0, .c (.d (.fn 36 []))), (4, .c (.ptr 4 0)), (8, .c (.d (.list 3 p1.length (fun i => encTime (p1.getD i default))))), (9, .c (.d (.int .i64 (p1.length : Int))))], [(4, .box [.d (.int .u64 ((⟨0, (0, 0)⟩ : Time).epoch)), .d (.int .u64 ((⟨0, (0, 0)⟩ : Time).loop.1)), .d (.int .u64 ((⟨0, (0, 0)⟩ : Time).loop.2))])]⟩) (by kernel_rfl) ?_
  refine Tri.range (n := p1.length) (st0 := (⟨0, (0, 0)⟩ : Time)) (fun (x : Empty) s => False) (fun (a2 : Time) => ⟨[(0, .c (.d (.fn 36 []))), (4, .c (.ptr 4 0)), (8, .c (.d (.list 3 p1.length (fun i => encTime (p1.getD i default))))), (9, .c (.d (.int .i64 (p1.length : Int))))], [(4, .box [.d (.int .u64 a2.epoch), .d (.int .u64 a2.loop.1), .d (.int .u64 a2.loop.2)])]⟩) (fun (a2 : Time) => ⟨[(0, .c (.d (.fn 36 []))), (4, .c (.ptr 4 0)), (8, .c (.d (.list 3 p1.length (fun i => encTime (p1.getD i default))))), (9, .c (.d (.int .i64 (p1.length : Int))))], [(4, .box [.d (.int .u64 a2.epoch), .d (.int .u64 a2.loop.1), .d (.int .u64 a2.loop.2)])]⟩) (fun i => decide ((i : Int) < (p1.length : Int))) [11, 10, 0, 4, 8, 9] [4] [0, 4, 8, 9] [4] [10, 0, 4, 8, 9] [4] h hlena2 rfl ?_ ?_ ?_ ?_ ?_ ?_ ?_ ?_
  · exact fun i a => ⟨True ∧ True, by kernel_rfl, ⟨trivial, trivial⟩⟩
  · exact fun i hi => decide_eq_true (by omega)
  · exact decide_eq_false (by omega)
  · exact fun a => by kernel_rfl
  · exact fun i a => ⟨True ∧ True ∧ True, by kernel_rfl, ⟨trivial, trivial, trivial⟩⟩
  · intro i1 a2 c hii1 h
    refine Tri.seqS ?_
    refine Tri.reg ?_
    refine At.seg 6 [0, 4, 5, 6, 8, 9, 10] [4, 6] (s' := ⟨[(0, .c (.d (.fn 36 []))), (4, .c (.ptr 4 0)), (5, .c (.d (.int .i64 ((i1 : Nat) : Int)))), (6, .c (.ptr 6 0)), (8, .c (.d (.list 3 p1.length (fun i => encTime (p1.getD i default))))), (9, .c (.d (.int .i64 (p1.length : Int)))), (10, .c (.d (.int .i64 ((i1 : Nat) : Int))))], [(4, .box [.d (.int .u64 a2.epoch), .d (.int .u64 a2.loop.1), .d (.int .u64 a2.loop.2)]), (6, .box [.d (.int .u64 ((p1.getD i1 default).epoch)), .d (.int .u64 ((p1.getD i1 default).loop.1)), .d (.int .u64 ((p1.getD i1 default).loop.2))])]⟩) (c := True ∧ ((0 : Int) ≤ ((i1 : Nat) : Int) ∧ ((i1 : Nat) : Int) < (p1.length : Int)) ∧ True ∧ True ∧ True ∧ True ∧ True) (by kernel_rfl) ⟨trivial, ⟨by omega, by omega⟩, trivial, trivial, trivial, trivial, trivial⟩ ?_
    refine At.done rfl ?_
    show Tri _ _ _ _
    refine Tri.seqJ (fun (a4 : Time) => ⟨[(0, .c (.d (.fn 36 []))), (4, .c (.ptr 4 0)), (6, .c (.ptr 6 0)), (8, .c (.d (.list 3 p1.length (fun i => encTime (p1.getD i default))))), (9, .c (.d (.int .i64 (p1.length : Int)))), (10, .c (.d (.int .i64 ((i1 : Nat) : Int))))], [(4, .box [.d (.int .u64 a4.epoch), .d (.int .u64 a4.loop.1), .d (.int .u64 a4.loop.2)]), (6, .box [.d (.int .u64 ((p1.getD i1 default).epoch)), .d (.int .u64 ((p1.getD i1 default).loop.1)), .d (.int .u64 ((p1.getD i1 default).loop.2))])]⟩) h (fun a4 h => ?_) (fun j5 h => ?_)
    · show Tri _ _ ⟨[(0, .c (.d (.fn 36 []))), (4, .c (.ptr 4 0)), (6, .c (.ptr 6 0)), (8, .c (.d (.list 3 p1.length (fun i => encTime (p1.getD i default))))), (9, .c (.d (.int .i64 (p1.length : Int)))), (10, .c (.d (.int .i64 ((i1 : Nat) : Int))))], [(4, .box [.d (.int .u64 a4.epoch), .d (.int .u64 a4.loop.1), .d (.int .u64 a4.loop.2)]), (6, .box [.d (.int .u64 ((p1.getD i1 default).epoch)), .d (.int .u64 ((p1.getD i1 default).loop.1)), .d (.int .u64 ((p1.getD i1 default).loop.2))])]⟩ _
      refine Tri.seqS ?_
      refine Tri.reg ?_
      refine At.seg 5 [0, 4, 6, 8, 9, 10, 18, 20, 22] [4, 6] (s' := ⟨[(0, .c (.d (.fn 36 []))), (4, .c (.ptr 4 0)), (6, .c (.ptr 6 0)), (8, .c (.d (.list 3 p1.length (fun i => encTime (p1.getD i default))))), (9, .c (.d (.int .i64 (p1.length : Int)))), (10, .c (.d (.int .i64 ((i1 : Nat) : Int)))), (18, .c (.d (.fn 36 []))), (20, .c (.d (.int .u64 a4.epoch))), (22, .c (.d (.int .u64 ((p1.getD i1 default).epoch))))], [(4, .box [.d (.int .u64 a4.epoch), .d (.int .u64 a4.loop.1), .d (.int .u64 a4.loop.2)]), (6, .box [.d (.int .u64 ((p1.getD i1 default).epoch)), .d (.int .u64 ((p1.getD i1 default).loop.1)), .d (.int .u64 ((p1.getD i1 default).loop.2))])]⟩) (c := True ∧ True ∧ True ∧ True ∧ True ∧ True) (by kernel_rfl) ⟨trivial, trivial, trivial, trivial, trivial, trivial⟩ ?_
      obtain ⟨r6, hr6, h⟩ := bind_elim h
      refine At.callA (caps := []) (xs := [.c (.d (.int .u64 a4.epoch)), .c (.d (.int .u64 ((p1.getD i1 default).epoch)))]) (moment_least_ok hr6) rfl rfl rfl rfl rfl rfl (.cons (.refl _) (.cons (.refl _) .nil)) rfl rfl ?_
      refine At.seg 2 [0, 4, 6, 8, 9, 10] [4, 6] (s' := ⟨[(0, .c (.d (.fn 36 []))), (4, .c (.ptr 4 0)), (6, .c (.ptr 6 0)), (8, .c (.d (.list 3 p1.length (fun i => encTime (p1.getD i default))))), (9, .c (.d (.int .i64 (p1.length : Int)))), (10, .c (.d (.int .i64 ((i1 : Nat) : Int))))], [(4, .box [.d (.int .u64 r6), .d (.int .u64 a4.loop.1), .d (.int .u64 a4.loop.2)]), (6, .box [.d (.int .u64 ((p1.getD i1 default).epoch)), .d (.int .u64 ((p1.getD i1 default).loop.1)), .d (.int .u64 ((p1.getD i1 default).loop.2))])]⟩) (c := True ∧ True ∧ True) (by kernel_rfl) ⟨trivial, trivial, trivial⟩ ?_
      refine At.done rfl ?_
      show Tri _ _ _ _
      refine Tri.seqS ?_
      refine Tri.reg ?_
      refine At.seg 1 [0, 4, 6, 8, 9, 10, 25] [4, 6] (s' := ⟨[(0, .c (.d (.fn 36 []))), (4, .c (.ptr 4 0)), (6, .c (.ptr 6 0)), (8, .c (.d (.list 3 p1.length (fun i => encTime (p1.getD i default))))), (9, .c (.d (.int .i64 (p1.length : Int)))), (10, .c (.d (.int .i64 ((i1 : Nat) : Int)))), (25, .c (.d (.int .i64 0)))], [(4, .box [.d (.int .u64 r6), .d (.int .u64 a4.loop.1), .d (.int .u64 a4.loop.2)]), (6, .box [.d (.int .u64 ((p1.getD i1 default).epoch)), .d (.int .u64 ((p1.getD i1 default).loop.1)), .d (.int .u64 ((p1.getD i1 default).loop.2))])]⟩) (c := True ∧ True) (by kernel_rfl) ⟨trivial, trivial⟩ ?_
      refine At.done rfl ?_
      show Tri _ _ _ _
      refine Tri.keep [25, 0, 4, 6, 8, 9, 10] [4, 6] (s' := idx 25 0 ⟨[(0, .c (.d (.fn 36 []))), (4, .c (.ptr 4 0)), (6, .c (.ptr 6 0)), (8, .c (.d (.list 3 p1.length (fun i => encTime (p1.getD i default))))), (9, .c (.d (.int .i64 (p1.length : Int)))), (10, .c (.d (.int .i64 ((i1 : Nat) : Int))))], [(4, .box [.d (.int .u64 ((⟨r6, a4.loop⟩ : Time).epoch)), .d (.int .u64 ((⟨r6, a4.loop⟩ : Time).loop.1)), .d (.int .u64 ((⟨r6, a4.loop⟩ : Time).loop.2))]), (6, .box [.d (.int .u64 ((p1.getD i1 default).epoch)), .d (.int .u64 ((p1.getD i1 default).loop.1)), .d (.int .u64 ((p1.getD i1 default).loop.2))])]⟩) (by kernel_rfl) ?_
      refine Tri.range (n := 2) (st0 := (⟨r6, a4.loop⟩ : Time)) (fun (x : Empty) s => False) (fun (a8 : Time) => ⟨[(0, .c (.d (.fn 36 []))), (4, .c (.ptr 4 0)), (6, .c (.ptr 6 0)), (8, .c (.d (.list 3 p1.length (fun i => encTime (p1.getD i default))))), (9, .c (.d (.int .i64 (p1.length : Int)))), (10, .c (.d (.int .i64 ((i1 : Nat) : Int))))], [(4, .box [.d (.int .u64 a8.epoch), .d (.int .u64 a8.loop.1), .d (.int .u64 a8.loop.2)]), (6, .box [.d (.int .u64 ((p1.getD i1 default).epoch)), .d (.int .u64 ((p1.getD i1 default).loop.1)), .d (.int .u64 ((p1.getD i1 default).loop.2))])]⟩) (fun (a8 : Time) => ⟨[(10, .c (.d (.int .i64 ((i1 : Nat) : Int)))), (0, .c (.d (.fn 36 []))), (4, .c (.ptr 4 0)), (8, .c (.d (.list 3 p1.length (fun i => encTime (p1.getD i default))))), (9, .c (.d (.int .i64 (p1.length : Int))))], [(4, .box [.d (.int .u64 a8.epoch), .d (.int .u64 a8.loop.1), .d (.int .u64 a8.loop.2)])]⟩) (fun i => decide ((i : Int) < (2 : Int))) [26, 25, 0, 4, 6, 8, 9, 10] [4, 6] [10, 0, 4, 8, 9] [4] [25, 0, 4, 6, 8, 9, 10] [4, 6] h (by unfold maxN; omega) rfl ?_ ?_ ?_ ?_ ?_ ?_ ?_ ?_
      · exact fun i a => ⟨True ∧ True, by kernel_rfl, ⟨trivial, trivial⟩⟩
      · exact fun i hi => decide_eq_true (by omega)
      · exact decide_eq_false (by omega)
      · exact fun a => by kernel_rfl
      · exact fun i a => ⟨True ∧ True ∧ True, by kernel_rfl, ⟨trivial, trivial, trivial⟩⟩
      · intro i7 a8 c hii7 h
        rcases i7 with _ | i7
        · refine Tri.seqS ?_
          refine Tri.reg ?_
          refine At.seg 2 [0, 4, 6, 7, 8, 9, 10, 25] [4, 6] (s' := ⟨[(0, .c (.d (.fn 36 []))), (4, .c (.ptr 4 0)), (6, .c (.ptr 6 0)), (7, .c (.d (.int .i64 ((0 : Nat) : Int)))), (8, .c (.d (.list 3 p1.length (fun i => encTime (p1.getD i default))))), (9, .c (.d (.int .i64 (p1.length : Int)))), (10, .c (.d (.int .i64 ((i1 : Nat) : Int)))), (25, .c (.d (.int .i64 ((0 : Nat) : Int))))], [(4, .box [.d (.int .u64 a8.epoch), .d (.int .u64 a8.loop.1), .d (.int .u64 a8.loop.2)]), (6, .box [.d (.int .u64 ((p1.getD i1 default).epoch)), .d (.int .u64 ((p1.getD i1 default).loop.1)), .d (.int .u64 ((p1.getD i1 default).loop.2))])]⟩) (c := True ∧ True ∧ True) (by kernel_rfl) ⟨trivial, trivial, trivial⟩ ?_
          refine At.done rfl ?_
          show Tri _ _ _ _
          obtain ⟨r10, hr10, h⟩ := bind_elim h
          refine Tri.drawn (specs := [⟨⟨[(7, .c (.d (.int .i64 ((0 : Nat) : Int))))], []⟩, ⟨[(28, .c (.d (.int .i64 ((0 : Nat) : Int))))], []⟩, [], []⟩, ⟨⟨[(0, .c (.d (.fn 36 [])))], []⟩, ⟨[(29, .c (.d (.fn 36 [])))], []⟩, [], []⟩, ⟨⟨[(7, .c (.d (.int .i64 ((0 : Nat) : Int))))], []⟩, ⟨[(30, .c (.d (.int .i64 ((0 : Nat) : Int))))], []⟩, [], []⟩, ⟨⟨[(4, .c (.ptr 4 0))], []⟩, ⟨[(31, .c (.ptr 4 1))], []⟩, [], []⟩, ⟨⟨[(30, .c (.d (.int .i64 ((0 : Nat) : Int)))), (31, .c (.ptr 4 1))], []⟩, ⟨[(32, .c (.ptr 4 1))], []⟩, [], []⟩, ⟨⟨[(32, .c (.ptr 4 1))], [(4, .box [.d (.int .u64 a8.epoch), .d (.int .u64 a8.loop.1), .d (.int .u64 a8.loop.2)])]⟩, ⟨[(33, .c (.d (.int .u64 a8.loop.1)))], []⟩, [], []⟩, ⟨⟨[(7, .c (.d (.int .i64 ((0 : Nat) : Int))))], []⟩, ⟨[(34, .c (.d (.int .i64 ((0 : Nat) : Int))))], []⟩, [], []⟩, ⟨⟨[(6, .c (.ptr 6 0))], []⟩, ⟨[(35, .c (.ptr 6 1))], []⟩, [], []⟩, ⟨⟨[(34, .c (.d (.int .i64 ((0 : Nat) : Int)))), (35, .c (.ptr 6 1))], []⟩, ⟨[(36, .c (.ptr 6 1))], []⟩, [], []⟩, ⟨⟨[(36, .c (.ptr 6 1))], [(6, .box [.d (.int .u64 ((p1.getD i1 default).epoch)), .d (.int .u64 ((p1.getD i1 default).loop.1)), .d (.int .u64 ((p1.getD i1 default).loop.2))])]⟩, ⟨[(37, .c (.d (.int .u64 ((p1.getD i1 default).loop.1))))], []⟩, [], []⟩, ⟨⟨[(29, .c (.d (.fn 36 []))), (33, .c (.d (.int .u64 a8.loop.1))), (37, .c (.d (.int .u64 ((p1.getD i1 default).loop.1))))], []⟩, ⟨[(38, .c (.d (.int .u64 r10)))], []⟩, [], []⟩, ⟨⟨[(4, .c (.ptr 4 0))], []⟩, ⟨[(39, .c (.ptr 4 1))], []⟩, [], []⟩, ⟨⟨[(28, .c (.d (.int .i64 ((0 : Nat) : Int)))), (39, .c (.ptr 4 1))], []⟩, ⟨[(40, .c (.ptr 4 1))], []⟩, [], []⟩, ⟨⟨[(38, .c (.d (.int .u64 r10))), (40, .c (.ptr 4 1))], [(4, .box [.d (.int .u64 a8.epoch), .d (.int .u64 a8.loop.1), .d (.int .u64 a8.loop.2)])]⟩, ⟨[], [(4, .box [.d (.int .u64 a8.epoch), .d (.int .u64 r10), .d (.int .u64 a8.loop.2)])]⟩, [], []⟩]) (bef := [[], [], [], [], [2, 3], [2, 3, 4], [], [], [6, 7], [6, 7, 8], [1, 2, 3, 4, 5, 6, 7, 8, 9], [], [0, 1, 2, 3, 4, 5, 6, 7, 8, 9, 10, 11], [0, 1, 2, 3, 4, 5, 6, 7, 8, 9, 10, 11, 12]]) (tk := [25, 0, 4, 6, 8, 9, 10]) (sk := [4, 6]) (s' := ⟨[(25, .c (.d (.int .i64 ((0 : Nat) : Int)))), (0, .c (.d (.fn 36 []))), (4, .c (.ptr 4 0)), (6, .c (.ptr 6 0)), (8, .c (.d (.list 3 p1.length (fun i => encTime (p1.getD i default))))), (9, .c (.d (.int .i64 (p1.length : Int)))), (10, .c (.d (.int .i64 ((i1 : Nat) : Int))))], [(4, .box [.d (.int .u64 a8.epoch), .d (.int .u64 r10), .d (.int .u64 a8.loop.2)]), (6, .box [.d (.int .u64 ((p1.getD i1 default).epoch)), .d (.int .u64 ((p1.getD i1 default).loop.1)), .d (.int .u64 ((p1.getD i1 default).loop.2))])]⟩) (by kernel_rfl) (by kernel_rfl) (by kernel_rfl) ⟨?_, ?_, ?_, ?_, ?_, ?_, ?_, ?_, ?_, ?_, ?_, ?_, ?_, ?_, trivial⟩ (by kernel_rfl) ?_
          · exact DOk.step (.val (.c (.d (.int .i64 ((0 : Nat) : Int)))) (True)) (fun r => by kernel_rfl) (fun r => by kernel_rfl) trivial (by kernel_rfl) (by kernel_rfl) (fun r => rfl)
          · exact DOk.step (.val (.c (.d (.fn 36 []))) (True)) (fun r => by kernel_rfl) (fun r => by kernel_rfl) trivial (by kernel_rfl) (by kernel_rfl) (fun r => rfl)
          · exact DOk.step (.val (.c (.d (.int .i64 ((0 : Nat) : Int)))) (True)) (fun r => by kernel_rfl) (fun r => by kernel_rfl) trivial (by kernel_rfl) (by kernel_rfl) (fun r => rfl)
          · exact DOk.step (.val (.c (.ptr 4 1)) (True)) (fun r => by kernel_rfl) (fun r => by kernel_rfl) trivial (by kernel_rfl) (by kernel_rfl) (fun r => rfl)
          · exact DOk.step (.val (.c (.ptr 4 1)) (True)) (fun r => by kernel_rfl) (fun r => by kernel_rfl) trivial (by kernel_rfl) (by kernel_rfl) (fun r => rfl)
          · exact DOk.step (.val (.c (.d (.int .u64 a8.loop.1))) (True)) (fun r => by kernel_rfl) (fun r => by kernel_rfl) trivial (by kernel_rfl) (by kernel_rfl) (fun r => rfl)
          · exact DOk.step (.val (.c (.d (.int .i64 ((0 : Nat) : Int)))) (True)) (fun r => by kernel_rfl) (fun r => by kernel_rfl) trivial (by kernel_rfl) (by kernel_rfl) (fun r => rfl)
          · exact DOk.step (.val (.c (.ptr 6 1)) (True)) (fun r => by kernel_rfl) (fun r => by kernel_rfl) trivial (by kernel_rfl) (by kernel_rfl) (fun r => rfl)
          · exact DOk.step (.val (.c (.ptr 6 1)) (True)) (fun r => by kernel_rfl) (fun r => by kernel_rfl) trivial (by kernel_rfl) (by kernel_rfl) (fun r => rfl)
          · exact DOk.step (.val (.c (.d (.int .u64 ((p1.getD i1 default).loop.1)))) (True)) (fun r => by kernel_rfl) (fun r => by kernel_rfl) trivial (by kernel_rfl) (by kernel_rfl) (fun r => rfl)
          · exact DOk.callA (caps := []) (xs := [.c (.d (.int .u64 a8.loop.1)), .c (.d (.int .u64 ((p1.getD i1 default).loop.1)))]) (moment_least_ok hr10) rfl (fun r => by kernel_rfl) rfl (fun r => by kernel_rfl) (fun r => by kernel_rfl) (fun r => (.cons (.refl _) (.cons (.refl _) .nil))) rfl rfl (fun r => rfl)
          · exact DOk.step (.val (.c (.ptr 4 1)) (True)) (fun r => by kernel_rfl) (fun r => by kernel_rfl) trivial (by kernel_rfl) (by kernel_rfl) (fun r => rfl)
          · exact DOk.step (.val (.c (.ptr 4 1)) (True)) (fun r => by kernel_rfl) (fun r => by kernel_rfl) trivial (by kernel_rfl) (by kernel_rfl) (fun r => rfl)
          · exact DOk.step (.turn 4 (.box [.d (.int .u64 a8.epoch), .d (.int .u64 r10), .d (.int .u64 a8.loop.2)])) (fun r => by kernel_rfl) (fun r => by kernel_rfl) trivial (by kernel_rfl) (by kernel_rfl) (fun r => rfl)
          cases h
          exact rfl
        rcases i7 with _ | i7
        · refine Tri.seqS ?_
          refine Tri.reg ?_
          refine At.seg 2 [0, 4, 6, 7, 8, 9, 10, 25] [4, 6] (s' := ⟨[(0, .c (.d (.fn 36 []))), (4, .c (.ptr 4 0)), (6, .c (.ptr 6 0)), (7, .c (.d (.int .i64 ((1 : Nat) : Int)))), (8, .c (.d (.list 3 p1.length (fun i => encTime (p1.getD i default))))), (9, .c (.d (.int .i64 (p1.length : Int)))), (10, .c (.d (.int .i64 ((i1 : Nat) : Int)))), (25, .c (.d (.int .i64 ((1 : Nat) : Int))))], [(4, .box [.d (.int .u64 a8.epoch), .d (.int .u64 a8.loop.1), .d (.int .u64 a8.loop.2)]), (6, .box [.d (.int .u64 ((p1.getD i1 default).epoch)), .d (.int .u64 ((p1.getD i1 default).loop.1)), .d (.int .u64 ((p1.getD i1 default).loop.2))])]⟩) (c := True ∧ True ∧ True) (by kernel_rfl) ⟨trivial, trivial, trivial⟩ ?_
          refine At.done rfl ?_
          show Tri _ _ _ _
          obtain ⟨r11, hr11, h⟩ := bind_elim h
          refine Tri.drawn (specs := [⟨⟨[(7, .c (.d (.int .i64 ((1 : Nat) : Int))))], []⟩, ⟨[(28, .c (.d (.int .i64 ((1 : Nat) : Int))))], []⟩, [], []⟩, ⟨⟨[(0, .c (.d (.fn 36 [])))], []⟩, ⟨[(29, .c (.d (.fn 36 [])))], []⟩, [], []⟩, ⟨⟨[(7, .c (.d (.int .i64 ((1 : Nat) : Int))))], []⟩, ⟨[(30, .c (.d (.int .i64 ((1 : Nat) : Int))))], []⟩, [], []⟩, ⟨⟨[(4, .c (.ptr 4 0))], []⟩, ⟨[(31, .c (.ptr 4 1))], []⟩, [], []⟩, ⟨⟨[(30, .c (.d (.int .i64 ((1 : Nat) : Int)))), (31, .c (.ptr 4 1))], []⟩, ⟨[(32, .c (.ptr 4 2))], []⟩, [], []⟩, ⟨⟨[(32, .c (.ptr 4 2))], [(4, .box [.d (.int .u64 a8.epoch), .d (.int .u64 a8.loop.1), .d (.int .u64 a8.loop.2)])]⟩, ⟨[(33, .c (.d (.int .u64 a8.loop.2)))], []⟩, [], []⟩, ⟨⟨[(7, .c (.d (.int .i64 ((1 : Nat) : Int))))], []⟩, ⟨[(34, .c (.d (.int .i64 ((1 : Nat) : Int))))], []⟩, [], []⟩, ⟨⟨[(6, .c (.ptr 6 0))], []⟩, ⟨[(35, .c (.ptr 6 1))], []⟩, [], []⟩, ⟨⟨[(34, .c (.d (.int .i64 ((1 : Nat) : Int)))), (35, .c (.ptr 6 1))], []⟩, ⟨[(36, .c (.ptr 6 2))], []⟩, [], []⟩, ⟨⟨[(36, .c (.ptr 6 2))], [(6, .box [.d (.int .u64 ((p1.getD i1 default).epoch)), .d (.int .u64 ((p1.getD i1 default).loop.1)), .d (.int .u64 ((p1.getD i1 default).loop.2))])]⟩, ⟨[(37, .c (.d (.int .u64 ((p1.getD i1 default).loop.2))))], []⟩, [], []⟩, ⟨⟨[(29, .c (.d (.fn 36 []))), (33, .c (.d (.int .u64 a8.loop.2))), (37, .c (.d (.int .u64 ((p1.getD i1 default).loop.2))))], []⟩, ⟨[(38, .c (.d (.int .u64 r11)))], []⟩, [], []⟩, ⟨⟨[(4, .c (.ptr 4 0))], []⟩, ⟨[(39, .c (.ptr 4 1))], []⟩, [], []⟩, ⟨⟨[(28, .c (.d (.int .i64 ((1 : Nat) : Int)))), (39, .c (.ptr 4 1))], []⟩, ⟨[(40, .c (.ptr 4 2))], []⟩, [], []⟩, ⟨⟨[(38, .c (.d (.int .u64 r11))), (40, .c (.ptr 4 2))], [(4, .box [.d (.int .u64 a8.epoch), .d (.int .u64 a8.loop.1), .d (.int .u64 a8.loop.2)])]⟩, ⟨[], [(4, .box [.d (.int .u64 a8.epoch), .d (.int .u64 a8.loop.1), .d (.int .u64 r11)])]⟩, [], []⟩]) (bef := [[], [], [], [], [2, 3], [2, 3, 4], [], [], [6, 7], [6, 7, 8], [1, 2, 3, 4, 5, 6, 7, 8, 9], [], [0, 1, 2, 3, 4, 5, 6, 7, 8, 9, 10, 11], [0, 1, 2, 3, 4, 5, 6, 7, 8, 9, 10, 11, 12]]) (tk := [25, 0, 4, 6, 8, 9, 10]) (sk := [4, 6]) (s' := ⟨[(25, .c (.d (.int .i64 ((1 : Nat) : Int)))), (0, .c (.d (.fn 36 []))), (4, .c (.ptr 4 0)), (6, .c (.ptr 6 0)), (8, .c (.d (.list 3 p1.length (fun i => encTime (p1.getD i default))))), (9, .c (.d (.int .i64 (p1.length : Int)))), (10, .c (.d (.int .i64 ((i1 : Nat) : Int))))], [(4, .box [.d (.int .u64 a8.epoch), .d (.int .u64 a8.loop.1), .d (.int .u64 r11)]), (6, .box [.d (.int .u64 ((p1.getD i1 default).epoch)), .d (.int .u64 ((p1.getD i1 default).loop.1)), .d (.int .u64 ((p1.getD i1 default).loop.2))])]⟩) (by kernel_rfl) (by kernel_rfl) (by kernel_rfl) ⟨?_, ?_, ?_, ?_, ?_, ?_, ?_, ?_, ?_, ?_, ?_, ?_, ?_, ?_, trivial⟩ (by kernel_rfl) ?_
          · exact DOk.step (.val (.c (.d (.int .i64 ((1 : Nat) : Int)))) (True)) (fun r => by kernel_rfl) (fun r => by kernel_rfl) trivial (by kernel_rfl) (by kernel_rfl) (fun r => rfl)
          · exact DOk.step (.val (.c (.d (.fn 36 []))) (True)) (fun r => by kernel_rfl) (fun r => by kernel_rfl) trivial (by kernel_rfl) (by kernel_rfl) (fun r => rfl)
          · exact DOk.step (.val (.c (.d (.int .i64 ((1 : Nat) : Int)))) (True)) (fun r => by kernel_rfl) (fun r => by kernel_rfl) trivial (by kernel_rfl) (by kernel_rfl) (fun r => rfl)
          · exact DOk.step (.val (.c (.ptr 4 1)) (True)) (fun r => by kernel_rfl) (fun r => by kernel_rfl) trivial (by kernel_rfl) (by kernel_rfl) (fun r => rfl)
          · exact DOk.step (.val (.c (.ptr 4 2)) (True)) (fun r => by kernel_rfl) (fun r => by kernel_rfl) trivial (by kernel_rfl) (by kernel_rfl) (fun r => rfl)
          · exact DOk.step (.val (.c (.d (.int .u64 a8.loop.2))) (True)) (fun r => by kernel_rfl) (fun r => by kernel_rfl) trivial (by kernel_rfl) (by kernel_rfl) (fun r => rfl)
          · exact DOk.step (.val (.c (.d (.int .i64 ((1 : Nat) : Int)))) (True)) (fun r => by kernel_rfl) (fun r => by kernel_rfl) trivial (by kernel_rfl) (by kernel_rfl) (fun r => rfl)
          · exact DOk.step (.val (.c (.ptr 6 1)) (True)) (fun r => by kernel_rfl) (fun r => by kernel_rfl) trivial (by kernel_rfl) (by kernel_rfl) (fun r => rfl)
          · exact DOk.step (.val (.c (.ptr 6 2)) (True)) (fun r => by kernel_rfl) (fun r => by kernel_rfl) trivial (by kernel_rfl) (by kernel_rfl) (fun r => rfl)
          · exact DOk.step (.val (.c (.d (.int .u64 ((p1.getD i1 default).loop.2)))) (True)) (fun r => by kernel_rfl) (fun r => by kernel_rfl) trivial (by kernel_rfl) (by kernel_rfl) (fun r => rfl)
          · exact DOk.callA (caps := []) (xs := [.c (.d (.int .u64 a8.loop.2)), .c (.d (.int .u64 ((p1.getD i1 default).loop.2)))]) (moment_least_ok hr11) rfl (fun r => by kernel_rfl) rfl (fun r => by kernel_rfl) (fun r => by kernel_rfl) (fun r => (.cons (.refl _) (.cons (.refl _) .nil))) rfl rfl (fun r => rfl)
          · exact DOk.step (.val (.c (.ptr 4 1)) (True)) (fun r => by kernel_rfl) (fun r => by kernel_rfl) trivial (by kernel_rfl) (by kernel_rfl) (fun r => rfl)
          · exact DOk.step (.val (.c (.ptr 4 2)) (True)) (fun r => by kernel_rfl) (fun r => by kernel_rfl) trivial (by kernel_rfl) (by kernel_rfl) (fun r => rfl)
          · exact DOk.step (.turn 4 (.box [.d (.int .u64 a8.epoch), .d (.int .u64 a8.loop.1), .d (.int .u64 r11)])) (fun r => by kernel_rfl) (fun r => by kernel_rfl) trivial (by kernel_rfl) (by kernel_rfl) (fun r => rfl)
          cases h
          exact rfl
        exact absurd hii7 (by omega)
      · intro a9 h
        cases h
        exact rfl
      · exact fun x => x.elim
    · refine Tri.seqS ?_
      refine Tri.reg ?_
      refine At.seg 2 [0, 4, 6, 8, 9, 10, 16] [4, 6] (s' := ⟨[(0, .c (.d (.fn 36 []))), (4, .c (.ptr 4 0)), (6, .c (.ptr 6 0)), (8, .c (.d (.list 3 p1.length (fun i => encTime (p1.getD i default))))), (9, .c (.d (.int .i64 (p1.length : Int)))), (10, .c (.d (.int .i64 ((i1 : Nat) : Int)))), (16, .c (.d (.bool (decide (((i1 : Nat) : Int) = 0)))))], [(4, .box [.d (.int .u64 a2.epoch), .d (.int .u64 a2.loop.1), .d (.int .u64 a2.loop.2)]), (6, .box [.d (.int .u64 ((p1.getD i1 default).epoch)), .d (.int .u64 ((p1.getD i1 default).loop.1)), .d (.int .u64 ((p1.getD i1 default).loop.2))])]⟩) (c := True ∧ True ∧ True) (by kernel_rfl) ⟨trivial, trivial, trivial⟩ ?_
      refine At.done rfl ?_
      show Tri _ _ _ _
      refine Tri.condP (b := (decide (((i1 : Nat) : Int) = 0))) rfl h (fun h => ?_) (fun h => ?_)
      · refine Tri.reg ?_
        refine At.seg 2 [0, 4, 6, 8, 9, 10] [4, 6] (s' := ⟨[(0, .c (.d (.fn 36 []))), (4, .c (.ptr 4 0)), (6, .c (.ptr 6 0)), (8, .c (.d (.list 3 p1.length (fun i => encTime (p1.getD i default))))), (9, .c (.d (.int .i64 (p1.length : Int)))), (10, .c (.d (.int .i64 ((i1 : Nat) : Int))))], [(4, .box [.d (.int .u64 ((p1.getD i1 default).epoch)), .d (.int .u64 ((p1.getD i1 default).loop.1)), .d (.int .u64 ((p1.getD i1 default).loop.2))]), (6, .box [.d (.int .u64 ((p1.getD i1 default).epoch)), .d (.int .u64 ((p1.getD i1 default).loop.1)), .d (.int .u64 ((p1.getD i1 default).loop.2))])]⟩) (c := True ∧ True ∧ True) (by kernel_rfl) ⟨trivial, trivial, trivial⟩ ?_
        refine At.done rfl ?_
        exact ⟨_, h, rfl⟩
      · refine Tri.keep [0, 4, 6, 8, 9, 10] [4, 6] (s' := ⟨[(0, .c (.d (.fn 36 []))), (4, .c (.ptr 4 0)), (6, .c (.ptr 6 0)), (8, .c (.d (.list 3 p1.length (fun i => encTime (p1.getD i default))))), (9, .c (.d (.int .i64 (p1.length : Int)))), (10, .c (.d (.int .i64 ((i1 : Nat) : Int))))], [(4, .box [.d (.int .u64 a2.epoch), .d (.int .u64 a2.loop.1), .d (.int .u64 a2.loop.2)]), (6, .box [.d (.int .u64 ((p1.getD i1 default).epoch)), .d (.int .u64 ((p1.getD i1 default).loop.1)), .d (.int .u64 ((p1.getD i1 default).loop.2))])]⟩) (by kernel_rfl) ?_
        refine Tri.skip ?_
        exact ⟨_, h, rfl⟩
  · intro a3 h
    show Tri _ _ _ _
    refine Tri.seqS ?_
    refine Tri.reg ?_
    refine At.seg 2 [4] [4] (s' := ⟨[(4, .c (.ptr 4 0))], [(4, .box [.d (.int .u64 a3.epoch), .d (.int .u64 a3.loop.1), .d (.int .u64 a3.loop.2)])]⟩) (c := True ∧ True ∧ True) (by kernel_rfl) ⟨trivial, trivial, trivial⟩ ?_
    refine At.done rfl ?_
    show Tri _ _ _ _
    refine Tri.keep [4] [4] (s' := ⟨[(4, .c (.ptr 4 0))], [(4, .box [.d (.int .u64 a3.epoch), .d (.int .u64 a3.loop.1), .d (.int .u64 a3.loop.2)])]⟩) (by kernel_rfl) ?_
    refine Tri.ret ?_
    cases h
    refine ⟨_, _, rfl, ⟨trivial, trivial⟩, rfl, rfl, ?_⟩
    intro k c h
    cases h
  · exact fun x => x.elim

set_option maxRecDepth 100000 in
theorem moment_Glb_ok {p0 : List Time} {q : Time} (h : moment_Glb p0 = some q) :
    Summ Try.prog 16 [.c (.d (.list 3 p0.length (fun i => encTime (p0.getD i default))))] [] (.agg [.d (.int .u64 q.epoch), .d (.int .u64 q.loop.1), .d (.int .u64 q.loop.2)]) [] := by
  refine Summ.intro Try.func16 rfl (by kernel_rfl) (by kernel_rfl) ?_
  rintro ⟨P, w0, G0, V, LL, lk, N⟩ rfl rfl rfl
  unfold moment_Glb at h
  refine Tri.seqS ?_
  refine Tri.reg ?_
  refine At.seg 1 [0, 2] [2] (s' := ⟨[(0, .c (.d (.list 3 p0.length (fun i => encTime (p0.getD i default))))), (2, .c (.ptr 2 0))], [(2, .box [.d (.int .u64 0), .d (.int .u64 0), .d (.int .u64 0)])]⟩) (c := True ∧ True) (by kernel_rfl) ⟨trivial, trivial⟩ ?_
  refine At.done rfl ?_
  show Tri _ _ _ _
  refine Tri.seqS ?_
  refine Tri.reg ?_
  refine At.seg 1 [2, 3] [2] (s' := ⟨[(2, .c (.ptr 2 0)), (3, .c (.d (.list 3 p0.length (fun i => encTime (p0.getD i default)))))], [(2, .box [.d (.int .u64 0), .d (.int .u64 0), .d (.int .u64 0)])]⟩) (c := True ∧ True) (by kernel_rfl) ⟨trivial, trivial⟩ ?_
  obtain ⟨r1, hr1, h⟩ := bind_elim h
  refine At.callA (caps := []) (xs := [.c (.d (.fn 36 [])), .c (.d (.list 3 p0.length (fun i => encTime (p0.getD i default))))]) (moment_fold__least_ok hr1) rfl rfl rfl rfl rfl rfl (.cons (.refl _) (.cons (.refl _) .nil)) rfl rfl ?_
  refine At.seg 1 [2] [2] (s' := ⟨[(2, .c (.ptr 2 0))], [(2, .box [.d (.int .u64 r1.epoch), .d (.int .u64 r1.loop.1), .d (.int .u64 r1.loop.2)])]⟩) (c := True ∧ True) (by kernel_rfl) ⟨trivial, trivial⟩ ?_
  refine At.done rfl ?_
  show Tri _ _ _ _
  refine Tri.keep [2] [2] (s' := ⟨[(2, .c (.ptr 2 0))], [(2, .box [.d (.int .u64 r1.epoch), .d (.int .u64 r1.loop.1), .d (.int .u64 r1.loop.2)])]⟩) (by kernel_rfl) ?_
  refine Tri.ret ?_
  cases h
  refine ⟨_, _, rfl, ⟨trivial, trivial⟩, rfl, rfl, ?_⟩
  intro k c h
  cases h

set_option maxRecDepth 100000 in
theorem freshetlaw04_bounds_ok  {q : Bool} (h : freshetlaw04_bounds = some q) :
    Summ Try.prog 13 [] [] (.c (.d (.bool q))) [] := by
  refine Summ.intro Try.func13 rfl (by kernel_rfl) (by kernel_rfl) ?_
  rintro ⟨P, w0, G0, V, LL, lk, N⟩ rfl rfl rfl
  unfold freshetlaw04_bounds at h
  refine Tri.seqS ?_
  refine Tri.reg ?_
  refine At.seg 1 [] [] (s' := ⟨[], []⟩) (c := True ∧ True) (by kernel_rfl) ⟨trivial, trivial⟩ ?_
  refine At.done rfl ?_
  show Tri _ _ _ _
  refine Tri.seqJ (fun (a1 : Bool) => ⟨[(0, .c (.d (.bool a1)))], []⟩) h (fun a1 h => ?_) (fun j2 h => ?_)
  · show Tri _ _ ⟨[(0, .c (.d (.bool a1)))], []⟩ _
    refine Tri.keep [0] [] (s' := ⟨[(0, .c (.d (.bool a1)))], []⟩) (by kernel_rfl) ?_
    refine Tri.ret ?_
    cases h
    refine ⟨_, _, rfl, ⟨trivial, trivial⟩, rfl, rfl, ?_⟩
    intro k c h
    cases h
  · refine Tri.reg ?_
    obtain ⟨r3, hr3, h⟩ := bind_elim h
    refine At.callA (caps := []) (xs := [.c (.d (.int .u64 1)), .c (.d (.int .u64 0)), .c (.d (.int .u64 2))]) (freshetlaw04_at_ok hr3) rfl rfl rfl rfl rfl rfl (.cons (.refl _) (.cons (.refl _) (.cons (.refl _) .nil))) rfl rfl ?_
    obtain ⟨r4, hr4, h⟩ := bind_elim h
    refine At.callA (caps := []) (xs := [.c (.d (.int .u64 2)), .c (.d (.int .u64 0)), .c (.d (.int .u64 1))]) (freshetlaw04_at_ok hr4) rfl rfl rfl rfl rfl rfl (.cons (.refl _) (.cons (.refl _) (.cons (.refl _) .nil))) rfl rfl ?_
    refine At.one rfl (One.buildSlice (z := [.d (.int .u64 0), .d (.int .u64 0), .d (.int .u64 0)]) (cells := [.d (.int .u64 r3.epoch), .d (.int .u64 r3.loop.1), .d (.int .u64 r3.loop.2), .d (.int .u64 r4.epoch), .d (.int .u64 r4.loop.1), .d (.int .u64 r4.loop.2)]) (xs := List.map (encTime) ([r3, r4] : List Time)) rfl rfl rfl rfl (by kernel_rfl) rfl rfl (by kernel_rfl) rfl rfl rfl (by kernel_rfl) rfl ⟨⟨rfl, .refl _⟩, ⟨rfl, .refl _⟩, trivial⟩) ?_
    refine At.le [3] (fun k _ h => by cases h) ⟨[(3, .c (.d (.list 3 ([r3, r4] : List Time).length (fun i => encTime (([r3, r4] : List Time).getD i default))))), (1, .agg [.d (.int .u64 r3.epoch), .d (.int .u64 r3.loop.1), .d (.int .u64 r3.loop.2)]), (2, .agg [.d (.int .u64 r4.epoch), .d (.int .u64 r4.loop.1), .d (.int .u64 r4.loop.2)])], []⟩ ⟨⟨_, rfl, .c (.own rfl (List.mem_singleton.2 rfl) (Nat.le_of_ble_eq_true rfl) rfl (encs_getD (encTime) ([r3, r4] : List Time)))⟩, ⟨_, rfl, .refl _⟩, ⟨_, rfl, .refl _⟩, trivial⟩ trivial ?_
    obtain ⟨r5, hr5, h⟩ := bind_elim h
    refine At.callA (caps := []) (xs := [.c (.d (.list 3 ([r3, r4] : List Time).length (fun i => encTime (([r3, r4] : List Time).getD i default))))]) (moment_Lub_ok hr5) rfl rfl rfl rfl rfl rfl (.cons (.refl _) .nil) rfl rfl ?_
    obtain ⟨r6, hr6, h⟩ := bind_elim h
    refine At.callA (caps := []) (xs := [.c (.d (.int .u64 2)), .c (.d (.int .u64 0)), .c (.d (.int .u64 2))]) (freshetlaw04_at_ok hr6) rfl rfl rfl rfl rfl rfl (.cons (.refl _) (.cons (.refl _) (.cons (.refl _) .nil))) rfl rfl ?_
    refine At.one rfl (One.eql (b := (eqTime r5 r6)) (d := 9) rfl rfl rfl (.inl rfl) rfl rfl (by kernel_rfl) rfl (by kernel_rfl)) ?_
    refine At.seg 1 [7] [] (s' := ⟨[(7, .c (.d (.bool (eqTime r5 r6))))], []⟩) (c := True ∧ True) (by kernel_rfl) ⟨trivial, trivial⟩ ?_
    refine At.case (fun b => ⟨[(7, .c (.d (.bool b)))], []⟩) (b := (eqTime r5 r6)) h (fun h => ?_) (fun h => ?_)
    · obtain ⟨r7, hr7, h⟩ := bind_elim h
      refine At.callA (caps := []) (xs := [.c (.d (.int .u64 1)), .c (.d (.int .u64 0)), .c (.d (.int .u64 2))]) (freshetlaw04_at_ok hr7) rfl rfl rfl rfl rfl rfl (.cons (.refl _) (.cons (.refl _) (.cons (.refl _) .nil))) rfl rfl ?_
      obtain ⟨r8, hr8, h⟩ := bind_elim h
      refine At.callA (caps := []) (xs := [.c (.d (.int .u64 2)), .c (.d (.int .u64 0)), .c (.d (.int .u64 1))]) (freshetlaw04_at_ok hr8) rfl rfl rfl rfl rfl rfl (.cons (.refl _) (.cons (.refl _) (.cons (.refl _) .nil))) rfl rfl ?_
      refine At.one rfl (One.buildSlice (z := [.d (.int .u64 0), .d (.int .u64 0), .d (.int .u64 0)]) (cells := [.d (.int .u64 r7.epoch), .d (.int .u64 r7.loop.1), .d (.int .u64 r7.loop.2), .d (.int .u64 r8.epoch), .d (.int .u64 r8.loop.1), .d (.int .u64 r8.loop.2)]) (xs := List.map (encTime) ([r7, r8] : List Time)) rfl rfl rfl rfl (by kernel_rfl) rfl rfl (by kernel_rfl) rfl rfl rfl (by kernel_rfl) rfl ⟨⟨rfl, .refl _⟩, ⟨rfl, .refl _⟩, trivial⟩) ?_
      refine At.le [10] (fun k _ h => by cases h) ⟨[(10, .c (.d (.list 3 ([r7, r8] : List Time).length (fun i => encTime (([r7, r8] : List Time).getD i default))))), (7, .c (.d (.bool true))), (8, .agg [.d (.int .u64 r7.epoch), .d (.int .u64 r7.loop.1), .d (.int .u64 r7.loop.2)]), (9, .agg [.d (.int .u64 r8.epoch), .d (.int .u64 r8.loop.1), .d (.int .u64 r8.loop.2)])], []⟩ ⟨⟨_, rfl, .c (.own rfl (List.mem_singleton.2 rfl) (Nat.le_of_ble_eq_true rfl) rfl (encs_getD (encTime) ([r7, r8] : List Time)))⟩, ⟨_, rfl, .refl _⟩, ⟨_, rfl, .refl _⟩, ⟨_, rfl, .refl _⟩, trivial⟩ trivial ?_
      obtain ⟨r9, hr9, h⟩ := bind_elim h
      refine At.callA (caps := []) (xs := [.c (.d (.list 3 ([r7, r8] : List Time).length (fun i => encTime (([r7, r8] : List Time).getD i default))))]) (moment_Glb_ok hr9) rfl rfl rfl rfl rfl rfl (.cons (.refl _) .nil) rfl rfl ?_
      obtain ⟨r10, hr10, h⟩ := bind_elim h
      refine At.callA (caps := []) (xs := [.c (.d (.int .u64 1)), .c (.d (.int .u64 0)), .c (.d (.int .u64 1))]) (freshetlaw04_at_ok hr10) rfl rfl rfl rfl rfl rfl (.cons (.refl _) (.cons (.refl _) (.cons (.refl _) .nil))) rfl rfl ?_
      refine At.one rfl (One.eql (b := (eqTime r9 r10)) (d := 9) rfl rfl rfl (.inl rfl) rfl rfl (by kernel_rfl) rfl (by kernel_rfl)) ?_
      refine At.seg 2 [0] [] (s' := ⟨[(0, .c (.d (.bool (eqTime r9 r10))))], []⟩) (c := True ∧ True ∧ True) (by kernel_rfl) ⟨trivial, trivial, trivial⟩ ?_
      refine At.done rfl ?_
      exact ⟨_, h, rfl⟩
    · refine At.seg 8 [0] [] (s' := ⟨[(0, .c (.d (.bool false)))], []⟩) (c := True ∧ True ∧ True) (by kernel_rfl) ⟨trivial, trivial, trivial⟩ ?_
      refine At.done rfl ?_
      exact ⟨_, h, rfl⟩

set_option maxRecDepth 100000 in
theorem freshetlaw04_MomentTwice_ok {p0 : List Time} {p1 : List Time} {q : Bool} (h : freshetlaw04_MomentTwice p0 p1 = some q) :
    Summ Try.prog 4 [.c (.d (.list 3 p0.length (fun i => encTime (p0.getD i default)))), .c (.d (.list 3 p1.length (fun i => encTime (p1.getD i default))))] [] (.c (.d (.bool q))) [] := by
  refine Summ.intro Try.func4 rfl (by kernel_rfl) (by kernel_rfl) ?_
  rintro ⟨P, w0, G0, V, LL, lk, N⟩ rfl rfl rfl
  unfold freshetlaw04_MomentTwice at h
  refine Tri.seqS ?_
  refine Tri.reg ?_
  refine At.seg 1 [0, 1] [] (s' := ⟨[(0, .c (.d (.list 3 p0.length (fun i => encTime (p0.getD i default))))), (1, .c (.d (.list 3 p1.length (fun i => encTime (p1.getD i default)))))], []⟩) (c := True ∧ True) (by kernel_rfl) ⟨trivial, trivial⟩ ?_
  refine At.done rfl ?_
  show Tri _ _ _ _
  refine Tri.seqS ?_
  refine Tri.seqS ?_
  refine Tri.reg ?_
  obtain ⟨r1, hr1, h⟩ := bind_elim h
  refine At.callA (caps := []) (xs := []) (freshetlaw04_bounds_ok hr1) rfl rfl rfl rfl rfl rfl .nil rfl rfl ?_
  refine At.seg 1 [0, 1, 7] [] (s' := ⟨[(0, .c (.d (.list 3 p0.length (fun i => encTime (p0.getD i default))))), (1, .c (.d (.list 3 p1.length (fun i => encTime (p1.getD i default))))), (7, .c (.d (.bool (!r1))))], []⟩) (c := True ∧ True) (by kernel_rfl) ⟨trivial, trivial⟩ ?_
  refine At.done rfl ?_
  show Tri _ _ _ _
  refine Tri.condP (b := (!r1)) rfl h (fun h => ?_) (fun h => ?_)
  · refine Tri.seqS ?_
    refine Tri.reg ?_
    refine At.seg 1 [4] [] (s' := ⟨[(4, .c (.d (.bool false)))], []⟩) (c := True ∧ True) (by kernel_rfl) ⟨trivial, trivial⟩ ?_
    refine At.done rfl ?_
    show Tri _ _ _ _
    refine Tri.keep [4] [] (s' := ⟨[(4, .c (.d (.bool false)))], []⟩) (by kernel_rfl) ?_
    refine Tri.ret ?_
    cases h
    refine ⟨_, _, rfl, ⟨trivial, trivial⟩, rfl, rfl, ?_⟩
    intro k c h
    cases h
  · refine Tri.skip ?_
    show Tri _ _ _ _
    refine Tri.seqS ?_
    refine Tri.reg ?_
    refine At.one rfl (One.build0 (e := 27) (es := 3) rfl rfl rfl rfl (by kernel_rfl) rfl) ?_
    refine At.seg 1 [0, 1, 8, 9] [] (s' := ⟨[(0, .c (.d (.list 3 p0.length (fun i => encTime (p0.getD i default))))), (1, .c (.d (.list 3 p1.length (fun i => encTime (p1.getD i default))))), (8, .c (.zero)), (9, .c (.d (.list 3 p0.length (fun i => encTime (p0.getD i default)))))], []⟩) (c := True ∧ True) (by kernel_rfl) ⟨trivial, trivial⟩ ?_
    obtain ⟨hc2, h⟩ := need_elim h
    refine At.one rfl (One.append0 (e := 27) (es := 3) (m := p0.length) (get := fun i => encTime (p0.getD i default)) rfl rfl rfl rfl (by kernel_rfl) (.of 27 24 [.d (.int .u64 0), .d (.int .u64 0), .d (.int .u64 0)] (by kernel_rfl) (by kernel_rfl) (by kernel_rfl) (by kernel_rfl) rfl (by kernel_rfl) rfl) rfl rfl (.list rfl (fun _ _ => rfl)) hc2) ?_
    refine At.seg 1 [0, 1, 10, 11] [10] (s' := ⟨[(0, .c (.d (.list 3 p0.length (fun i => encTime (p0.getD i default))))), (1, .c (.d (.list 3 p1.length (fun i => encTime (p1.getD i default))))), (10, .c (.own 10 3 0 p0.length)), (11, .c (.d (.list 3 p1.length (fun i => encTime (p1.getD i default)))))], [(10, .vec 3 p0.length (fun i => encTime (p0.getD i default)))]⟩) (c := True ∧ True) (by kernel_rfl) ⟨trivial, trivial⟩ ?_
    obtain ⟨hc3, h⟩ := need_elim h
    refine At.one rfl (One.appendT (e := 27) (es := 3) (encTime) p0 p1 rfl rfl rfl rfl (.of 27 24 [.d (.int .u64 0), .d (.int .u64 0), .d (.int .u64 0)] (by kernel_rfl) (by kernel_rfl) (by kernel_rfl) (by kernel_rfl) rfl (by kernel_rfl) rfl) rfl rfl rfl (.list rfl (fun _ _ => rfl)) hc3) ?_
    refine At.seg 1 [0, 1, 5] [10] (s' := ⟨[(0, .c (.d (.list 3 p0.length (fun i => encTime (p0.getD i default))))), (1, .c (.d (.list 3 p1.length (fun i => encTime (p1.getD i default))))), (5, .c (.own 10 3 0 ((p0 ++ p1).length)))], [(10, .vec 3 (p0 ++ p1).length (fun i => encTime ((p0 ++ p1).getD i default)))]⟩) (c := True ∧ True) (by kernel_rfl) ⟨trivial, trivial⟩ ?_
    refine At.done rfl ?_
    show Tri _ _ _ _
    refine Tri.seqS ?_
    refine Tri.seqJ (fun (a4 : Bool) => ⟨[(0, .c (.d (.list 3 p0.length (fun i => encTime (p0.getD i default))))), (1, .c (.d (.list 3 p1.length (fun i => encTime (p1.getD i default))))), (5, .c (.own 10 3 0 ((p0 ++ p1).length))), (20, .c (.d (.bool a4)))], [(10, .vec 3 (p0 ++ p1).length (fun i => encTime ((p0 ++ p1).getD i default)))]⟩) h (fun a4 h => ?_) (fun j5 h => ?_)
    · show Tri _ _ ⟨[(0, .c (.d (.list 3 p0.length (fun i => encTime (p0.getD i default))))), (1, .c (.d (.list 3 p1.length (fun i => encTime (p1.getD i default))))), (5, .c (.own 10 3 0 ((p0 ++ p1).length))), (20, .c (.d (.bool a4)))], [(10, .vec 3 (p0 ++ p1).length (fun i => encTime ((p0 ++ p1).getD i default)))]⟩ _
      refine Tri.condP (b := a4) rfl h (fun h => ?_) (fun h => ?_)
      · refine Tri.seqS ?_
        refine Tri.reg ?_
        refine At.seg 1 [0, 1, 21] [10] (s' := ⟨[(0, .c (.d (.list 3 p0.length (fun i => encTime (p0.getD i default))))), (1, .c (.d (.list 3 p1.length (fun i => encTime (p1.getD i default))))), (21, .c (.own 10 3 0 ((p0 ++ p1).length)))], [(10, .vec 3 (p0 ++ p1).length (fun i => encTime ((p0 ++ p1).getD i default)))]⟩) (c := True ∧ True) (by kernel_rfl) ⟨trivial, trivial⟩ ?_
        obtain ⟨r6, hr6, h⟩ := bind_elim h
        refine At.le [10] (fun k _ h => by cases h) ⟨[(0, .c (.d (.list 3 p0.length (fun i => encTime (p0.getD i default))))), (1, .c (.d (.list 3 p1.length (fun i => encTime (p1.getD i default))))), (21, .c (.d (.list 3 (p0 ++ p1).length (fun i => encTime ((p0 ++ p1).getD i default)))))], []⟩ ⟨⟨_, rfl, .refl _⟩, ⟨_, rfl, .refl _⟩, ⟨_, rfl, .c (CLe.frozen (encTime) (p0 ++ p1) rfl (by simp))⟩, trivial⟩ trivial ?_
        refine At.callA (caps := []) (xs := [.c (.d (.list 3 (p0 ++ p1).length (fun i => encTime ((p0 ++ p1).getD i default))))]) (moment_Lub_ok hr6) rfl rfl rfl rfl rfl rfl (.cons (.refl _) .nil) rfl rfl ?_
        refine At.seg 1 [1, 22, 23] [] (s' := ⟨[(1, .c (.d (.list 3 p1.length (fun i => encTime (p1.getD i default))))), (22, .agg [.d (.int .u64 r6.epoch), .d (.int .u64 r6.loop.1), .d (.int .u64 r6.loop.2)]), (23, .c (.d (.list 3 p0.length (fun i => encTime (p0.getD i default)))))], []⟩) (c := True ∧ True) (by kernel_rfl) ⟨trivial, trivial⟩ ?_
        obtain ⟨r7, hr7, h⟩ := bind_elim h
        refine At.callA (caps := []) (xs := [.c (.d (.list 3 p0.length (fun i => encTime (p0.getD i default))))]) (moment_Lub_ok hr7) rfl rfl rfl rfl rfl rfl (.cons (.refl _) .nil) rfl rfl ?_
        refine At.seg 1 [22, 24, 25] [] (s' := ⟨[(22, .agg [.d (.int .u64 r6.epoch), .d (.int .u64 r6.loop.1), .d (.int .u64 r6.loop.2)]), (24, .agg [.d (.int .u64 r7.epoch), .d (.int .u64 r7.loop.1), .d (.int .u64 r7.loop.2)]), (25, .c (.d (.list 3 p1.length (fun i => encTime (p1.getD i default)))))], []⟩) (c := True ∧ True) (by kernel_rfl) ⟨trivial, trivial⟩ ?_
        obtain ⟨r8, hr8, h⟩ := bind_elim h
        refine At.callA (caps := []) (xs := [.c (.d (.list 3 p1.length (fun i => encTime (p1.getD i default))))]) (moment_Lub_ok hr8) rfl rfl rfl rfl rfl rfl (.cons (.refl _) .nil) rfl rfl ?_
        refine At.one rfl (One.buildSlice (z := [.d (.int .u64 0), .d (.int .u64 0), .d (.int .u64 0)]) (cells := [.d (.int .u64 r7.epoch), .d (.int .u64 r7.loop.1), .d (.int .u64 r7.loop.2), .d (.int .u64 r8.epoch), .d (.int .u64 r8.loop.1), .d (.int .u64 r8.loop.2)]) (xs := List.map (encTime) ([r7, r8] : List Time)) rfl rfl rfl rfl (by kernel_rfl) rfl rfl (by kernel_rfl) rfl rfl rfl (by kernel_rfl) rfl ⟨⟨rfl, .refl _⟩, ⟨rfl, .refl _⟩, trivial⟩) ?_
        refine At.le [27] (fun k _ h => by cases h) ⟨[(27, .c (.d (.list 3 ([r7, r8] : List Time).length (fun i => encTime (([r7, r8] : List Time).getD i default))))), (22, .agg [.d (.int .u64 r6.epoch), .d (.int .u64 r6.loop.1), .d (.int .u64 r6.loop.2)]), (24, .agg [.d (.int .u64 r7.epoch), .d (.int .u64 r7.loop.1), .d (.int .u64 r7.loop.2)]), (26, .agg [.d (.int .u64 r8.epoch), .d (.int .u64 r8.loop.1), .d (.int .u64 r8.loop.2)])], []⟩ ⟨⟨_, rfl, .c (.own rfl (List.mem_singleton.2 rfl) (Nat.le_of_ble_eq_true rfl) rfl (encs_getD (encTime) ([r7, r8] : List Time)))⟩, ⟨_, rfl, .refl _⟩, ⟨_, rfl, .refl _⟩, ⟨_, rfl, .refl _⟩, trivial⟩ trivial ?_
        obtain ⟨r9, hr9, h⟩ := bind_elim h
        refine At.callA (caps := []) (xs := [.c (.d (.list 3 ([r7, r8] : List Time).length (fun i => encTime (([r7, r8] : List Time).getD i default))))]) (moment_Lub_ok hr9) rfl rfl rfl rfl rfl rfl (.cons (.refl _) .nil) rfl rfl ?_
        refine At.one rfl (One.eql (b := (eqTime r6 r9)) (d := 9) rfl rfl rfl (.inl rfl) rfl rfl (by kernel_rfl) rfl (by kernel_rfl)) ?_
        refine At.seg 1 [4] [] (s' := ⟨[(4, .c (.d (.bool (eqTime r6 r9))))], []⟩) (c := True ∧ True) (by kernel_rfl) ⟨trivial, trivial⟩ ?_
        refine At.done rfl ?_
        show Tri _ _ _ _
        refine Tri.keep [4] [] (s' := ⟨[(4, .c (.d (.bool (eqTime r6 r9))))], []⟩) (by kernel_rfl) ?_
        refine Tri.ret ?_
        cases h
        refine ⟨_, _, rfl, ⟨trivial, trivial⟩, rfl, rfl, ?_⟩
        intro k c h
        cases h
      · refine Tri.skip ?_
        show Tri _ _ _ _
        refine Tri.seqJ (fun (a10 : Bool) => ⟨[(4, .c (.d (.bool a10)))], []⟩) h (fun a10 h => ?_) (fun j11 h => ?_)
        · show Tri _ _ ⟨[(4, .c (.d (.bool a10)))], []⟩ _
          refine Tri.keep [4] [] (s' := ⟨[(4, .c (.d (.bool a10)))], []⟩) (by kernel_rfl) ?_
          refine Tri.ret ?_
          cases h
          refine ⟨_, _, rfl, ⟨trivial, trivial⟩, rfl, rfl, ?_⟩
          intro k c h
          cases h
        · refine Tri.reg ?_
          refine At.seg 1 [0, 1, 5, 30] [10] (s' := ⟨[(0, .c (.d (.list 3 p0.length (fun i => encTime (p0.getD i default))))), (1, .c (.d (.list 3 p1.length (fun i => encTime (p1.getD i default))))), (5, .c (.own 10 3 0 ((p0 ++ p1).length))), (30, .c (.own 10 3 0 ((p0 ++ p1).length)))], [(10, .vec 3 (p0 ++ p1).length (fun i => encTime ((p0 ++ p1).getD i default)))]⟩) (c := True ∧ True) (by kernel_rfl) ⟨trivial, trivial⟩ ?_
          obtain ⟨r12, hr12, h⟩ := bind_elim h
          refine At.le [10] (fun k _ h => by cases h) ⟨[(0, .c (.d (.list 3 p0.length (fun i => encTime (p0.getD i default))))), (1, .c (.d (.list 3 p1.length (fun i => encTime (p1.getD i default))))), (5, .c (.d (.list 3 (p0 ++ p1).length (fun i => encTime ((p0 ++ p1).getD i default))))), (30, .c (.d (.list 3 (p0 ++ p1).length (fun i => encTime ((p0 ++ p1).getD i default)))))], []⟩ ⟨⟨_, rfl, .refl _⟩, ⟨_, rfl, .refl _⟩, ⟨_, rfl, .c (CLe.frozen (encTime) (p0 ++ p1) rfl (by simp))⟩, ⟨_, rfl, .c (CLe.frozen (encTime) (p0 ++ p1) rfl (by simp))⟩, trivial⟩ trivial ?_
          refine At.callA (caps := []) (xs := [.c (.d (.list 3 (p0 ++ p1).length (fun i => encTime ((p0 ++ p1).getD i default))))]) (moment_Lub_ok hr12) rfl rfl rfl rfl rfl rfl (.cons (.refl _) .nil) rfl rfl ?_
          refine At.seg 1 [0, 1, 5, 31, 32] [] (s' := ⟨[(0, .c (.d (.list 3 p0.length (fun i => encTime (p0.getD i default))))), (1, .c (.d (.list 3 p1.length (fun i => encTime (p1.getD i default))))), (5, .c (.d (.list 3 (p0 ++ p1).length (fun i => encTime ((p0 ++ p1).getD i default))))), (31, .agg [.d (.int .u64 r12.epoch), .d (.int .u64 r12.loop.1), .d (.int .u64 r12.loop.2)]), (32, .c (.d (.list 3 p0.length (fun i => encTime (p0.getD i default)))))], []⟩) (c := True ∧ True) (by kernel_rfl) ⟨trivial, trivial⟩ ?_
          obtain ⟨r13, hr13, h⟩ := bind_elim h
          refine At.callA (caps := []) (xs := [.c (.d (.list 3 p0.length (fun i => encTime (p0.getD i default))))]) (moment_Lub_ok hr13) rfl rfl rfl rfl rfl rfl (.cons (.refl _) .nil) rfl rfl ?_
          refine At.seg 1 [0, 1, 5, 31, 33, 34] [] (s' := ⟨[(0, .c (.d (.list 3 p0.length (fun i => encTime (p0.getD i default))))), (1, .c (.d (.list 3 p1.length (fun i => encTime (p1.getD i default))))), (5, .c (.d (.list 3 (p0 ++ p1).length (fun i => encTime ((p0 ++ p1).getD i default))))), (31, .agg [.d (.int .u64 r12.epoch), .d (.int .u64 r12.loop.1), .d (.int .u64 r12.loop.2)]), (33, .agg [.d (.int .u64 r13.epoch), .d (.int .u64 r13.loop.1), .d (.int .u64 r13.loop.2)]), (34, .c (.d (.list 3 p1.length (fun i => encTime (p1.getD i default)))))], []⟩) (c := True ∧ True) (by kernel_rfl) ⟨trivial, trivial⟩ ?_
          obtain ⟨r14, hr14, h⟩ := bind_elim h
          refine At.callA (caps := []) (xs := [.c (.d (.list 3 p1.length (fun i => encTime (p1.getD i default))))]) (moment_Lub_ok hr14) rfl rfl rfl rfl rfl rfl (.cons (.refl _) .nil) rfl rfl ?_
          refine At.one rfl (One.buildSlice (z := [.d (.int .u64 0), .d (.int .u64 0), .d (.int .u64 0)]) (cells := [.d (.int .u64 r13.epoch), .d (.int .u64 r13.loop.1), .d (.int .u64 r13.loop.2), .d (.int .u64 r14.epoch), .d (.int .u64 r14.loop.1), .d (.int .u64 r14.loop.2)]) (xs := List.map (encTime) ([r13, r14] : List Time)) rfl rfl rfl rfl (by kernel_rfl) rfl rfl (by kernel_rfl) rfl rfl rfl (by kernel_rfl) rfl ⟨⟨rfl, .refl _⟩, ⟨rfl, .refl _⟩, trivial⟩) ?_
          refine At.le [36] (fun k _ h => by cases h) ⟨[(36, .c (.d (.list 3 ([r13, r14] : List Time).length (fun i => encTime (([r13, r14] : List Time).getD i default))))), (0, .c (.d (.list 3 p0.length (fun i => encTime (p0.getD i default))))), (1, .c (.d (.list 3 p1.length (fun i => encTime (p1.getD i default))))), (5, .c (.d (.list 3 (p0 ++ p1).length (fun i => encTime ((p0 ++ p1).getD i default))))), (31, .agg [.d (.int .u64 r12.epoch), .d (.int .u64 r12.loop.1), .d (.int .u64 r12.loop.2)]), (33, .agg [.d (.int .u64 r13.epoch), .d (.int .u64 r13.loop.1), .d (.int .u64 r13.loop.2)]), (35, .agg [.d (.int .u64 r14.epoch), .d (.int .u64 r14.loop.1), .d (.int .u64 r14.loop.2)])], []⟩ ⟨⟨_, rfl, .c (.own rfl (List.mem_singleton.2 rfl) (Nat.le_of_ble_eq_true rfl) rfl (encs_getD (encTime) ([r13, r14] : List Time)))⟩, ⟨_, rfl, .refl _⟩, ⟨_, rfl, .refl _⟩, ⟨_, rfl, .refl _⟩, ⟨_, rfl, .refl _⟩, ⟨_, rfl, .refl _⟩, ⟨_, rfl, .refl _⟩, trivial⟩ trivial ?_
          obtain ⟨r15, hr15, h⟩ := bind_elim h
          refine At.callA (caps := []) (xs := [.c (.d (.list 3 ([r13, r14] : List Time).length (fun i => encTime (([r13, r14] : List Time).getD i default))))]) (moment_Lub_ok hr15) rfl rfl rfl rfl rfl rfl (.cons (.refl _) .nil) rfl rfl ?_
          refine At.one rfl (One.eql (b := (eqTime r12 r15)) (d := 9) rfl rfl rfl (.inl rfl) rfl rfl (by kernel_rfl) rfl (by kernel_rfl)) ?_
          refine At.seg 1 [0, 1, 5, 39] [] (s' := ⟨[(0, .c (.d (.list 3 p0.length (fun i => encTime (p0.getD i default))))), (1, .c (.d (.list 3 p1.length (fun i => encTime (p1.getD i default))))), (5, .c (.d (.list 3 (p0 ++ p1).length (fun i => encTime ((p0 ++ p1).getD i default))))), (39, .c (.d (.bool (eqTime r12 r15))))], []⟩) (c := True ∧ True) (by kernel_rfl) ⟨trivial, trivial⟩ ?_
          refine At.case (fun b => ⟨[(0, .c (.d (.list 3 p0.length (fun i => encTime (p0.getD i default))))), (1, .c (.d (.list 3 p1.length (fun i => encTime (p1.getD i default))))), (5, .c (.d (.list 3 (p0 ++ p1).length (fun i => encTime ((p0 ++ p1).getD i default))))), (39, .c (.d (.bool b)))], []⟩) (b := (eqTime r12 r15)) h (fun h => ?_) (fun h => ?_)
          · refine At.seg 1 [0, 1, 39, 40] [] (s' := ⟨[(0, .c (.d (.list 3 p0.length (fun i => encTime (p0.getD i default))))), (1, .c (.d (.list 3 p1.length (fun i => encTime (p1.getD i default))))), (39, .c (.d (.bool true))), (40, .c (.d (.list 3 (p0 ++ p1).length (fun i => encTime ((p0 ++ p1).getD i default)))))], []⟩) (c := True ∧ True) (by kernel_rfl) ⟨trivial, trivial⟩ ?_
            obtain ⟨r16, hr16, h⟩ := bind_elim h
            refine At.callA (caps := []) (xs := [.c (.d (.list 3 (p0 ++ p1).length (fun i => encTime ((p0 ++ p1).getD i default))))]) (moment_Glb_ok hr16) rfl rfl rfl rfl rfl rfl (.cons (.refl _) .nil) rfl rfl ?_
            refine At.seg 1 [1, 39, 41, 42] [] (s' := ⟨[(1, .c (.d (.list 3 p1.length (fun i => encTime (p1.getD i default))))), (39, .c (.d (.bool true))), (41, .agg [.d (.int .u64 r16.epoch), .d (.int .u64 r16.loop.1), .d (.int .u64 r16.loop.2)]), (42, .c (.d (.list 3 p0.length (fun i => encTime (p0.getD i default)))))], []⟩) (c := True ∧ True) (by kernel_rfl) ⟨trivial, trivial⟩ ?_
            obtain ⟨r17, hr17, h⟩ := bind_elim h
            refine At.callA (caps := []) (xs := [.c (.d (.list 3 p0.length (fun i => encTime (p0.getD i default))))]) (moment_Glb_ok hr17) rfl rfl rfl rfl rfl rfl (.cons (.refl _) .nil) rfl rfl ?_
            refine At.seg 1 [39, 41, 43, 44] [] (s' := ⟨[(39, .c (.d (.bool true))), (41, .agg [.d (.int .u64 r16.epoch), .d (.int .u64 r16.loop.1), .d (.int .u64 r16.loop.2)]), (43, .agg [.d (.int .u64 r17.epoch), .d (.int .u64 r17.loop.1), .d (.int .u64 r17.loop.2)]), (44, .c (.d (.list 3 p1.length (fun i => encTime (p1.getD i default)))))], []⟩) (c := True ∧ True) (by kernel_rfl) ⟨trivial, trivial⟩ ?_
            obtain ⟨r18, hr18, h⟩ := bind_elim h
            refine At.callA (caps := []) (xs := [.c (.d (.list 3 p1.length (fun i => encTime (p1.getD i default))))]) (moment_Glb_ok hr18) rfl rfl rfl rfl rfl rfl (.cons (.refl _) .nil) rfl rfl ?_
            refine At.one rfl (One.buildSlice (z := [.d (.int .u64 0), .d (.int .u64 0), .d (.int .u64 0)]) (cells := [.d (.int .u64 r17.epoch), .d (.int .u64 r17.loop.1), .d (.int .u64 r17.loop.2), .d (.int .u64 r18.epoch), .d (.int .u64 r18.loop.1), .d (.int .u64 r18.loop.2)]) (xs := List.map (encTime) ([r17, r18] : List Time)) rfl rfl rfl rfl (by kernel_rfl) rfl rfl (by kernel_rfl) rfl rfl rfl (by kernel_rfl) rfl ⟨⟨rfl, .refl _⟩, ⟨rfl, .refl _⟩, trivial⟩) ?_
            refine At.le [46] (fun k _ h => by cases h) ⟨[(46, .c (.d (.list 3 ([r17, r18] : List Time).length (fun i => encTime (([r17, r18] : List Time).getD i default))))), (39, .c (.d (.bool true))), (41, .agg [.d (.int .u64 r16.epoch), .d (.int .u64 r16.loop.1), .d (.int .u64 r16.loop.2)]), (43, .agg [.d (.int .u64 r17.epoch), .d (.int .u64 r17.loop.1), .d (.int .u64 r17.loop.2)]), (45, .agg [.d (.int .u64 r18.epoch), .d (.int .u64 r18.loop.1), .d (.int .u64 r18.loop.2)])], []⟩ ⟨⟨_, rfl, .c (.own rfl (List.mem_singleton.2 rfl) (Nat.le_of_ble_eq_true rfl) rfl (encs_getD (encTime) ([r17, r18] : List Time)))⟩, ⟨_, rfl, .refl _⟩, ⟨_, rfl, .refl _⟩, ⟨_, rfl, .refl _⟩, ⟨_, rfl, .refl _⟩, trivial⟩ trivial ?_
            obtain ⟨r19, hr19, h⟩ := bind_elim h
            refine At.callA (caps := []) (xs := [.c (.d (.list 3 ([r17, r18] : List Time).length (fun i => encTime (([r17, r18] : List Time).getD i default))))]) (moment_Glb_ok hr19) rfl rfl rfl rfl rfl rfl (.cons (.refl _) .nil) rfl rfl ?_
            refine At.one rfl (One.eql (b := (eqTime r16 r19)) (d := 9) rfl rfl rfl (.inl rfl) rfl rfl (by kernel_rfl) rfl (by kernel_rfl)) ?_
            refine At.seg 2 [4] [] (s' := ⟨[(4, .c (.d (.bool (eqTime r16 r19))))], []⟩) (c := True ∧ True ∧ True) (by kernel_rfl) ⟨trivial, trivial, trivial⟩ ?_
            refine At.done rfl ?_
            exact ⟨_, h, rfl⟩
          · refine At.seg 11 [4] [] (s' := ⟨[(4, .c (.d (.bool false)))], []⟩) (c := True ∧ True ∧ True) (by kernel_rfl) ⟨trivial, trivial, trivial⟩ ?_
            refine At.done rfl ?_
            exact ⟨_, h, rfl⟩
    · refine Tri.reg ?_
      refine At.seg 4 [0, 1, 5, 16] [10] (s' := ⟨[(0, .c (.d (.list 3 p0.length (fun i => encTime (p0.getD i default))))), (1, .c (.d (.list 3 p1.length (fun i => encTime (p1.getD i default))))), (5, .c (.own 10 3 0 ((p0 ++ p1).length))), (16, .c (.d (.bool (decide ((p0.length : Int) = 0)))))], [(10, .vec 3 (p0 ++ p1).length (fun i => encTime ((p0 ++ p1).getD i default)))]⟩) (c := True ∧ True ∧ True ∧ True ∧ True) (by kernel_rfl) ⟨trivial, trivial, trivial, trivial, trivial⟩ ?_
      refine At.case (fun b => ⟨[(0, .c (.d (.list 3 p0.length (fun i => encTime (p0.getD i default))))), (1, .c (.d (.list 3 p1.length (fun i => encTime (p1.getD i default))))), (5, .c (.own 10 3 0 ((p0 ++ p1).length))), (16, .c (.d (.bool b)))], [(10, .vec 3 (p0 ++ p1).length (fun i => encTime ((p0 ++ p1).getD i default)))]⟩) (b := (decide ((p0.length : Int) = 0))) h (fun h => ?_) (fun h => ?_)
      · refine At.seg 4 [0, 1, 5, 20] [10] (s' := ⟨[(0, .c (.d (.list 3 p0.length (fun i => encTime (p0.getD i default))))), (1, .c (.d (.list 3 p1.length (fun i => encTime (p1.getD i default))))), (5, .c (.own 10 3 0 ((p0 ++ p1).length))), (20, .c (.d (.bool true)))], [(10, .vec 3 (p0 ++ p1).length (fun i => encTime ((p0 ++ p1).getD i default)))]⟩) (c := True ∧ True) (by kernel_rfl) ⟨trivial, trivial⟩ ?_
        refine At.done rfl ?_
        exact ⟨_, h, rfl⟩
      · refine At.seg 4 [0, 1, 5, 20] [10] (s' := ⟨[(0, .c (.d (.list 3 p0.length (fun i => encTime (p0.getD i default))))), (1, .c (.d (.list 3 p1.length (fun i => encTime (p1.getD i default))))), (5, .c (.own 10 3 0 ((p0 ++ p1).length))), (20, .c (.d (.bool (decide ((p1.length : Int) = 0)))))], [(10, .vec 3 (p0 ++ p1).length (fun i => encTime ((p0 ++ p1).getD i default)))]⟩) (c := True ∧ True ∧ True ∧ True ∧ True) (by kernel_rfl) ⟨trivial, trivial, trivial, trivial, trivial⟩ ?_
        refine At.done rfl ?_
        exact ⟨_, h, rfl⟩

set_option maxRecDepth 100000 in
theorem freshetref04_Lub_ok {p0 : List Time} {q : Time} (h : freshetref04_Lub p0 = some q) :
    Summ Try.prog 15 [.c (.d (.list 3 p0.length (fun i => encTime (p0.getD i default))))] [] (.agg [.d (.int .u64 q.epoch), .d (.int .u64 q.loop.1), .d (.int .u64 q.loop.2)]) [] := by
  refine Summ.intro Try.func15 rfl (by kernel_rfl) (by kernel_rfl) ?_
  rintro ⟨P, w0, G0, V, LL, lk, N⟩ rfl rfl rfl
  unfold freshetref04_Lub at h
  refine Tri.seqS ?_
  refine Tri.reg ?_
  refine At.seg 1 [0, 2] [2] (s' := ⟨[(0, .c (.d (.list 3 p0.length (fun i => encTime (p0.getD i default))))), (2, .c (.ptr 2 0))], [(2, .box [.d (.int .u64 0), .d (.int .u64 0), .d (.int .u64 0)])]⟩) (c := True ∧ True) (by kernel_rfl) ⟨trivial, trivial⟩ ?_
  refine At.done rfl ?_
  show Tri _ _ _ _
  refine Tri.seqS ?_
  refine Tri.reg ?_
  refine At.seg 3 [0, 2, 3] [2, 3] (s' := ⟨[(0, .c (.d (.list 3 p0.length (fun i => encTime (p0.getD i default))))), (2, .c (.ptr 2 0)), (3, .c (.ptr 3 0))], [(2, .box [.d (.int .u64 0), .d (.int .u64 0), .d (.int .u64 0)]), (3, .box [.d (.int .u64 0), .d (.int .u64 0), .d (.int .u64 0)])]⟩) (c := True ∧ True ∧ True ∧ True) (by kernel_rfl) ⟨trivial, trivial, trivial, trivial⟩ ?_
  refine At.done rfl ?_
  show Tri _ _ _ _
  refine Tri.seqS ?_
  refine Tri.seqS ?_
  refine Tri.reg ?_
  refine At.seg 3 [2, 3, 9, 10, 11] [2, 3] (s' := ⟨[(2, .c (.ptr 2 0)), (3, .c (.ptr 3 0)), (9, .c (.d (.list 3 p0.length (fun i => encTime (p0.getD i default))))), (10, .c (.d (.int .i64 (p0.length : Int)))), (11, .c (.d (.int .i64 0)))], [(2, .box [.d (.int .u64 0), .d (.int .u64 0), .d (.int .u64 0)]), (3, .box [.d (.int .u64 0), .d (.int .u64 0), .d (.int .u64 0)])]⟩) (c := True ∧ True ∧ True ∧ True) (by kernel_rfl) ⟨trivial, trivial, trivial, trivial⟩ ?_
  refine At.done rfl ?_
  show Tri _ _ _ _
  refine Tri.lenOf (t := 9) rfl fun hlena2 => ?_
  refine Tri.keep [11, 2, 3, 9, 10] [2, 3] (s' := idx 11 0 ⟨[(2, .c (.ptr 2 0)), (3, .c (.ptr 3 0)), (9, .c (.d (.list 3 p0.length (fun i => encTime (p0.getD i default))))), (10, .c (.d (.int .i64 (p0.length : Int))))], [(2, .box [.d (.int .u64 0), .d (.int .u64 0), .d (.int .u64 0)]), (3, .box [.d (.int .u64 ((⟨0, (0, 0)⟩ : Time).epoch)), .d (.int .u64 ((⟨0, (0, 0)⟩ : Time).loop.1)), .d (.int .u64 ((⟨0, (0, 0)⟩ : Time).loop.2))])]⟩) (by kernel_rfl) ?_
  refine Tri.range (n := p0.length) (st0 := (⟨0, (0, 0)⟩ : Time)) (fun (x : Empty) s => False) (fun (a2 : Time) => ⟨[(2, .c (.ptr 2 0)), (3, .c (.ptr 3 0)), (9, .c (.d (.list 3 p0.length (fun i => encTime (p0.getD i default))))), (10, .c (.d (.int .i64 (p0.length : Int))))], [(2, .box [.d (.int .u64 0), .d (.int .u64 0), .d (.int .u64 0)]), (3, .box [.d (.int .u64 a2.epoch), .d (.int .u64 a2.loop.1), .d (.int .u64 a2.loop.2)])]⟩) (fun (a2 : Time) => ⟨[(2, .c (.ptr 2 0)), (3, .c (.ptr 3 0)), (9, .c (.d (.list 3 p0.length (fun i => encTime (p0.getD i default))))), (10, .c (.d (.int .i64 (p0.length : Int))))], [(2, .box [.d (.int .u64 0), .d (.int .u64 0), .d (.int .u64 0)]), (3, .box [.d (.int .u64 a2.epoch), .d (.int .u64 a2.loop.1), .d (.int .u64 a2.loop.2)])]⟩) (fun i => decide ((i : Int) < (p0.length : Int))) [12, 11, 2, 3, 9, 10] [2, 3] [2, 3, 9, 10] [2, 3] [11, 2, 3, 9, 10] [2, 3] h hlena2 rfl ?_ ?_ ?_ ?_ ?_ ?_ ?_ ?_
  · exact fun i a => ⟨True ∧ True, by kernel_rfl, ⟨trivial, trivial⟩⟩
  · exact fun i hi => decide_eq_true (by omega)
  · exact decide_eq_false (by omega)
  · exact fun a => by kernel_rfl
  · exact fun i a => ⟨True ∧ True ∧ True, by kernel_rfl, ⟨trivial, trivial, trivial⟩⟩
  · intro i1 a2 c hii1 h
    refine Tri.seqS ?_
    refine Tri.reg ?_
    refine At.seg 4 [2, 3, 5, 9, 10, 11] [2, 3, 5] (s' := ⟨[(2, .c (.ptr 2 0)), (3, .c (.ptr 3 0)), (5, .c (.ptr 5 0)), (9, .c (.d (.list 3 p0.length (fun i => encTime (p0.getD i default))))), (10, .c (.d (.int .i64 (p0.length : Int)))), (11, .c (.d (.int .i64 ((i1 : Nat) : Int))))], [(2, .box [.d (.int .u64 0), .d (.int .u64 0), .d (.int .u64 0)]), (3, .box [.d (.int .u64 a2.epoch), .d (.int .u64 a2.loop.1), .d (.int .u64 a2.loop.2)]), (5, .box [.d (.int .u64 ((p0.getD i1 default).epoch)), .d (.int .u64 ((p0.getD i1 default).loop.1)), .d (.int .u64 ((p0.getD i1 default).loop.2))])]⟩) (c := ((0 : Int) ≤ ((i1 : Nat) : Int) ∧ ((i1 : Nat) : Int) < (p0.length : Int)) ∧ True ∧ True ∧ True ∧ True) (by kernel_rfl) ⟨⟨by omega, by omega⟩, trivial, trivial, trivial, trivial⟩ ?_
    refine At.done rfl ?_
    show Tri _ _ _ _
    refine Tri.seqJ (fun (a4 : Time) => ⟨[(2, .c (.ptr 2 0)), (3, .c (.ptr 3 0)), (5, .c (.ptr 5 0)), (9, .c (.d (.list 3 p0.length (fun i => encTime (p0.getD i default))))), (10, .c (.d (.int .i64 (p0.length : Int)))), (11, .c (.d (.int .i64 ((i1 : Nat) : Int))))], [(2, .box [.d (.int .u64 0), .d (.int .u64 0), .d (.int .u64 0)]), (3, .box [.d (.int .u64 a4.epoch), .d (.int .u64 a4.loop.1), .d (.int .u64 a4.loop.2)]), (5, .box [.d (.int .u64 ((p0.getD i1 default).epoch)), .d (.int .u64 ((p0.getD i1 default).loop.1)), .d (.int .u64 ((p0.getD i1 default).loop.2))])]⟩) h (fun a4 h => ?_) (fun j5 h => ?_)
    · show Tri _ _ ⟨[(2, .c (.ptr 2 0)), (3, .c (.ptr 3 0)), (5, .c (.ptr 5 0)), (9, .c (.d (.list 3 p0.length (fun i => encTime (p0.getD i default))))), (10, .c (.d (.int .i64 (p0.length : Int)))), (11, .c (.d (.int .i64 ((i1 : Nat) : Int))))], [(2, .box [.d (.int .u64 0), .d (.int .u64 0), .d (.int .u64 0)]), (3, .box [.d (.int .u64 a4.epoch), .d (.int .u64 a4.loop.1), .d (.int .u64 a4.loop.2)]), (5, .box [.d (.int .u64 ((p0.getD i1 default).epoch)), .d (.int .u64 ((p0.getD i1 default).loop.1)), .d (.int .u64 ((p0.getD i1 default).loop.2))])]⟩ _
      refine Tri.seqS ?_
      refine Tri.reg ?_
      refine At.seg 3 [2, 3, 9, 10, 11, 24, 25] [2, 3] (s' := ⟨[(2, .c (.ptr 2 0)), (3, .c (.ptr 3 0)), (9, .c (.d (.list 3 p0.length (fun i => encTime (p0.getD i default))))), (10, .c (.d (.int .i64 (p0.length : Int)))), (11, .c (.d (.int .i64 ((i1 : Nat) : Int)))), (24, .agg [.d (.int .u64 ((p0.getD i1 default).loop.1)), .d (.int .u64 ((p0.getD i1 default).loop.2))]), (25, .c (.d (.int .i64 0)))], [(2, .box [.d (.int .u64 0), .d (.int .u64 0), .d (.int .u64 0)]), (3, .box [.d (.int .u64 a4.epoch), .d (.int .u64 a4.loop.1), .d (.int .u64 a4.loop.2)])]⟩) (c := True ∧ True ∧ True ∧ True) (by kernel_rfl) ⟨trivial, trivial, trivial, trivial⟩ ?_
      refine At.done rfl ?_
      show Tri _ _ _ _
      refine Tri.keep [25, 2, 3, 9, 10, 11, 24] [2, 3] (s' := idx 25 0 ⟨[(2, .c (.ptr 2 0)), (3, .c (.ptr 3 0)), (9, .c (.d (.list 3 p0.length (fun i => encTime (p0.getD i default))))), (10, .c (.d (.int .i64 (p0.length : Int)))), (11, .c (.d (.int .i64 ((i1 : Nat) : Int)))), (24, .agg [.d (.int .u64 ((p0.getD i1 default).loop.1)), .d (.int .u64 ((p0.getD i1 default).loop.2))])], [(2, .box [.d (.int .u64 0), .d (.int .u64 0), .d (.int .u64 0)]), (3, .box [.d (.int .u64 a4.epoch), .d (.int .u64 a4.loop.1), .d (.int .u64 a4.loop.2)])]⟩) (by kernel_rfl) ?_
      refine Tri.range (n := 2) (st0 := a4) (fun (x : Empty) s => False) (fun (a7 : Time) => ⟨[(2, .c (.ptr 2 0)), (3, .c (.ptr 3 0)), (9, .c (.d (.list 3 p0.length (fun i => encTime (p0.getD i default))))), (10, .c (.d (.int .i64 (p0.length : Int)))), (11, .c (.d (.int .i64 ((i1 : Nat) : Int)))), (24, .agg [.d (.int .u64 ((p0.getD i1 default).loop.1)), .d (.int .u64 ((p0.getD i1 default).loop.2))])], [(2, .box [.d (.int .u64 0), .d (.int .u64 0), .d (.int .u64 0)]), (3, .box [.d (.int .u64 a7.epoch), .d (.int .u64 a7.loop.1), .d (.int .u64 a7.loop.2)])]⟩) (fun (a7 : Time) => ⟨[(11, .c (.d (.int .i64 ((i1 : Nat) : Int)))), (2, .c (.ptr 2 0)), (3, .c (.ptr 3 0)), (9, .c (.d (.list 3 p0.length (fun i => encTime (p0.getD i default))))), (10, .c (.d (.int .i64 (p0.length : Int))))], [(2, .box [.d (.int .u64 0), .d (.int .u64 0), .d (.int .u64 0)]), (3, .box [.d (.int .u64 a7.epoch), .d (.int .u64 a7.loop.1), .d (.int .u64 a7.loop.2)])]⟩) (fun i => decide ((i : Int) < (2 : Int))) [26, 25, 2, 3, 9, 10, 11, 24] [2, 3] [11, 2, 3, 9, 10] [2, 3] [25, 2, 3, 9, 10, 11, 24] [2, 3] h (by unfold maxN; omega) rfl ?_ ?_ ?_ ?_ ?_ ?_ ?_ ?_
      · exact fun i a => ⟨True ∧ True, by kernel_rfl, ⟨trivial, trivial⟩⟩
      · exact fun i hi => decide_eq_true (by omega)
      · exact decide_eq_false (by omega)
      · exact fun a => by kernel_rfl
      · exact fun i a => ⟨True ∧ True ∧ True, by kernel_rfl, ⟨trivial, trivial, trivial⟩⟩
      · intro i6 a7 c hii6 h
        rcases i6 with _ | i6
        · refine Tri.seqS ?_
          refine Tri.reg ?_
          refine At.seg 4 [2, 3, 6, 7, 9, 10, 11, 24, 25] [2, 3] (s' := ⟨[(2, .c (.ptr 2 0)), (3, .c (.ptr 3 0)), (6, .c (.d (.int .i64 ((0 : Nat) : Int)))), (7, .c (.d (.int .u64 ((p0.getD i1 default).loop.1)))), (9, .c (.d (.list 3 p0.length (fun i => encTime (p0.getD i default))))), (10, .c (.d (.int .i64 (p0.length : Int)))), (11, .c (.d (.int .i64 ((i1 : Nat) : Int)))), (24, .agg [.d (.int .u64 ((p0.getD i1 default).loop.1)), .d (.int .u64 ((p0.getD i1 default).loop.2))]), (25, .c (.d (.int .i64 ((0 : Nat) : Int))))], [(2, .box [.d (.int .u64 0), .d (.int .u64 0), .d (.int .u64 0)]), (3, .box [.d (.int .u64 a7.epoch), .d (.int .u64 a7.loop.1), .d (.int .u64 a7.loop.2)])]⟩) (c := True ∧ True ∧ True ∧ True ∧ True) (by kernel_rfl) ⟨trivial, trivial, trivial, trivial, trivial⟩ ?_
          refine At.done rfl ?_
          show Tri _ _ _ _
          refine Tri.seqS ?_
          refine Tri.reg ?_
          refine At.seg 6 [2, 3, 6, 7, 9, 10, 11, 24, 25, 34] [2, 3] (s' := ⟨[(2, .c (.ptr 2 0)), (3, .c (.ptr 3 0)), (6, .c (.d (.int .i64 ((0 : Nat) : Int)))), (7, .c (.d (.int .u64 ((p0.getD i1 default).loop.1)))), (9, .c (.d (.list 3 p0.length (fun i => encTime (p0.getD i default))))), (10, .c (.d (.int .i64 (p0.length : Int)))), (11, .c (.d (.int .i64 ((i1 : Nat) : Int)))), (24, .agg [.d (.int .u64 ((p0.getD i1 default).loop.1)), .d (.int .u64 ((p0.getD i1 default).loop.2))]), (25, .c (.d (.int .i64 ((0 : Nat) : Int)))), (34, .c (.d (.bool (decide (a7.loop.1 < (p0.getD i1 default).loop.1)))))], [(2, .box [.d (.int .u64 0), .d (.int .u64 0), .d (.int .u64 0)]), (3, .box [.d (.int .u64 a7.epoch), .d (.int .u64 a7.loop.1), .d (.int .u64 a7.loop.2)])]⟩) (c := True ∧ True ∧ True ∧ True ∧ True ∧ True ∧ True) (by kernel_rfl) ⟨trivial, trivial, trivial, trivial, trivial, trivial, trivial⟩ ?_
          refine At.done rfl ?_
          show Tri _ _ _ _
          refine Tri.condP (b := (decide (a7.loop.1 < (p0.getD i1 default).loop.1))) rfl h (fun h => ?_) (fun h => ?_)
          · refine Tri.reg ?_
            refine At.seg 5 [25, 2, 3, 9, 10, 11, 24] [2, 3] (s' := ⟨[(25, .c (.d (.int .i64 ((0 : Nat) : Int)))), (2, .c (.ptr 2 0)), (3, .c (.ptr 3 0)), (9, .c (.d (.list 3 p0.length (fun i => encTime (p0.getD i default))))), (10, .c (.d (.int .i64 (p0.length : Int)))), (11, .c (.d (.int .i64 ((i1 : Nat) : Int)))), (24, .agg [.d (.int .u64 ((p0.getD i1 default).loop.1)), .d (.int .u64 ((p0.getD i1 default).loop.2))])], [(2, .box [.d (.int .u64 0), .d (.int .u64 0), .d (.int .u64 0)]), (3, .box [.d (.int .u64 a7.epoch), .d (.int .u64 ((p0.getD i1 default).loop.1)), .d (.int .u64 a7.loop.2)])]⟩) (c := True ∧ True ∧ True ∧ True ∧ True ∧ True) (by kernel_rfl) ⟨trivial, trivial, trivial, trivial, trivial, trivial⟩ ?_
            refine At.done rfl ?_
            cases h
            exact rfl
          · refine Tri.keep [25, 2, 3, 9, 10, 11, 24] [2, 3] (s' := ⟨[(25, .c (.d (.int .i64 ((0 : Nat) : Int)))), (2, .c (.ptr 2 0)), (3, .c (.ptr 3 0)), (9, .c (.d (.list 3 p0.length (fun i => encTime (p0.getD i default))))), (10, .c (.d (.int .i64 (p0.length : Int)))), (11, .c (.d (.int .i64 ((i1 : Nat) : Int)))), (24, .agg [.d (.int .u64 ((p0.getD i1 default).loop.1)), .d (.int .u64 ((p0.getD i1 default).loop.2))])], [(2, .box [.d (.int .u64 0), .d (.int .u64 0), .d (.int .u64 0)]), (3, .box [.d (.int .u64 a7.epoch), .d (.int .u64 a7.loop.1), .d (.int .u64 a7.loop.2)])]⟩) (by kernel_rfl) ?_
            refine Tri.skip ?_
            cases h
            exact rfl
        rcases i6 with _ | i6
        · refine Tri.seqS ?_
          refine Tri.reg ?_
          refine At.seg 4 [2, 3, 6, 7, 9, 10, 11, 24, 25] [2, 3] (s' := ⟨[(2, .c (.ptr 2 0)), (3, .c (.ptr 3 0)), (6, .c (.d (.int .i64 ((1 : Nat) : Int)))), (7, .c (.d (.int .u64 ((p0.getD i1 default).loop.2)))), (9, .c (.d (.list 3 p0.length (fun i => encTime (p0.getD i default))))), (10, .c (.d (.int .i64 (p0.length : Int)))), (11, .c (.d (.int .i64 ((i1 : Nat) : Int)))), (24, .agg [.d (.int .u64 ((p0.getD i1 default).loop.1)), .d (.int .u64 ((p0.getD i1 default).loop.2))]), (25, .c (.d (.int .i64 ((1 : Nat) : Int))))], [(2, .box [.d (.int .u64 0), .d (.int .u64 0), .d (.int .u64 0)]), (3, .box [.d (.int .u64 a7.epoch), .d (.int .u64 a7.loop.1), .d (.int .u64 a7.loop.2)])]⟩) (c := True ∧ True ∧ True ∧ True ∧ True) (by kernel_rfl) ⟨trivial, trivial, trivial, trivial, trivial⟩ ?_
          refine At.done rfl ?_
          show Tri _ _ _ _
          refine Tri.seqS ?_
          refine Tri.reg ?_
          refine At.seg 6 [2, 3, 6, 7, 9, 10, 11, 24, 25, 34] [2, 3] (s' := ⟨[(2, .c (.ptr 2 0)), (3, .c (.ptr 3 0)), (6, .c (.d (.int .i64 ((1 : Nat) : Int)))), (7, .c (.d (.int .u64 ((p0.getD i1 default).loop.2)))), (9, .c (.d (.list 3 p0.length (fun i => encTime (p0.getD i default))))), (10, .c (.d (.int .i64 (p0.length : Int)))), (11, .c (.d (.int .i64 ((i1 : Nat) : Int)))), (24, .agg [.d (.int .u64 ((p0.getD i1 default).loop.1)), .d (.int .u64 ((p0.getD i1 default).loop.2))]), (25, .c (.d (.int .i64 ((1 : Nat) : Int)))), (34, .c (.d (.bool (decide (a7.loop.2 < (p0.getD i1 default).loop.2)))))], [(2, .box [.d (.int .u64 0), .d (.int .u64 0), .d (.int .u64 0)]), (3, .box [.d (.int .u64 a7.epoch), .d (.int .u64 a7.loop.1), .d (.int .u64 a7.loop.2)])]⟩) (c := True ∧ True ∧ True ∧ True ∧ True ∧ True ∧ True) (by kernel_rfl) ⟨trivial, trivial, trivial, trivial, trivial, trivial, trivial⟩ ?_
          refine At.done rfl ?_
          show Tri _ _ _ _
          refine Tri.condP (b := (decide (a7.loop.2 < (p0.getD i1 default).loop.2))) rfl h (fun h => ?_) (fun h => ?_)
          · refine Tri.reg ?_
            refine At.seg 5 [25, 2, 3, 9, 10, 11, 24] [2, 3] (s' := ⟨[(25, .c (.d (.int .i64 ((1 : Nat) : Int)))), (2, .c (.ptr 2 0)), (3, .c (.ptr 3 0)), (9, .c (.d (.list 3 p0.length (fun i => encTime (p0.getD i default))))), (10, .c (.d (.int .i64 (p0.length : Int)))), (11, .c (.d (.int .i64 ((i1 : Nat) : Int)))), (24, .agg [.d (.int .u64 ((p0.getD i1 default).loop.1)), .d (.int .u64 ((p0.getD i1 default).loop.2))])], [(2, .box [.d (.int .u64 0), .d (.int .u64 0), .d (.int .u64 0)]), (3, .box [.d (.int .u64 a7.epoch), .d (.int .u64 a7.loop.1), .d (.int .u64 ((p0.getD i1 default).loop.2))])]⟩) (c := True ∧ True ∧ True ∧ True ∧ True ∧ True) (by kernel_rfl) ⟨trivial, trivial, trivial, trivial, trivial, trivial⟩ ?_
            refine At.done rfl ?_
            cases h
            exact rfl
          · refine Tri.keep [25, 2, 3, 9, 10, 11, 24] [2, 3] (s' := ⟨[(25, .c (.d (.int .i64 ((1 : Nat) : Int)))), (2, .c (.ptr 2 0)), (3, .c (.ptr 3 0)), (9, .c (.d (.list 3 p0.length (fun i => encTime (p0.getD i default))))), (10, .c (.d (.int .i64 (p0.length : Int)))), (11, .c (.d (.int .i64 ((i1 : Nat) : Int)))), (24, .agg [.d (.int .u64 ((p0.getD i1 default).loop.1)), .d (.int .u64 ((p0.getD i1 default).loop.2))])], [(2, .box [.d (.int .u64 0), .d (.int .u64 0), .d (.int .u64 0)]), (3, .box [.d (.int .u64 a7.epoch), .d (.int .u64 a7.loop.1), .d (.int .u64 a7.loop.2)])]⟩) (by kernel_rfl) ?_
            refine Tri.skip ?_
            cases h
            exact rfl
        exact absurd hii6 (by omega)
      · intro a8 h
        cases h
        exact rfl
      · exact fun x => x.elim
    · refine Tri.seqS ?_
      refine Tri.reg ?_
      refine At.seg 5 [2, 3, 5, 9, 10, 11, 19] [2, 3, 5] (s' := ⟨[(2, .c (.ptr 2 0)), (3, .c (.ptr 3 0)), (5, .c (.ptr 5 0)), (9, .c (.d (.list 3 p0.length (fun i => encTime (p0.getD i default))))), (10, .c (.d (.int .i64 (p0.length : Int)))), (11, .c (.d (.int .i64 ((i1 : Nat) : Int)))), (19, .c (.d (.bool (decide (a2.epoch < (p0.getD i1 default).epoch)))))], [(2, .box [.d (.int .u64 0), .d (.int .u64 0), .d (.int .u64 0)]), (3, .box [.d (.int .u64 a2.epoch), .d (.int .u64 a2.loop.1), .d (.int .u64 a2.loop.2)]), (5, .box [.d (.int .u64 ((p0.getD i1 default).epoch)), .d (.int .u64 ((p0.getD i1 default).loop.1)), .d (.int .u64 ((p0.getD i1 default).loop.2))])]⟩) (c := True ∧ True ∧ True ∧ True ∧ True ∧ True) (by kernel_rfl) ⟨trivial, trivial, trivial, trivial, trivial, trivial⟩ ?_
      refine At.done rfl ?_
      show Tri _ _ _ _
      refine Tri.condP (b := (decide (a2.epoch < (p0.getD i1 default).epoch))) rfl h (fun h => ?_) (fun h => ?_)
      · refine Tri.reg ?_
        refine At.seg 4 [2, 3, 5, 9, 10, 11] [2, 3, 5] (s' := ⟨[(2, .c (.ptr 2 0)), (3, .c (.ptr 3 0)), (5, .c (.ptr 5 0)), (9, .c (.d (.list 3 p0.length (fun i => encTime (p0.getD i default))))), (10, .c (.d (.int .i64 (p0.length : Int)))), (11, .c (.d (.int .i64 ((i1 : Nat) : Int))))], [(2, .box [.d (.int .u64 0), .d (.int .u64 0), .d (.int .u64 0)]), (3, .box [.d (.int .u64 ((p0.getD i1 default).epoch)), .d (.int .u64 a2.loop.1), .d (.int .u64 a2.loop.2)]), (5, .box [.d (.int .u64 ((p0.getD i1 default).epoch)), .d (.int .u64 ((p0.getD i1 default).loop.1)), .d (.int .u64 ((p0.getD i1 default).loop.2))])]⟩) (c := True ∧ True ∧ True ∧ True ∧ True) (by kernel_rfl) ⟨trivial, trivial, trivial, trivial, trivial⟩ ?_
        refine At.done rfl ?_
        exact ⟨_, h, rfl⟩
      · refine Tri.keep [2, 3, 5, 9, 10, 11] [2, 3, 5] (s' := ⟨[(2, .c (.ptr 2 0)), (3, .c (.ptr 3 0)), (5, .c (.ptr 5 0)), (9, .c (.d (.list 3 p0.length (fun i => encTime (p0.getD i default))))), (10, .c (.d (.int .i64 (p0.length : Int)))), (11, .c (.d (.int .i64 ((i1 : Nat) : Int))))], [(2, .box [.d (.int .u64 0), .d (.int .u64 0), .d (.int .u64 0)]), (3, .box [.d (.int .u64 a2.epoch), .d (.int .u64 a2.loop.1), .d (.int .u64 a2.loop.2)]), (5, .box [.d (.int .u64 ((p0.getD i1 default).epoch)), .d (.int .u64 ((p0.getD i1 default).loop.1)), .d (.int .u64 ((p0.getD i1 default).loop.2))])]⟩) (by kernel_rfl) ?_
        refine Tri.skip ?_
        exact ⟨_, h, rfl⟩
  · intro a3 h
    show Tri _ _ _ _
    refine Tri.seqS ?_
    refine Tri.reg ?_
    refine At.seg 2 [2] [2] (s' := ⟨[(2, .c (.ptr 2 0))], [(2, .box [.d (.int .u64 a3.epoch), .d (.int .u64 a3.loop.1), .d (.int .u64 a3.loop.2)])]⟩) (c := True ∧ True ∧ True) (by kernel_rfl) ⟨trivial, trivial, trivial⟩ ?_
    refine At.done rfl ?_
    show Tri _ _ _ _
    refine Tri.keep [2] [2] (s' := ⟨[(2, .c (.ptr 2 0))], [(2, .box [.d (.int .u64 a3.epoch), .d (.int .u64 a3.loop.1), .d (.int .u64 a3.loop.2)])]⟩) (by kernel_rfl) ?_
    refine Tri.ret ?_
    cases h
    refine ⟨_, _, rfl, ⟨trivial, trivial⟩, rfl, rfl, ?_⟩
    intro k c h
    cases h
  · exact fun x => x.elim

set_option maxRecDepth 100000 in
theorem freshetref04_Glb_ok {p0 : List Time} {q : Time} (h : freshetref04_Glb p0 = some q) :
    Summ Try.prog 17 [.c (.d (.list 3 p0.length (fun i => encTime (p0.getD i default))))] [] (.agg [.d (.int .u64 q.epoch), .d (.int .u64 q.loop.1), .d (.int .u64 q.loop.2)]) [] := by
  refine Summ.intro Try.func17 rfl (by kernel_rfl) (by kernel_rfl) ?_
  rintro ⟨P, w0, G0, V, LL, lk, N⟩ rfl rfl rfl
  unfold freshetref04_Glb at h
  refine Tri.seqS ?_
  refine Tri.reg ?_
  refine At.seg 1 [0, 2] [2] (s' := ⟨[(0, .c (.d (.list 3 p0.length (fun i => encTime (p0.getD i default))))), (2, .c (.ptr 2 0))], [(2, .box [.d (.int .u64 0), .d (.int .u64 0), .d (.int .u64 0)])]⟩) (c := True ∧ True) (by kernel_rfl) ⟨trivial, trivial⟩ ?_
  refine At.done rfl ?_
  show Tri _ _ _ _
  refine Tri.seqS ?_
  refine Tri.seqS ?_
  refine Tri.reg ?_
  refine At.seg 3 [0, 2, 10] [2] (s' := ⟨[(0, .c (.d (.list 3 p0.length (fun i => encTime (p0.getD i default))))), (2, .c (.ptr 2 0)), (10, .c (.d (.bool (decide ((p0.length : Int) = 0)))))], [(2, .box [.d (.int .u64 0), .d (.int .u64 0), .d (.int .u64 0)])]⟩) (c := True ∧ True ∧ True ∧ True) (by kernel_rfl) ⟨trivial, trivial, trivial, trivial⟩ ?_
  refine At.done rfl ?_
  show Tri _ _ _ _
  refine Tri.condP (b := (decide ((p0.length : Int) = 0))) rfl h (fun h => ?_) (fun h => ?_)
  · refine Tri.seqS ?_
    refine Tri.reg ?_
    refine At.seg 2 [2] [2] (s' := ⟨[(2, .c (.ptr 2 0))], [(2, .box [.d (.int .u64 0), .d (.int .u64 0), .d (.int .u64 0)])]⟩) (c := True ∧ True ∧ True) (by kernel_rfl) ⟨trivial, trivial, trivial⟩ ?_
    refine At.done rfl ?_
    show Tri _ _ _ _
    refine Tri.keep [2] [2] (s' := ⟨[(2, .c (.ptr 2 0))], [(2, .box [.d (.int .u64 0), .d (.int .u64 0), .d (.int .u64 0)])]⟩) (by kernel_rfl) ?_
    refine Tri.ret ?_
    cases h
    refine ⟨_, _, rfl, ⟨trivial, trivial⟩, rfl, rfl, ?_⟩
    intro k c h
    cases h
  · refine Tri.skip ?_
    show Tri _ _ _ _
    refine Tri.seqS ?_
    refine Tri.reg ?_
    obtain ⟨hc1, h⟩ := need_elim h
    refine At.seg 5 [0, 2, 3] [2, 3] (s' := ⟨[(0, .c (.d (.list 3 p0.length (fun i => encTime (p0.getD i default))))), (2, .c (.ptr 2 0)), (3, .c (.ptr 3 0))], [(2, .box [.d (.int .u64 0), .d (.int .u64 0), .d (.int .u64 0)]), (3, .box [.d (.int .u64 ((p0.getD 0 default).epoch)), .d (.int .u64 ((p0.getD 0 default).loop.1)), .d (.int .u64 ((p0.getD 0 default).loop.2))])]⟩) (c := True ∧ ((0 : Int) ≤ 0 ∧ 0 < (p0.length : Int)) ∧ True ∧ True ∧ True ∧ True) (by kernel_rfl) ⟨trivial, hc1, trivial, trivial, trivial, trivial⟩ ?_
    refine At.done rfl ?_
    show Tri _ _ _ _
    refine Tri.seqS ?_
    refine Tri.seqS ?_
    refine Tri.reg ?_
    refine At.seg 3 [2, 3, 15, 16, 17] [2, 3] (s' := ⟨[(2, .c (.ptr 2 0)), (3, .c (.ptr 3 0)), (15, .c (.d (.list 3 p0.length (fun i => encTime (p0.getD i default))))), (16, .c (.d (.int .i64 (p0.length : Int)))), (17, .c (.d (.int .i64 0)))], [(2, .box [.d (.int .u64 0), .d (.int .u64 0), .d (.int .u64 0)]), (3, .box [.d (.int .u64 ((p0.getD 0 default).epoch)), .d (.int .u64 ((p0.getD 0 default).loop.1)), .d (.int .u64 ((p0.getD 0 default).loop.2))])]⟩) (c := True ∧ True ∧ True ∧ True) (by kernel_rfl) ⟨trivial, trivial, trivial, trivial⟩ ?_
    refine At.done rfl ?_
    show Tri _ _ _ _
    refine Tri.lenOf (t := 15) rfl fun hlena3 => ?_
    refine Tri.keep [17, 2, 3, 15, 16] [2, 3] (s' := idx 17 0 ⟨[(2, .c (.ptr 2 0)), (3, .c (.ptr 3 0)), (15, .c (.d (.list 3 p0.length (fun i => encTime (p0.getD i default))))), (16, .c (.d (.int .i64 (p0.length : Int))))], [(2, .box [.d (.int .u64 0), .d (.int .u64 0), .d (.int .u64 0)]), (3, .box [.d (.int .u64 ((p0.getD 0 default).epoch)), .d (.int .u64 ((p0.getD 0 default).loop.1)), .d (.int .u64 ((p0.getD 0 default).loop.2))])]⟩) (by kernel_rfl) ?_
    refine Tri.range (n := p0.length) (st0 := (p0.getD 0 default)) (fun (x : Empty) s => False) (fun (a3 : Time) => ⟨[(2, .c (.ptr 2 0)), (3, .c (.ptr 3 0)), (15, .c (.d (.list 3 p0.length (fun i => encTime (p0.getD i default))))), (16, .c (.d (.int .i64 (p0.length : Int))))], [(2, .box [.d (.int .u64 0), .d (.int .u64 0), .d (.int .u64 0)]), (3, .box [.d (.int .u64 a3.epoch), .d (.int .u64 a3.loop.1), .d (.int .u64 a3.loop.2)])]⟩) (fun (a3 : Time) => ⟨[(2, .c (.ptr 2 0)), (3, .c (.ptr 3 0)), (15, .c (.d (.list 3 p0.length (fun i => encTime (p0.getD i default))))), (16, .c (.d (.int .i64 (p0.length : Int))))], [(2, .box [.d (.int .u64 0), .d (.int .u64 0), .d (.int .u64 0)]), (3, .box [.d (.int .u64 a3.epoch), .d (.int .u64 a3.loop.1), .d (.int .u64 a3.loop.2)])]⟩) (fun i => decide ((i : Int) < (p0.length : Int))) [18, 17, 2, 3, 15, 16] [2, 3] [2, 3, 15, 16] [2, 3] [17, 2, 3, 15, 16] [2, 3] h hlena3 rfl ?_ ?_ ?_ ?_ ?_ ?_ ?_ ?_
    · exact fun i a => ⟨True ∧ True, by kernel_rfl, ⟨trivial, trivial⟩⟩
    · exact fun i hi => decide_eq_true (by omega)
    · exact decide_eq_false (by omega)
    · exact fun a => by kernel_rfl
    · exact fun i a => ⟨True ∧ True ∧ True, by kernel_rfl, ⟨trivial, trivial, trivial⟩⟩
    · intro i2 a3 c hii2 h
      refine Tri.seqS ?_
      refine Tri.reg ?_
      refine At.seg 4 [2, 3, 5, 15, 16, 17] [2, 3, 5] (s' := ⟨[(2, .c (.ptr 2 0)), (3, .c (.ptr 3 0)), (5, .c (.ptr 5 0)), (15, .c (.d (.list 3 p0.length (fun i => encTime (p0.getD i default))))), (16, .c (.d (.int .i64 (p0.length : Int)))), (17, .c (.d (.int .i64 ((i2 : Nat) : Int))))], [(2, .box [.d (.int .u64 0), .d (.int .u64 0), .d (.int .u64 0)]), (3, .box [.d (.int .u64 a3.epoch), .d (.int .u64 a3.loop.1), .d (.int .u64 a3.loop.2)]), (5, .box [.d (.int .u64 ((p0.getD i2 default).epoch)), .d (.int .u64 ((p0.getD i2 default).loop.1)), .d (.int .u64 ((p0.getD i2 default).loop.2))])]⟩) (c := ((0 : Int) ≤ ((i2 : Nat) : Int) ∧ ((i2 : Nat) : Int) < (p0.length : Int)) ∧ True ∧ True ∧ True ∧ True) (by kernel_rfl) ⟨⟨by omega, by omega⟩, trivial, trivial, trivial, trivial⟩ ?_
      refine At.done rfl ?_
      show Tri _ _ _ _
      refine Tri.seqJ (fun (a5 : Time) => ⟨[(2, .c (.ptr 2 0)), (3, .c (.ptr 3 0)), (5, .c (.ptr 5 0)), (15, .c (.d (.list 3 p0.length (fun i => encTime (p0.getD i default))))), (16, .c (.d (.int .i64 (p0.length : Int)))), (17, .c (.d (.int .i64 ((i2 : Nat) : Int))))], [(2, .box [.d (.int .u64 0), .d (.int .u64 0), .d (.int .u64 0)]), (3, .box [.d (.int .u64 a5.epoch), .d (.int .u64 a5.loop.1), .d (.int .u64 a5.loop.2)]), (5, .box [.d (.int .u64 ((p0.getD i2 default).epoch)), .d (.int .u64 ((p0.getD i2 default).loop.1)), .d (.int .u64 ((p0.getD i2 default).loop.2))])]⟩) h (fun a5 h => ?_) (fun j6 h => ?_)
      · show Tri _ _ ⟨[(2, .c (.ptr 2 0)), (3, .c (.ptr 3 0)), (5, .c (.ptr 5 0)), (15, .c (.d (.list 3 p0.length (fun i => encTime (p0.getD i default))))), (16, .c (.d (.int .i64 (p0.length : Int)))), (17, .c (.d (.int .i64 ((i2 : Nat) : Int))))], [(2, .box [.d (.int .u64 0), .d (.int .u64 0), .d (.int .u64 0)]), (3, .box [.d (.int .u64 a5.epoch), .d (.int .u64 a5.loop.1), .d (.int .u64 a5.loop.2)]), (5, .box [.d (.int .u64 ((p0.getD i2 default).epoch)), .d (.int .u64 ((p0.getD i2 default).loop.1)), .d (.int .u64 ((p0.getD i2 default).loop.2))])]⟩ _
        refine Tri.seqS ?_
        refine Tri.reg ?_
        refine At.seg 3 [2, 3, 15, 16, 17, 30, 31] [2, 3] (s' := ⟨[(2, .c (.ptr 2 0)), (3, .c (.ptr 3 0)), (15, .c (.d (.list 3 p0.length (fun i => encTime (p0.getD i default))))), (16, .c (.d (.int .i64 (p0.length : Int)))), (17, .c (.d (.int .i64 ((i2 : Nat) : Int)))), (30, .agg [.d (.int .u64 ((p0.getD i2 default).loop.1)), .d (.int .u64 ((p0.getD i2 default).loop.2))]), (31, .c (.d (.int .i64 0)))], [(2, .box [.d (.int .u64 0), .d (.int .u64 0), .d (.int .u64 0)]), (3, .box [.d (.int .u64 a5.epoch), .d (.int .u64 a5.loop.1), .d (.int .u64 a5.loop.2)])]⟩) (c := True ∧ True ∧ True ∧ True) (by kernel_rfl) ⟨trivial, trivial, trivial, trivial⟩ ?_
        refine At.done rfl ?_
        show Tri _ _ _ _
        refine Tri.keep [31, 2, 3, 15, 16, 17, 30] [2, 3] (s' := idx 31 0 ⟨[(2, .c (.ptr 2 0)), (3, .c (.ptr 3 0)), (15, .c (.d (.list 3 p0.length (fun i => encTime (p0.getD i default))))), (16, .c (.d (.int .i64 (p0.length : Int)))), (17, .c (.d (.int .i64 ((i2 : Nat) : Int)))), (30, .agg [.d (.int .u64 ((p0.getD i2 default).loop.1)), .d (.int .u64 ((p0.getD i2 default).loop.2))])], [(2, .box [.d (.int .u64 0), .d (.int .u64 0), .d (.int .u64 0)]), (3, .box [.d (.int .u64 a5.epoch), .d (.int .u64 a5.loop.1), .d (.int .u64 a5.loop.2)])]⟩) (by kernel_rfl) ?_
        refine Tri.range (n := 2) (st0 := a5) (fun (x : Empty) s => False) (fun (a8 : Time) => ⟨[(2, .c (.ptr 2 0)), (3, .c (.ptr 3 0)), (15, .c (.d (.list 3 p0.length (fun i => encTime (p0.getD i default))))), (16, .c (.d (.int .i64 (p0.length : Int)))), (17, .c (.d (.int .i64 ((i2 : Nat) : Int)))), (30, .agg [.d (.int .u64 ((p0.getD i2 default).loop.1)), .d (.int .u64 ((p0.getD i2 default).loop.2))])], [(2, .box [.d (.int .u64 0), .d (.int .u64 0), .d (.int .u64 0)]), (3, .box [.d (.int .u64 a8.epoch), .d (.int .u64 a8.loop.1), .d (.int .u64 a8.loop.2)])]⟩) (fun (a8 : Time) => ⟨[(17, .c (.d (.int .i64 ((i2 : Nat) : Int)))), (2, .c (.ptr 2 0)), (3, .c (.ptr 3 0)), (15, .c (.d (.list 3 p0.length (fun i => encTime (p0.getD i default))))), (16, .c (.d (.int .i64 (p0.length : Int))))], [(2, .box [.d (.int .u64 0), .d (.int .u64 0), .d (.int .u64 0)]), (3, .box [.d (.int .u64 a8.epoch), .d (.int .u64 a8.loop.1), .d (.int .u64 a8.loop.2)])]⟩) (fun i => decide ((i : Int) < (2 : Int))) [32, 31, 2, 3, 15, 16, 17, 30] [2, 3] [17, 2, 3, 15, 16] [2, 3] [31, 2, 3, 15, 16, 17, 30] [2, 3] h (by unfold maxN; omega) rfl ?_ ?_ ?_ ?_ ?_ ?_ ?_ ?_
        · exact fun i a => ⟨True ∧ True, by kernel_rfl, ⟨trivial, trivial⟩⟩
        · exact fun i hi => decide_eq_true (by omega)
        · exact decide_eq_false (by omega)
        · exact fun a => by kernel_rfl
        · exact fun i a => ⟨True ∧ True ∧ True, by kernel_rfl, ⟨trivial, trivial, trivial⟩⟩
        · intro i7 a8 c hii7 h
          rcases i7 with _ | i7
          · refine Tri.seqS ?_
            refine Tri.reg ?_
            refine At.seg 4 [2, 3, 6, 7, 15, 16, 17, 30, 31] [2, 3] (s' := ⟨[(2, .c (.ptr 2 0)), (3, .c (.ptr 3 0)), (6, .c (.d (.int .i64 ((0 : Nat) : Int)))), (7, .c (.d (.int .u64 ((p0.getD i2 default).loop.1)))), (15, .c (.d (.list 3 p0.length (fun i => encTime (p0.getD i default))))), (16, .c (.d (.int .i64 (p0.length : Int)))), (17, .c (.d (.int .i64 ((i2 : Nat) : Int)))), (30, .agg [.d (.int .u64 ((p0.getD i2 default).loop.1)), .d (.int .u64 ((p0.getD i2 default).loop.2))]), (31, .c (.d (.int .i64 ((0 : Nat) : Int))))], [(2, .box [.d (.int .u64 0), .d (.int .u64 0), .d (.int .u64 0)]), (3, .box [.d (.int .u64 a8.epoch), .d (.int .u64 a8.loop.1), .d (.int .u64 a8.loop.2)])]⟩) (c := True ∧ True ∧ True ∧ True ∧ True) (by kernel_rfl) ⟨trivial, trivial, trivial, trivial, trivial⟩ ?_
            refine At.done rfl ?_
            show Tri _ _ _ _
            refine Tri.seqS ?_
            refine Tri.reg ?_
            refine At.seg 6 [2, 3, 6, 7, 15, 16, 17, 30, 31, 40] [2, 3] (s' := ⟨[(2, .c (.ptr 2 0)), (3, .c (.ptr 3 0)), (6, .c (.d (.int .i64 ((0 : Nat) : Int)))), (7, .c (.d (.int .u64 ((p0.getD i2 default).loop.1)))), (15, .c (.d (.list 3 p0.length (fun i => encTime (p0.getD i default))))), (16, .c (.d (.int .i64 (p0.length : Int)))), (17, .c (.d (.int .i64 ((i2 : Nat) : Int)))), (30, .agg [.d (.int .u64 ((p0.getD i2 default).loop.1)), .d (.int .u64 ((p0.getD i2 default).loop.2))]), (31, .c (.d (.int .i64 ((0 : Nat) : Int)))), (40, .c (.d (.bool (decide ((p0.getD i2 default).loop.1 < a8.loop.1)))))], [(2, .box [.d (.int .u64 0), .d (.int .u64 0), .d (.int .u64 0)]), (3, .box [.d (.int .u64 a8.epoch), .d (.int .u64 a8.loop.1), .d (.int .u64 a8.loop.2)])]⟩) (c := True ∧ True ∧ True ∧ True ∧ True ∧ True ∧ True) (by kernel_rfl) ⟨trivial, trivial, trivial, trivial, trivial, trivial, trivial⟩ ?_
            refine At.done rfl ?_
            show Tri _ _ _ _
            refine Tri.condP (b := (decide ((p0.getD i2 default).loop.1 < a8.loop.1))) rfl h (fun h => ?_) (fun h => ?_)
            · refine Tri.reg ?_
              refine At.seg 5 [31, 2, 3, 15, 16, 17, 30] [2, 3] (s' := ⟨[(31, .c (.d (.int .i64 ((0 : Nat) : Int)))), (2, .c (.ptr 2 0)), (3, .c (.ptr 3 0)), (15, .c (.d (.list 3 p0.length (fun i => encTime (p0.getD i default))))), (16, .c (.d (.int .i64 (p0.length : Int)))), (17, .c (.d (.int .i64 ((i2 : Nat) : Int)))), (30, .agg [.d (.int .u64 ((p0.getD i2 default).loop.1)), .d (.int .u64 ((p0.getD i2 default).loop.2))])], [(2, .box [.d (.int .u64 0), .d (.int .u64 0), .d (.int .u64 0)]), (3, .box [.d (.int .u64 a8.epoch), .d (.int .u64 ((p0.getD i2 default).loop.1)), .d (.int .u64 a8.loop.2)])]⟩) (c := True ∧ True ∧ True ∧ True ∧ True ∧ True) (by kernel_rfl) ⟨trivial, trivial, trivial, trivial, trivial, trivial⟩ ?_
              refine At.done rfl ?_
              cases h
              exact rfl
            · refine Tri.keep [31, 2, 3, 15, 16, 17, 30] [2, 3] (s' := ⟨[(31, .c (.d (.int .i64 ((0 : Nat) : Int)))), (2, .c (.ptr 2 0)), (3, .c (.ptr 3 0)), (15, .c (.d (.list 3 p0.length (fun i => encTime (p0.getD i default))))), (16, .c (.d (.int .i64 (p0.length : Int)))), (17, .c (.d (.int .i64 ((i2 : Nat) : Int)))), (30, .agg [.d (.int .u64 ((p0.getD i2 default).loop.1)), .d (.int .u64 ((p0.getD i2 default).loop.2))])], [(2, .box [.d (.int .u64 0), .d (.int .u64 0), .d (.int .u64 0)]), (3, .box [.d (.int .u64 a8.epoch), .d (.int .u64 a8.loop.1), .d (.int .u64 a8.loop.2)])]⟩) (by kernel_rfl) ?_
              refine Tri.skip ?_
              cases h
              exact rfl
          rcases i7 with _ | i7
          · refine Tri.seqS ?_
            refine Tri.reg ?_
            refine At.seg 4 [2, 3, 6, 7, 15, 16, 17, 30, 31] [2, 3] (s' := ⟨[(2, .c (.ptr 2 0)), (3, .c (.ptr 3 0)), (6, .c (.d (.int .i64 ((1 : Nat) : Int)))), (7, .c (.d (.int .u64 ((p0.getD i2 default).loop.2)))), (15, .c (.d (.list 3 p0.length (fun i => encTime (p0.getD i default))))), (16, .c (.d (.int .i64 (p0.length : Int)))), (17, .c (.d (.int .i64 ((i2 : Nat) : Int)))), (30, .agg [.d (.int .u64 ((p0.getD i2 default).loop.1)), .d (.int .u64 ((p0.getD i2 default).loop.2))]), (31, .c (.d (.int .i64 ((1 : Nat) : Int))))], [(2, .box [.d (.int .u64 0), .d (.int .u64 0), .d (.int .u64 0)]), (3, .box [.d (.int .u64 a8.epoch), .d (.int .u64 a8.loop.1), .d (.int .u64 a8.loop.2)])]⟩) (c := True ∧ True ∧ True ∧ True ∧ True) (by kernel_rfl) ⟨trivial, trivial, trivial, trivial, trivial⟩ ?_
            refine At.done rfl ?_
            show Tri _ _ _ _
            refine Tri.seqS ?_
            refine Tri.reg ?_
            refine At.seg 6 [2, 3, 6, 7, 15, 16, 17, 30, 31, 40] [2, 3] (s' := ⟨[(2, .c (.ptr 2 0)), (3, .c (.ptr 3 0)), (6, .c (.d (.int .i64 ((1 : Nat) : Int)))), (7, .c (.d (.int .u64 ((p0.getD i2 default).loop.2)))), (15, .c (.d (.list 3 p0.length (fun i => encTime (p0.getD i default))))), (16, .c (.d (.int .i64 (p0.length : Int)))), (17, .c (.d (.int .i64 ((i2 : Nat) : Int)))), (30, .agg [.d (.int .u64 ((p0.getD i2 default).loop.1)), .d (.int .u64 ((p0.getD i2 default).loop.2))]), (31, .c (.d (.int .i64 ((1 : Nat) : Int)))), (40, .c (.d (.bool (decide ((p0.getD i2 default).loop.2 < a8.loop.2)))))], [(2, .box [.d (.int .u64 0), .d (.int .u64 0), .d (.int .u64 0)]), (3, .box [.d (.int .u64 a8.epoch), .d (.int .u64 a8.loop.1), .d (.int .u64 a8.loop.2)])]⟩) (c := True ∧ True ∧ True ∧ True ∧ True ∧ True ∧ True) (by kernel_rfl) ⟨trivial, trivial, trivial, trivial, trivial, trivial, trivial⟩ ?_
            refine At.done rfl ?_
            show Tri _ _ _ _
            refine Tri.condP (b := (decide ((p0.getD i2 default).loop.2 < a8.loop.2))) rfl h (fun h => ?_) (fun h => ?_)
            · refine Tri.reg ?_
              refine At.seg 5 [31, 2, 3, 15, 16, 17, 30] [2, 3] (s' := ⟨[(31, .c (.d (.int .i64 ((1 : Nat) : Int)))), (2, .c (.ptr 2 0)), (3, .c (.ptr 3 0)), (15, .c (.d (.list 3 p0.length (fun i => encTime (p0.getD i default))))), (16, .c (.d (.int .i64 (p0.length : Int)))), (17, .c (.d (.int .i64 ((i2 : Nat) : Int)))), (30, .agg [.d (.int .u64 ((p0.getD i2 default).loop.1)), .d (.int .u64 ((p0.getD i2 default).loop.2))])], [(2, .box [.d (.int .u64 0), .d (.int .u64 0), .d (.int .u64 0)]), (3, .box [.d (.int .u64 a8.epoch), .d (.int .u64 a8.loop.1), .d (.int .u64 ((p0.getD i2 default).loop.2))])]⟩) (c := True ∧ True ∧ True ∧ True ∧ True ∧ True) (by kernel_rfl) ⟨trivial, trivial, trivial, trivial, trivial, trivial⟩ ?_
              refine At.done rfl ?_
              cases h
              exact rfl
            · refine Tri.keep [31, 2, 3, 15, 16, 17, 30] [2, 3] (s' := ⟨[(31, .c (.d (.int .i64 ((1 : Nat) : Int)))), (2, .c (.ptr 2 0)), (3, .c (.ptr 3 0)), (15, .c (.d (.list 3 p0.length (fun i => encTime (p0.getD i default))))), (16, .c (.d (.int .i64 (p0.length : Int)))), (17, .c (.d (.int .i64 ((i2 : Nat) : Int)))), (30, .agg [.d (.int .u64 ((p0.getD i2 default).loop.1)), .d (.int .u64 ((p0.getD i2 default).loop.2))])], [(2, .box [.d (.int .u64 0), .d (.int .u64 0), .d (.int .u64 0)]), (3, .box [.d (.int .u64 a8.epoch), .d (.int .u64 a8.loop.1), .d (.int .u64 a8.loop.2)])]⟩) (by kernel_rfl) ?_
              refine Tri.skip ?_
              cases h
              exact rfl
          exact absurd hii7 (by omega)
        · intro a9 h
          cases h
          exact rfl
        · exact fun x => x.elim
      · refine Tri.seqS ?_
        refine Tri.reg ?_
        refine At.seg 5 [2, 3, 5, 15, 16, 17, 25] [2, 3, 5] (s' := ⟨[(2, .c (.ptr 2 0)), (3, .c (.ptr 3 0)), (5, .c (.ptr 5 0)), (15, .c (.d (.list 3 p0.length (fun i => encTime (p0.getD i default))))), (16, .c (.d (.int .i64 (p0.length : Int)))), (17, .c (.d (.int .i64 ((i2 : Nat) : Int)))), (25, .c (.d (.bool (decide ((p0.getD i2 default).epoch < a3.epoch)))))], [(2, .box [.d (.int .u64 0), .d (.int .u64 0), .d (.int .u64 0)]), (3, .box [.d (.int .u64 a3.epoch), .d (.int .u64 a3.loop.1), .d (.int .u64 a3.loop.2)]), (5, .box [.d (.int .u64 ((p0.getD i2 default).epoch)), .d (.int .u64 ((p0.getD i2 default).loop.1)), .d (.int .u64 ((p0.getD i2 default).loop.2))])]⟩) (c := True ∧ True ∧ True ∧ True ∧ True ∧ True) (by kernel_rfl) ⟨trivial, trivial, trivial, trivial, trivial, trivial⟩ ?_
        refine At.done rfl ?_
        show Tri _ _ _ _
        refine Tri.condP (b := (decide ((p0.getD i2 default).epoch < a3.epoch))) rfl h (fun h => ?_) (fun h => ?_)
        · refine Tri.reg ?_
          refine At.seg 4 [2, 3, 5, 15, 16, 17] [2, 3, 5] (s' := ⟨[(2, .c (.ptr 2 0)), (3, .c (.ptr 3 0)), (5, .c (.ptr 5 0)), (15, .c (.d (.list 3 p0.length (fun i => encTime (p0.getD i default))))), (16, .c (.d (.int .i64 (p0.length : Int)))), (17, .c (.d (.int .i64 ((i2 : Nat) : Int))))], [(2, .box [.d (.int .u64 0), .d (.int .u64 0), .d (.int .u64 0)]), (3, .box [.d (.int .u64 ((p0.getD i2 default).epoch)), .d (.int .u64 a3.loop.1), .d (.int .u64 a3.loop.2)]), (5, .box [.d (.int .u64 ((p0.getD i2 default).epoch)), .d (.int .u64 ((p0.getD i2 default).loop.1)), .d (.int .u64 ((p0.getD i2 default).loop.2))])]⟩) (c := True ∧ True ∧ True ∧ True ∧ True) (by kernel_rfl) ⟨trivial, trivial, trivial, trivial, trivial⟩ ?_
          refine At.done rfl ?_
          exact ⟨_, h, rfl⟩
        · refine Tri.keep [2, 3, 5, 15, 16, 17] [2, 3, 5] (s' := ⟨[(2, .c (.ptr 2 0)), (3, .c (.ptr 3 0)), (5, .c (.ptr 5 0)), (15, .c (.d (.list 3 p0.length (fun i => encTime (p0.getD i default))))), (16, .c (.d (.int .i64 (p0.length : Int)))), (17, .c (.d (.int .i64 ((i2 : Nat) : Int))))], [(2, .box [.d (.int .u64 0), .d (.int .u64 0), .d (.int .u64 0)]), (3, .box [.d (.int .u64 a3.epoch), .d (.int .u64 a3.loop.1), .d (.int .u64 a3.loop.2)]), (5, .box [.d (.int .u64 ((p0.getD i2 default).epoch)), .d (.int .u64 ((p0.getD i2 default).loop.1)), .d (.int .u64 ((p0.getD i2 default).loop.2))])]⟩) (by kernel_rfl) ?_
          refine Tri.skip ?_
          exact ⟨_, h, rfl⟩
    · intro a4 h
      show Tri _ _ _ _
      refine Tri.seqS ?_
      refine Tri.reg ?_
      refine At.seg 2 [2] [2] (s' := ⟨[(2, .c (.ptr 2 0))], [(2, .box [.d (.int .u64 a4.epoch), .d (.int .u64 a4.loop.1), .d (.int .u64 a4.loop.2)])]⟩) (c := True ∧ True ∧ True) (by kernel_rfl) ⟨trivial, trivial, trivial⟩ ?_
      refine At.done rfl ?_
      show Tri _ _ _ _
      refine Tri.keep [2] [2] (s' := ⟨[(2, .c (.ptr 2 0))], [(2, .box [.d (.int .u64 a4.epoch), .d (.int .u64 a4.loop.1), .d (.int .u64 a4.loop.2)])]⟩) (by kernel_rfl) ?_
      refine Tri.ret ?_
      cases h
      refine ⟨_, _, rfl, ⟨trivial, trivial⟩, rfl, rfl, ?_⟩
      intro k c h
      cases h
    · exact fun x => x.elim

set_option maxRecDepth 100000 in
theorem freshetlaw04_MomentBounds_ok {p0 : List Time} {q : Bool} (h : freshetlaw04_MomentBounds p0 = some q) :
    Summ Try.prog 3 [.c (.d (.list 3 p0.length (fun i => encTime (p0.getD i default))))] [] (.c (.d (.bool q))) [] := by
  refine Summ.intro Try.func3 rfl (by kernel_rfl) (by kernel_rfl) ?_
  rintro ⟨P, w0, G0, V, LL, lk, N⟩ rfl rfl rfl
  unfold freshetlaw04_MomentBounds at h
  refine Tri.seqS ?_
  refine Tri.reg ?_
  refine At.seg 1 [0] [] (s' := ⟨[(0, .c (.d (.list 3 p0.length (fun i => encTime (p0.getD i default)))))], []⟩) (c := True ∧ True) (by kernel_rfl) ⟨trivial, trivial⟩ ?_
  refine At.done rfl ?_
  show Tri _ _ _ _
  refine Tri.seqJ (fun (a1 : Bool) => ⟨[(2, .c (.d (.bool a1)))], []⟩) h (fun a1 h => ?_) (fun j2 h => ?_)
  · show Tri _ _ ⟨[(2, .c (.d (.bool a1)))], []⟩ _
    refine Tri.keep [2] [] (s' := ⟨[(2, .c (.d (.bool a1)))], []⟩) (by kernel_rfl) ?_
    refine Tri.ret ?_
    cases h
    refine ⟨_, _, rfl, ⟨trivial, trivial⟩, rfl, rfl, ?_⟩
    intro k c h
    cases h
  · refine Tri.reg ?_
    obtain ⟨r3, hr3, h⟩ := bind_elim h
    refine At.callA (caps := []) (xs := []) (freshetlaw04_bounds_ok hr3) rfl rfl rfl rfl rfl rfl .nil rfl rfl ?_
    refine At.seg 1 [0, 4] [] (s' := ⟨[(0, .c (.d (.list 3 p0.length (fun i => encTime (p0.getD i default))))), (4, .c (.d (.bool r3)))], []⟩) (c := True ∧ True) (by kernel_rfl) ⟨trivial, trivial⟩ ?_
    refine At.case (fun b => ⟨[(0, .c (.d (.list 3 p0.length (fun i => encTime (p0.getD i default))))), (4, .c (.d (.bool b)))], []⟩) (b := r3) h (fun h => ?_) (fun h => ?_)
    · refine At.seg 1 [0, 4, 5] [] (s' := ⟨[(0, .c (.d (.list 3 p0.length (fun i => encTime (p0.getD i default))))), (4, .c (.d (.bool true))), (5, .c (.d (.list 3 p0.length (fun i => encTime (p0.getD i default)))))], []⟩) (c := True ∧ True) (by kernel_rfl) ⟨trivial, trivial⟩ ?_
      obtain ⟨r4, hr4, h⟩ := bind_elim h
      refine At.callA (caps := []) (xs := [.c (.d (.list 3 p0.length (fun i => encTime (p0.getD i default))))]) (moment_Lub_ok hr4) rfl rfl rfl rfl rfl rfl (.cons (.refl _) .nil) rfl rfl ?_
      refine At.seg 1 [0, 4, 6, 7] [] (s' := ⟨[(0, .c (.d (.list 3 p0.length (fun i => encTime (p0.getD i default))))), (4, .c (.d (.bool true))), (6, .agg [.d (.int .u64 r4.epoch), .d (.int .u64 r4.loop.1), .d (.int .u64 r4.loop.2)]), (7, .c (.d (.list 3 p0.length (fun i => encTime (p0.getD i default)))))], []⟩) (c := True ∧ True) (by kernel_rfl) ⟨trivial, trivial⟩ ?_
      obtain ⟨r5, hr5, h⟩ := bind_elim h
      refine At.callA (caps := []) (xs := [.c (.d (.list 3 p0.length (fun i => encTime (p0.getD i default))))]) (freshetref04_Lub_ok hr5) rfl rfl rfl rfl rfl rfl (.cons (.refl _) .nil) rfl rfl ?_
      refine At.one rfl (One.eql (b := (eqTime r4 r5)) (d := 9) rfl rfl rfl (.inl rfl) rfl rfl (by kernel_rfl) rfl (by kernel_rfl)) ?_
      refine At.seg 2 [0, 11] [] (s' := ⟨[(0, .c (.d (.list 3 p0.length (fun i => encTime (p0.getD i default))))), (11, .c (.d (.bool (eqTime r4 r5))))], []⟩) (c := True ∧ True ∧ True) (by kernel_rfl) ⟨trivial, trivial, trivial⟩ ?_
      refine At.case (fun b => ⟨[(0, .c (.d (.list 3 p0.length (fun i => encTime (p0.getD i default))))), (11, .c (.d (.bool b)))], []⟩) (b := (eqTime r4 r5)) h (fun h => ?_) (fun h => ?_)
      · refine At.seg 1 [0, 11, 12] [] (s' := ⟨[(0, .c (.d (.list 3 p0.length (fun i => encTime (p0.getD i default))))), (11, .c (.d (.bool true))), (12, .c (.d (.list 3 p0.length (fun i => encTime (p0.getD i default)))))], []⟩) (c := True ∧ True) (by kernel_rfl) ⟨trivial, trivial⟩ ?_
        obtain ⟨r6, hr6, h⟩ := bind_elim h
        refine At.callA (caps := []) (xs := [.c (.d (.list 3 p0.length (fun i => encTime (p0.getD i default))))]) (moment_Glb_ok hr6) rfl rfl rfl rfl rfl rfl (.cons (.refl _) .nil) rfl rfl ?_
        refine At.seg 1 [11, 13, 14] [] (s' := ⟨[(11, .c (.d (.bool true))), (13, .agg [.d (.int .u64 r6.epoch), .d (.int .u64 r6.loop.1), .d (.int .u64 r6.loop.2)]), (14, .c (.d (.list 3 p0.length (fun i => encTime (p0.getD i default)))))], []⟩) (c := True ∧ True) (by kernel_rfl) ⟨trivial, trivial⟩ ?_
        obtain ⟨r7, hr7, h⟩ := bind_elim h
        refine At.callA (caps := []) (xs := [.c (.d (.list 3 p0.length (fun i => encTime (p0.getD i default))))]) (freshetref04_Glb_ok hr7) rfl rfl rfl rfl rfl rfl (.cons (.refl _) .nil) rfl rfl ?_
        refine At.one rfl (One.eql (b := (eqTime r6 r7)) (d := 9) rfl rfl rfl (.inl rfl) rfl rfl (by kernel_rfl) rfl (by kernel_rfl)) ?_
        refine At.seg 2 [2] [] (s' := ⟨[(2, .c (.d (.bool (eqTime r6 r7))))], []⟩) (c := True ∧ True ∧ True) (by kernel_rfl) ⟨trivial, trivial, trivial⟩ ?_
        refine At.done rfl ?_
        exact ⟨_, h, rfl⟩
      · refine At.seg 7 [2] [] (s' := ⟨[(2, .c (.d (.bool false)))], []⟩) (c := True ∧ True ∧ True) (by kernel_rfl) ⟨trivial, trivial, trivial⟩ ?_
        refine At.done rfl ?_
        exact ⟨_, h, rfl⟩
    · refine At.seg 14 [2] [] (s' := ⟨[(2, .c (.d (.bool false)))], []⟩) (c := True ∧ True ∧ True ∧ True ∧ True) (by kernel_rfl) ⟨trivial, trivial, trivial, trivial, trivial⟩ ?_
      refine At.done rfl ?_
      exact ⟨_, h, rfl⟩

end Go.Av