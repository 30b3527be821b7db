/-
  Av, part Y: more rules over lists; library functions that the model stands in for.
-/
import Derived.Test.YtoiphmpjiobaiaaAvX
import Derived.Laws.Externs
import Derived.Lib.Join
namespace Go.Av
open Go
set_option linter.unusedVariables false
set_option linter.unusedSimpArgs false
set_option linter.unusedSectionVars false


@[reducible] def onlyS (s1 : St) : Exit → St → Prop := fun e s => e = .normal ∧ s = s1

section
variable {E : Env} {s : St} {X : Type} [Inhabited X]

theorem Tri.afterA (s1 : St) {c : Code} {post : Exit → St → Prop} (h : Tri E c s (onlyS s1)) (hA : At E [] 0 s1 (post .normal)) : Tri E c s post := fun a w hs =>
  wp_mono (h a w hs) fun e a' w' ⟨s', hp, hs'⟩ => by
    obtain ⟨rfl, rfl⟩ := hp
    exact hA a' w' hs' (fun e a'' w'' => ∃ s'', post e s'' ∧ SimE E s'' a'' w'') fun s'' a'' w'' k h' => ⟨s'', k, h'⟩


theorem One.bytesStrT {ops : Array Oper} {o : Oper} {src dst e : TypeId} {x : Operand} {y : AV} (xs : List Int)
    (hop : o.op = .convert src dst x) (hw : wantedB ops s o = some true) (hd : dstOk E.N o.dst = true)
    (hu : E.P.underlying src = some (.slice e)) (hb : E.P.underlying e = some (.int .u8)) (hst : E.P.underlying dst = some .string)
    (hx : evO s x = some y) (hsrc : SrcOf s y 1 xs.length (fun i => encInt .u8 (xs.getD i default))) :
    One E ops o s (putO s o.dst (.c (.d (.str (strOfNums xs))))) :=
  One.bytesStr hop hw hd hu hb hst hx hsrc rfl fun i hi => rfl

def numsOf (s : ByteArray) : List Int := s.data.toList.map fun b => (b.toNat : Int)

@[simp] theorem numsOf_length (s : ByteArray) : (numsOf s).length = s.size := by
  unfold numsOf
  rw [List.length_map, Array.length_toList]
  rfl

theorem One.weakenS {ops : Array Oper} {o : Oper} {s1 s2 : St} (h : One E ops o s s1) (fz : List Nat) (hfz : ∀ k ∈ fz, k ∉ E.lk) (ht : LeT s1 fz s2.tm) (hs : LeS s1 fz s2.sl) : One E ops o s s2 := h.weaken fun a w hs' => hs'.le fz hfz ht hs

theorem One.strBytesT {ops : Array Oper} {o : Oper} {d : Nat} {src dst e : TypeId} {u : TypeDesc} {x : Operand} {sx : ByteArray}
    (hop : o.op = .convert src dst x) (hw : wantedB ops s o = some true) (hd : o.dst = some d) (hlt : Nat.blt d E.N = true) (hnr : s.noRef d = true)
    (hu : E.P.underlying src = some u) (hds : E.P.underlying dst = some (.slice e)) (hb : E.P.underlying e = some (.int .u8)) (hx : evO s x = some (.c (.d (.str sx)))) (hm : sx.size ≤ maxN) :
    One E ops o s ((s.slot d (.vec 1 (numsOf sx).length (fun i => encInt .u8 ((numsOf sx).getD i default)))).put d (.c (.own d 1 0 (numsOf sx).length))) := by
  have h := One.strBytes hop hw hd hlt hnr hu hds hb hx hm
  have e1 : (fun i => [D.int .u8 ((sx.data.toList.getD i 0).toNat : Int)]) = fun i => encInt .u8 ((numsOf sx).getD i default) := by
    funext i
    unfold numsOf encInt
    rw [List.getD_eq_getElem?_getD, List.getD_eq_getElem?_getD, List.getElem?_map]
    cases sx.data.toList[i]? <;> rfl
  rw [e1] at h
  rw [numsOf_length]
  exact h


def copyL (dst src : List X) : List X := src ++ dst.drop src.length

theorem copyL_length {dst src : List X} (h : src.length ≤ dst.length) : (copyL dst src).length = dst.length := by simp [copyL]; omega

theorem One.copyT {ops : Array Oper} {o : Oper} {k es : Nat} {dT sT e : TypeId} {p x : Operand} {y : AV} (enc : X → List D) (dst src : List X)
    (hop : o.op = .call ⟨.builtin .copy, #[p, x], #[dT, sT]⟩) (hw : wantedB ops s o = some true) (hd : dstOk E.N o.dst = true)
    (hu : E.P.underlying dT = some (.slice e)) (hsz : sizeT E.P e = some es) (hp : evO s p = some (.c (.own k es 0 dst.length))) (hk : look s.sl k = some (.vec es dst.length (fun i => enc (dst.getD i default)))) (hx : evO s x = some y)
    (hsrc : SrcOf s y es src.length (fun i => enc (src.getD i default))) (hm : src.length ≤ dst.length) :
    One E ops o s (putO (s.slot k (.vec es (copyL dst src).length (fun i => enc ((copyL dst src).getD i default)))) o.dst (.c (.d (.int .i64 (src.length : Int))))) := by
  have h := One.copy hop hw hd hu hsz hp hk hx hsrc hm
  rw [copyL_length hm]
  have e1 : copyGet src.length (fun i => enc (src.getD i default)) (fun i => enc (dst.getD i default)) = fun i => enc ((copyL dst src).getD i default) := by
    funext i
    unfold copyGet copyL
    rw [getD_append']
    split
    · rfl
    · rename_i hi
      show enc (dst.getD i default) = enc ((dst.drop src.length).getD (i - src.length) default)
      rw [List.getD_eq_getElem?_getD, List.getD_eq_getElem?_getD, List.getElem?_drop]
      congr 3
      omega
  rw [e1] at h
  exact h


theorem One.cap0 {ops : Array Oper} {o : Oper} {t e : TypeId} {d : Nat} {x : Operand}
    (hop : o.op = .call ⟨.builtin .cap, #[x], #[t]⟩) (hw : wantedB ops s o = some true) (hd : o.dst = some d) (hlt : Nat.blt d E.N = true) (hu : E.P.underlying t = some (.slice e)) (hx : evO s x = some (.c .zero)) :
    One E ops o s (s.put d (.c (.d (.int .i64 0)))) := fun a w hs => by
  obtain ⟨G, φ, h⟩ := hs
  refine ⟨wantedB_spec h hw, fun next Q hn => ?_⟩
  obtain ⟨A, hA⟩ := (h.ev hx).1
  have he : execOp a.eval o = (do pure (.value (← Builtin.cap_ #[t] o.type #[a.eval x])) : Sem Next) := by
    unfold execOp; rw [hop]
    simp [resolve, invoke, builtin]
  have hrun : (Builtin.cap_ #[t] o.type #[a.eval x]).run E.P w = .ok (.int .i64 0) w := by
    rw [hA]
    simp [Builtin.cap_, run_underlying hu, goInt]
  unfold Oper.wp
  rw [he]
  simp only [Sem.run_bind, hrun, Result.andThen_ok, Sem.run_pure, Oper.upon, hd]
  exact hn _ _ ⟨G, φ, h.put (Nat.blt_eq.mp hlt) (relAV_c (RelD.int _ _) rfl)⟩

theorem One.appendN0 {ops : Array Oper} {o : Oper} {d : Nat} {sT xT e : TypeId} {es bs : Nat} {kn kx : IntKind} {n : Int} {b x : Operand} {z : List C} {ds : List D} (enc : X → List D) (v0 : X)
    (hop : o.op = .call ⟨.builtin .append, #[b, x], #[sT, xT]⟩) (hw : wantedB ops s o = some true) (hd : o.dst = some d) (hlt : Nat.blt d E.N = true) (hnr : s.noRef d = true)
    (hu : E.P.underlying sT = some (.slice e)) (hx : E.P.underlying xT = some (.int kx)) (hsz : sizeT E.P e = some es) (hbs : bytesT E.P e = some bs) (hbp : Nat.blt 0 bs = true) (hb2 : Nat.ble bs 256 = true)
    (hz : zeroCells E.P e = some z) (hze : Nat.beq z.length es = true) (hes : Nat.blt 0 es = true) (hzd : CsLe s [] z (ds.map .d)) (hev : enc v0 = ds)
    (hb : evO s b = some (.c .zero)) (hxv : evO s x = some (.c (.d (.int kn n)))) (h0 : 0 < n) (h1 : n ≤ (lim : Int)) :
    One E ops o s ((s.slot d (.vec es (List.replicate n.toNat v0).length (fun i => enc ((List.replicate n.toNat v0).getD i default)))).put d (.c (.own d es 0 (List.replicate n.toNat v0).length))) := fun a w hs => by
  obtain ⟨G, φ, h⟩ := hs
  refine ⟨wantedB_spec h hw, fun next Q hn => ?_⟩
  obtain ⟨A, hA⟩ := (h.ev hb).1
  have hN : a.eval x = .int kn n := rel_int (h.ev hxv)
  obtain ⟨zv, z1, z2, z3⟩ := zeroCells_run hz
  have hbs0 := Nat.blt_eq.mp hbp
  have hbs2 := Nat.le_of_ble_eq_true hb2
  have hze := Nat.eq_of_beq_eq_true hze
  have hes0 := Nat.blt_eq.mp hes
  have hzsz : zv.cells.size = es := by rw [← hze, ← z2]; simp
  have hlimv : (lim : Int) = 274877906944 := rfl
  have hwr : IntKind.i64.wrap n = n := wrap_small (by omega) (by omega)
  have hinfo : ∀ w, (typeInfo e).run E.P w = .ok ((E.P.info? e).getD default) w := fun w => by
    unfold sizeT at hsz
    cases hi : E.P.info? e with
    | none => simp [hi] at hsz
    | some i => simp [typeInfo, hi]
  have hbytes : ((E.P.info? e).getD default).bytes = bs := by
    unfold bytesT at hbs
    cases hi : E.P.info? e with
    | none => simp [hi] at hbs
    | some i => simpa [hi] using hbs
  have hn0 : n.toNat * es ≠ 0 := by
    have : 0 < n.toNat := by omega
    exact Nat.ne_of_gt (Nat.mul_pos this hes0)
  let q : Question := .appendCap (0 + n.toNat) 0 e
  let newCap := q.cut (w.tape w.drawn q)
  have hge : 0 + n.toNat ≤ newCap := Nat.le_add_right _ _
  let vs : Array Value := #[] ++ Builtin.zeroCells zv.cells n.toNat ++ Builtin.zeroCells zv.cells (newCap - (0 + n.toNat))
  have hrun : (Builtin.append_ #[sT, xT] o.type #[.slice A 0 0, .int kn n]).run E.P w = .ok (.slice (some ⟨w.heap.size, 0, none⟩) (0 + n.toNat) newCap) (World.alloc { w with drawn := w.drawn + 1 } (.cells vs e)) := by
    have hlb : ¬ (n * (bs : Int) > 2 ^ 48) := by
      have h2 : n * (bs : Int) ≤ 274877906944 * 256 := Int.mul_le_mul (by omega) (by omega) (by omega) (by omega)
      have : (274877906944 : Int) * 256 ≤ 2 ^ 48 := by decide
      omega
    have hbig : ¬ (Builtin.nextslicecap (0 + n.toNat) 0 * bs > 2 ^ 48) := by
      have h1 := nextcap_le (need := 0 + n.toNat) (old := 0) (by omega)
      have h2 : Builtin.nextslicecap (0 + n.toNat) 0 ≤ 2 * lim + 192 := by
        have : lim = 274877906944 := rfl
        omega
      have h3 : Builtin.nextslicecap (0 + n.toNat) 0 * bs ≤ (2 * lim + 192) * 256 := Nat.mul_le_mul h2 hbs2
      have h4 : (2 * lim + 192) * 256 ≤ 2 ^ 48 := by decide
      omega
    have hmax : IntKind.i64.max = 9223372036854775807 := by decide
    have hask : ∀ b w', (askRoom b).run E.P w' = .ok () w' := fun b w' => by unfold askRoom; split <;> rfl
    have hch : (choose (.appendCap (0 + n.toNat) 0 e)).run E.P w = .ok newCap { w with drawn := w.drawn + 1 } := rfl
    have hold : ∀ w', (Builtin.firstCells es 0 (.slice A 0 0)).run E.P w' = .ok #[] w' := fun w' => by cases A <;> simp [Builtin.firstCells, loadCells, loadCellsFrom]
    have hnz : ¬ (n.toNat = 0 ∨ es = 0) := by omega
    unfold Builtin.append_
    simp only [List.getElem?_toArray, List.getElem?_cons_zero, List.getElem?_cons_succ, Sem.run_bind, run_underlying hu, run_underlying hx, Result.andThen_ok, sizeT_run hsz, Sem.run_pure, if_true, asInt, asIntOf, hwr, hinfo, hbytes]
    rw [if_neg (by omega : ¬ n < 0)]
    simp only [Sem.run_bind, hinfo, Result.andThen_ok, Sem.run_pure, hbytes]
    rw [if_neg hlb]
    simp only [Sem.run_bind, Result.andThen_ok, Sem.run_pure]
    rw [if_neg (by omega : ¬ 0 + n.toNat ≤ 0)]
    simp only [Sem.run_bind, hinfo, Result.andThen_ok, hbytes]
    have hsmall : ¬ (((0 + n.toNat : Nat) : Int) > IntKind.i64.max ∧ (True ∨ bs = 0)) := by
      rintro ⟨h, _⟩
      rw [hmax] at h
      omega
    rw [if_neg hsmall]
    simp only [Sem.run_bind, hinfo, Result.andThen_ok, hbytes]
    rw [if_neg hbig]
    simp only [Sem.run_bind, hch, Result.andThen_ok, hinfo, hask, hold, Bool.not_true, if_false, hn0, z1, newRow_run, Sem.run_pure, Bool.false_eq_true]
    rfl
  have he : execOp a.eval o = (do pure (.value (← Builtin.append_ #[sT, xT] o.type #[a.eval b, a.eval x])) : Sem Next) := by
    unfold execOp; rw [hop]
    simp [resolve, invoke, builtin]
  unfold Oper.wp
  rw [he, hA, hN]
  simp only [Sem.run_bind, hrun, Result.andThen_ok, Sem.run_pure, Oper.upon, hd]
  have hw1 : Sim E s G φ a { w with drawn := w.drawn + 1 } := h.world rfl rfl rfl rfl
  have hdl : ds.length = es := by
    have := hzd.rel h (vs := zv.cells.toList) (by rw [← z2]; exact constCs_rel G E.V φ w _)
    have := this.length
    simp at this
    omega
  have hzr : RelCs (RelC G E.V φ w) (ds.map .d) zv.cells.toList := by
    have h2 := hzd.rel h (vs := zv.cells.toList) (by rw [← z2]; exact constCs_rel G E.V φ w _)
    exact h2.mono fun c _ v hc => hc.mono (Same.refl _ _) (Same.refl _ _) (fun _ hb => withF_nil hb) fun _ _ => rfl
  have hcell : ∀ j, j < es → ∃ u, zv.cells[j]? = some u ∧ RelD G w (D.at ds j) u := fun j hj => by
    obtain ⟨u, hu, hr⟩ := hzr.get j (.d (D.at ds j)) (by rw [List.getElem?_map, List.getElem?_eq_getElem (by omega)]; simp [D.at, List.getD_eq_getElem?_getD, List.getElem?_eq_getElem (show j < ds.length by omega)])
    exact ⟨u, by simpa using hu, hr⟩
  have hvsz : vs.size = newCap * es := by
    simp only [vs, Array.size_append, Builtin.zeroCells, Array.size_map, Array.size_range, hzsz]
    rw [show (#[] : Array Value).size = 0 from rfl, Nat.zero_add, ← Nat.add_mul]
    congr 1; omega
  have hok : CellsOk G { w with drawn := w.drawn + 1 } vs.toList es n.toNat (fun _ => ds) := fun i hi => ⟨hdl, fun j hj => by
    obtain ⟨u, hu, hr⟩ := hcell j hj
    refine ⟨u, ?_, RelD.mono (w := w) (w' := { w with drawn := w.drawn + 1 }) (fun b _ => rfl) (fun _ h => h) hr⟩
    have hlt' : i * es + j < n.toNat * es := add_lt_mul hi hj
    have hmod : (i * es + j) % zv.cells.size = j := by rw [hzsz, Nat.add_comm, Nat.add_mul_mod_self_right, Nat.mod_eq_of_lt hj]
    have hz0 : (Builtin.zeroCells zv.cells n.toNat).size = n.toNat * es := by simp [Builtin.zeroCells, hzsz]
    have e1 : vs.toList[i * es + j]? = (Builtin.zeroCells zv.cells n.toNat)[i * es + j]? := by
      rw [Array.getElem?_toList]
      simp only [vs, Array.empty_append]
      rw [Array.getElem?_append_left (by omega)]
    rw [e1]
    unfold Builtin.zeroCells
    rw [Array.getElem?_map, Array.getElem?_range, hzsz, if_pos hlt']
    rw [hzsz] at hmod
    simp only [Option.map_some, hmod]
    rw [getElem!_def, hu]⟩
  have hs' := hw1.newVec (k := d) (w := { w with drawn := w.drawn + 1 }) (get := fun _ => ds) (h.notFx (Nat.blt_eq.mp hlt)) hnr e hvsz (by omega) (by unfold maxN; omega) hok
  have hput := hs'.put (Nat.blt_eq.mp hlt) (x := .c (.own d es 0 n.toNat)) (v := .slice (some ⟨w.heap.size, 0, none⟩) (0 + n.toNat) newCap) (relAV_c (Or.inr ⟨_, upd_same _ _ _, (show 0 + n.toNat ≤ newCap by omega), by simp⟩) rfl)
  have hfin := Sim.vecCongr (get' := fun i => enc ((List.replicate n.toNat v0).getD i default)) hput fun i hi => by
    show enc ((List.replicate n.toNat v0).getD i default) = ds
    rw [List.getD_eq_getElem?_getD, List.getElem?_replicate, if_pos hi]
    exact hev
  rw [List.length_replicate] at hn
  exact hn _ _ ⟨G, _, hfin⟩


def bits_Add64 (x y c : Int) : Option (Int × Int) :=
  need (0 ≤ x ∧ 0 ≤ y ∧ 0 ≤ c ∧ c ≤ 1) <| some ((x + y + c) % 18446744073709551616, (x + y + c) / 18446744073709551616)

theorem bits_Add64_ok {P : Program} {f : FuncId} {fn : Func} (hf : P.funcs[f]? = some fn) (hname : (fn.name == "runtime.NumGoroutine") = false) (hb : fn.body.isNone = true) (hn : Extern.findNext fn = none)
    (he : Extern.find fn = some add64Entry) {x y c : Int} {q : Int × Int} (h : bits_Add64 x y c = some q) :
    Summ P f [.c (.d (.int .u64 x)), .c (.d (.int .u64 y)), .c (.d (.int .u64 c))] [] (.tup [(false, [.d (.int .u64 q.1)]), (false, [.d (.int .u64 q.2)])]) [] := by
  unfold bits_Add64 at h
  obtain ⟨⟨hx, hy, hc0, hc1⟩, h⟩ := need_elim h
  cases h
  intro G φ w vs hG hsl hargs
  match vs, hargs with
  | [a, b, d], ⟨h1, h2, h3, _⟩ =>
    have e1 : RelD G w (.int .u64 x) a := h1.1
    have e2 : RelD G w (.int .u64 y) b := h2.1
    have e3 : RelD G w (.int .u64 c) d := h3.1
    cases e1; cases e2; cases e3
    have hrun : (callFunc f [Value.int .u64 x, .int .u64 y, .int .u64 c].toArray).run P w = .ok (.value (.tuple #[.int .u64 ((x + y + c) % 18446744073709551616), .int .u64 ((x + y + c) / 18446744073709551616)])) w := by
      rw [run_callFunc_extern hf hname hb hn he]
      rw [run_add64 x y c hx hy hc0 hc1]
      rfl
    unfold Acts
    rw [hrun]
    refine ⟨_, G, φ, rfl, ?_⟩
    exact
    { up := fun _ h => h
      fr := fun _ h => .inl h
      sz := hG
      rel := ⟨_, rfl, ⟨RelD.int _ _, rfl⟩, ⟨RelD.int _ _, rfl⟩, trivial⟩
      slots := ⟨(fun _ _ h => by cases h), (fun _ _ _ _ _ _ h => by cases h), (fun _ _ _ h => by cases h)⟩
      blk := fun _ _ _ h => by cases h
      kp := Keep.refl _ _ _
      fix := fun _ _ _ h => by cases h }

def strings_Join (xs : List ByteArray) (sep : ByteArray) : Option ByteArray :=
  need (xs.length ≤ 140737488355328 ∧ (Lib.join (xs.map (·.data.toList)) sep.data.toList).length ≤ 140737488355328) <| some ⟨(Lib.join (xs.map (·.data.toList)) sep.data.toList).toArray⟩

end
end Go.Av
namespace Go.Av
section
variable {X : Type} [Inhabited X]
omit [Inhabited X] in
theorem take_min {xs : List X} {h : Int} (hc : (0 : Int) ≤ 0 ∧ (0 : Int) ≤ h ∧ h ≤ (xs.length : Int)) : min h.toNat xs.length = h.toNat := by omega
omit [Inhabited X] in
theorem take_le (xs : List X) (m : Nat) : (xs.take m).length ≤ xs.length := by rw [List.length_take]; omega
theorem take_get (enc : X → List D) (xs : List X) (m : Nat) : ∀ i, i < (xs.take m).length → (fun i => enc ((xs.take m).getD i default)) i = (fun i => enc (xs.getD i default)) i := fun i hi => by
  show enc ((xs.take m).getD i default) = enc (xs.getD i default)
  rw [List.length_take] at hi
  rw [List.getD_eq_getElem?_getD, List.getD_eq_getElem?_getD, List.getElem?_take, if_pos (by omega)]
end
end Go.Av
