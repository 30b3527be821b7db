import Derived.Test.YtoiphmpjiobaiaaAvY
namespace Go.Av
abbrev i6 (x : Int) : D := .int .i64 x
abbrev u6 (x : Int) : D := .int .u64 x
abbrev cD (d : D) : AV := .c (.d d)
abbrev lD {X : Type} [Inhabited X] (es : Nat) (e : X → List D) (l : List X) : D := .list es l.length (fun i => e (l.getD i default))
abbrev wC {X : Type} [Inhabited X] (es : Nat) (e : X → List D) (l : List X) : C := .view es l.length (fun i => e (l.getD i default))
abbrev oC {X : Type} (k es : Nat) (l : List X) : C := .own k es 0 l.length
abbrev vL {X : Type} [Inhabited X] (es : Nat) (e : X → List D) (l : List X) : Slot := .vec es l.length (fun i => e (l.getD i default))
theorem DOk.t {E : Env} {ops : Array Oper} {o : Oper} {x : DOp} {d : Nat} {av : AV} (he0 : x.eff = ⟨[(d, av)], []⟩) (hd : o.dst = some d) (hw : (fun r => (wantedB ops (x.need.app r) o, evStep E.P (x.need.app r) (some d) o.op)) = fun _ => (some true, some (.val av True)))
    (hok : (okDst E.N x.need (some d) (.val av True) && mksOk x.mks (.val av True) (some d)) = true) : DOk E ops o x :=
  DOk.step (.val av True) (fun r => congrArg Prod.fst (congrFun hw r)) (fun r => by rw [hd]; exact congrArg Prod.snd (congrFun hw r)) trivial (by rw [hd]; exact (Bool.and_eq_true_iff.1 hok).1) (by rw [hd]; exact (Bool.and_eq_true_iff.1 hok).2) (fun r => by rw [hd, he0]; rfl)
end Go.Av
