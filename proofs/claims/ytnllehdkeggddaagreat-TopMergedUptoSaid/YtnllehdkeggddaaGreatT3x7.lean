import Derived.Test.YtnllehdkeggddaaGreatT3x6
import Derived.KernelRfl
set_option maxRecDepth 100000
set_option linter.unusedVariables false
set_option linter.unusedSimpArgs false
set_option linter.unusedSectionVars false
open Nat renaming le_refl→zzc
open List renaming length_append→zzj, map_cons→zzq
namespace Go.Av
open Go
theorem zsa {n:Int}(h:okInt .i64 n):in64 n:=by
 have:=Go.bounds_i64 h;unfold in64;omega
theorem zf2 {n:Int}(h:okInt .u64 n):0≤n:=(Go.bounds_u64 h).1
theorem zki {t:Time}(h:zgl t):z1j t:=⟨zf2 h.1,zf2 h.2.1.1,zf2 h.2.1.2⟩
abbrev okUs (l:List Update):Prop:=l.length≤maxN∧ ∀x∈l,zf4 x
abbrev okTs (l:List Time):Prop:=l.length≤maxN∧ ∀x∈l,zgl x
theorem us_in {l:List Update}(h:okUs l): ∀u∈l,in64 u.diff:=fun u hu=>zsa (h.2 u hu).2.2.2.1
theorem us_nn {l:List Update}(h:okUs l): ∀u∈l,z1j u.time:=fun u hu=>zki (h.2 u hu).2.2.1
theorem zte (l:List Update):l.length≤(l.map z7t).sum:=za0 (f:=z7t) (fun x=>by unfold z7t;omega) l
end Go.Av
namespace Go.Av
open Go
theorem zls {α:Type}(f:α→Nat)(hf: ∀l:List α,l.length≤(l.map f).sum): ∀ls:List (List α),ls.flatten.length≤(ls.map fun l=>(l.map f).sum+1).sum
 |[]=>by simp
 |l::ls=>by
  have:=hf l;have:=zls f hf ls
  simp only[List.flatten_cons,zzj,zzq,List.sum_cons];omega
end Go.Av
namespace Go.Av
open Go
theorem zp8:z6o 100000000=some true:=by kernel_rfl
theorem zp9:z5y 100000000 [] []=some (⟨[],[]⟩,0):=by kernel_rfl
theorem zkv {l:List (List Update)}{p:List Int}{t:Time}(h1:l.length≤maxN∧ ∀x∈l,okUs x)(h2:p.length≤maxN∧ ∀x∈p,okInt .i64 x)(h3:zgl t)
 (hb:((l.map fun xs=>(xs.map z7t).sum+1).sum+1)+(((p.map fun _=>1).sum+1)+(zhq t+0))≤1048576):z5g 100000000 l p t=some true:=by
 have:=zls z7t zte l;have:=za0 (f:=fun _:Int=>1) (fun x=>zzc _) p
 exact zjg zp8 zp9 (by omega) (by omega) (by omega) (fun x hx=>us_in (h1.2 x hx)) (fun x hx=>us_nn (h1.2 x hx)) (zki h3)
end Go.Av
