/-
 Begin: the tables of the program.
-/
import Derived.Test.YtgpjfmjceamonaaGreatDoorL7
import Derived.Test.YtgpjfmjceamonaaGreatDoorL6P4
namespace Go.Ev.L7
open Go.Proofs
theorem eA:EnvOk Tryz.prog env:=lQ (by kernel_rfl) (by kernel_rfl) (by kernel_rfl) (by kernel_rfl) (by kernel_rfl) (by kernel_rfl) (by kernel_rfl)
theorem envOkD:EnvOk Tryz.prog envD:=lQ (by kernel_rfl) (by kernel_rfl) (by kernel_rfl) (by kernel_rfl) (by kernel_rfl) (by kernel_rfl) (by kernel_rfl)
abbrev CE (g:Nat) (h:FH):Prop:=jY Tryz.prog Go.Ev.L6.envD g h
abbrev PE (np n:Nat) (c:Code) (p:Pc):Prop:=PK Tryz.prog env np n c p
abbrev PD (np n:Nat) (c:Code) (p:Pc):Prop:=PK Tryz.prog envD np n c p
section
variable {H:Nat→Option FH} {np n g key:Nat} {T:List Pc} {c:Code} {sh:Sh} {outs:List (Ex×Sh)}
abbrev HOk (H:Nat→Option FH):Prop:=HO Tryz.prog Go.Ev.L6.envD H
theorem lE {f:VS.dens sh.vs→Option (VS.dens sh.vs ⊕ outDen outs)} (hH:HOk H) (hT:OT Tryz.prog env np n (ia c key) T) (h1:(jK c key,fA np (ia c key))=([.loop (ia c key)],true)) (hf:∀ x,evC env H T (ia c key) (cG n sh x) (finK sh outs)=f x):PE np n c ⟨key,sh,outs,aA f⟩:=kl eA (fun g h hh=>hH g h hh) hT h1 hf
theorem pE {f:VS.dens sh.vs→Option (outDen outs)} (hH:HOk H) (hT:OT Tryz.prog env np n (jG c key) T) (h1:(jK c key,fA np (jG c key))=([jG c key],true)) (hf:∀ x,evC env H T (jG c key) (cG n sh x) (iF outs)=f x):PE np n c ⟨key,sh,outs,f⟩:=kp eA (fun g h hh=>hH g h hh) hT h1 hf
theorem cE {fn:Func} {ps rs:List VS} {f:VS.dens ps→Option (VS.dens rs×VS.dens (bR ps))} (hH:HOk H) (hfn:Tryz.prog.funcs[g]?=some fn) (hT:OT Tryz.prog env (iC ps) n (bd fn) T) (h1:(fn.name== "runtime.NumGoroutine",fn.body,fn.ntmps,Nat.ble ps.length n,fA (iC ps) (bd fn))=(false,some (bd fn),n,true,true)) (hf:∀ x,evC env H T (bd fn) (cG n (kW ps) x) (finF env fn.results.toList ps rs)=f x):CE g ⟨ps,rs,f⟩:=show jY Tryz.prog env g _ from kc eA (fun g h hh=>hH g h hh) hfn hT h1 hf
theorem lD {f:VS.dens sh.vs→Option (VS.dens sh.vs ⊕ outDen outs)} (hH:HOk H) (hT:OT Tryz.prog envD np n (ia c key) T) (h1:(jK c key,fA np (ia c key))=([.loop (ia c key)],true)) (hf:∀ x,evC envD H T (ia c key) (cG n sh x) (finK sh outs)=f x):PD np n c ⟨key,sh,outs,aA f⟩:=kl envOkD (fun g h hh=>hH g h hh) hT h1 hf
theorem pD {f:VS.dens sh.vs→Option (outDen outs)} (hH:HOk H) (hT:OT Tryz.prog envD np n (jG c key) T) (h1:(jK c key,fA np (jG c key))=([jG c key],true)) (hf:∀ x,evC envD H T (jG c key) (cG n sh x) (iF outs)=f x):PD np n c ⟨key,sh,outs,f⟩:=kp envOkD (fun g h hh=>hH g h hh) hT h1 hf
theorem cD {fn:Func} {ps rs:List VS} {f:VS.dens ps→Option (VS.dens rs×VS.dens (bR ps))} (hH:HOk H) (hfn:Tryz.prog.funcs[g]?=some fn) (hT:OT Tryz.prog envD (iC ps) n (bd fn) T) (h1:(fn.name== "runtime.NumGoroutine",fn.body,fn.ntmps,Nat.ble ps.length n,fA (iC ps) (bd fn))=(false,some (bd fn),n,true,true)) (hf:∀ x,evC envD H T (bd fn) (cG n (kW ps) x) (finF envD fn.results.toList ps rs)=f x):CE g ⟨ps,rs,f⟩:=show jY Tryz.prog envD g _ from kc envOkD (fun g h hh=>hH g h hh) hfn hT h1 hf
end
end Go.Ev.L7
