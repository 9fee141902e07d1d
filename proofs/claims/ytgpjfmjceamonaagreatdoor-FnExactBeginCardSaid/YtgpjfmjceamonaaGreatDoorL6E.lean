/-
 The tables of the program; math.Signbit by hand (it calls what has no body).
-/
import Derived.Test.YtgpjfmjceamonaaGreatDoorL6
import Derived.Test.YtgpjfmjceamonaaGreatDoorLC
import Derived.WalkKit
import Derived.ProofKit
import Derived.Laws.Externs
namespace Go.Ev.L6
open Go.Proofs Go.ChangeShapes Go.WideShapes Go.ChangeAt Go.RowKit
theorem eA:EnvOk Tryz.prog env:=lQ (by kernel_rfl) (by kernel_rfl) (by kernel_rfl) (by kernel_rfl) (by kernel_rfl) (by kernel_rfl) (by kernel_rfl)
theorem envOkD:EnvOk Tryz.prog envD:=lQ (by kernel_rfl) (by kernel_rfl) (by kernel_rfl) (by kernel_rfl) (by kernel_rfl) (by kernel_rfl) (by kernel_rfl)
abbrev CE (g:Nat) (h:FH):Prop:=jY Tryz.prog envD g h
abbrev PE (np n:Nat) (c:Code) (p:Pc):Prop:=PK Tryz.prog env np n c p
abbrev PD (np n:Nat) (c:Code) (p:Pc):Prop:=PK Tryz.prog envD np n c p
section
variable {H:Nat→Option FH} {np n g key:Nat} {T:List Pc} {c:Code} {sh:Sh} {outs:List (Ex×Sh)}
abbrev HOk (H:Nat→Option FH):Prop:=HO Tryz.prog envD H
theorem lE {f:VS.dens sh.vs→Option (VS.dens sh.vs ⊕ outDen outs)} (hH:HOk H) (hT:OT Tryz.prog env np n (ia c key) T) (h1:(jK c key,fA np (ia c key))=([.loop (ia c key)],true)) (hf:∀ x,evC env H T (ia c key) (cG n sh x) (finK sh outs)=f x):PE np n c ⟨key,sh,outs,aA f⟩:=kl eA (fun g h hh=>hH g h hh) hT h1 hf
theorem pE {f:VS.dens sh.vs→Option (outDen outs)} (hH:HOk H) (hT:OT Tryz.prog env np n (jG c key) T) (h1:(jK c key,fA np (jG c key))=([jG c key],true)) (hf:∀ x,evC env H T (jG c key) (cG n sh x) (iF outs)=f x):PE np n c ⟨key,sh,outs,f⟩:=kp eA (fun g h hh=>hH g h hh) hT h1 hf
theorem cE {fn:Func} {ps rs:List VS} {f:VS.dens ps→Option (VS.dens rs×VS.dens (bR ps))} (hH:HOk H) (hfn:Tryz.prog.funcs[g]?=some fn) (hT:OT Tryz.prog env (iC ps) n (bd fn) T) (h1:(fn.name== "runtime.NumGoroutine",fn.body,fn.ntmps,Nat.ble ps.length n,fA (iC ps) (bd fn))=(false,some (bd fn),n,true,true)) (hf:∀ x,evC env H T (bd fn) (cG n (kW ps) x) (finF env fn.results.toList ps rs)=f x):CE g ⟨ps,rs,f⟩:=show jY Tryz.prog env g _ from kc eA (fun g h hh=>hH g h hh) hfn hT h1 hf
theorem lD {f:VS.dens sh.vs→Option (VS.dens sh.vs ⊕ outDen outs)} (hH:HOk H) (hT:OT Tryz.prog envD np n (ia c key) T) (h1:(jK c key,fA np (ia c key))=([.loop (ia c key)],true)) (hf:∀ x,evC envD H T (ia c key) (cG n sh x) (finK sh outs)=f x):PD np n c ⟨key,sh,outs,aA f⟩:=kl envOkD (fun g h hh=>hH g h hh) hT h1 hf
theorem pD {f:VS.dens sh.vs→Option (outDen outs)} (hH:HOk H) (hT:OT Tryz.prog envD np n (jG c key) T) (h1:(jK c key,fA np (jG c key))=([jG c key],true)) (hf:∀ x,evC envD H T (jG c key) (cG n sh x) (iF outs)=f x):PD np n c ⟨key,sh,outs,f⟩:=kp envOkD (fun g h hh=>hH g h hh) hT h1 hf
theorem cD {fn:Func} {ps rs:List VS} {f:VS.dens ps→Option (VS.dens rs×VS.dens (bR ps))} (hH:HOk H) (hfn:Tryz.prog.funcs[g]?=some fn) (hT:OT Tryz.prog envD (iC ps) n (bd fn) T) (h1:(fn.name== "runtime.NumGoroutine",fn.body,fn.ntmps,Nat.ble ps.length n,fA (iC ps) (bd fn))=(false,some (bd fn),n,true,true)) (hf:∀ x,evC envD H T (bd fn) (cG n (kW ps) x) (finF envD fn.results.toList ps rs)=f x):CE g ⟨ps,rs,f⟩:=show jY Tryz.prog envD g _ from kc envOkD (fun g h hh=>hH g h hh) hfn hT h1 hf
end
theorem run168 (b:Nat) (w:World):(callFunc 168 #[.float .f64 b]).run Tryz.prog w= .ok (.value (.int .u64 (b:Int))) w:=by
 rw [run_callFunc_extern (fn:=Tryz.f168) (e:=Extern.MathFloatBits.float64bits) Tryz.func168 (by kernel_rfl) (by kernel_rfl) (by kernel_rfl) (by kernel_rfl)]
 rfl
theorem enter_of {P:Program} {g:Nat} {fn:Func} {c:Code} {args:Array Value} {w:World} (hfn:P.funcs[g]?=some fn) (hname:(fn.name== "runtime.NumGoroutine")=false) (hb:fn.body=some c):(callFunc g args).run P w= .ok (.enter g args) w:=by
 have h1:fn.name≠ "runtime.NumGoroutine":=by simpa using hname
 simp [callFunc,hfn,h1,hb]
theorem wrap_same (n:Int):IntKind.wrap .i64 n=wrap64 n:=by
 rw [IntKind.wrap_i64]
 unfold wrap64
 first | rfl | omega
attribute [local go_sem] run168
set_option maxHeartbeats 8000000 in
set_option maxRecDepth 100000 in
theorem walk129 (b:Nat) (w:World):Calls Tryz.prog 129 #[.float .f64 b] w fun e w'=>e= .returned (.bool (blt (wr (b:Int)) 0))∧w'=w:=by
 go_enter Tryz.func129,Tryz.ntmps129
 go_wp2
 go_ret
 refine ⟨?_,rfl⟩
 unfold blt wr
 rw [wrap_same]
 rfl
theorem gN:CE 129 ⟨ps129,rs129,f129⟩:=by
 intro w Fz args x r bs hf hx iB hb hlt hg
 obtain ⟨u,u2,b1,b2,rfl,rfl,⟨rfl,hu⟩,h2⟩:=hx
 obtain ⟨rfl,rfl⟩:=h2
 have hu':[u]=[Value.float .f64 x.1]:=by
  rcases hu with ⟨h,_⟩ | ⟨_,h⟩
  ·cases h
  ·exact h
 cases hu'
 have hr:r=((blt (wr (x.1:Int)) 0,()),()):=(Option.some.inj hf).symm
 subst hr
 refine ⟨?_,(walk129 x.1 w).mono fun e w' hh=>?_⟩
 ·exact enter_of (c:=Tryz.f129.body.getD .skip) Tryz.func129 (by kernel_rfl) (by kernel_rfl)
 ·obtain ⟨rfl,rfl⟩:=hh
  exact ⟨Fz,[.bool (blt (wr (x.1:Int)) 0)],[],[],rfl,Ch.refl _ _,fun _ h=>h,fun k hk=>⟨hlt k hk,.inl hk⟩,⟨_,[],[],[],rfl,rfl,⟨rfl,.inr ⟨rfl,rfl⟩⟩,rfl,rfl⟩,⟨rfl,rfl⟩,List.nodup_nil,fun k hk=>by cases hk⟩
end Go.Ev.L6
