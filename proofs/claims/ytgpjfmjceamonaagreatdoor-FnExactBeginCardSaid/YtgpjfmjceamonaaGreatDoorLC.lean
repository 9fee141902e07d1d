/-
 Contracts, said shortly.
-/
import Derived.Test.YtgpjfmjceamonaaGreatDoorEv20
import Derived.Test.YtgpjfmjceamonaaGreatDoorEv21
namespace Go.Ev
variable {P:Program} {e:Env} {H R:Nat→Option FH} {np n k g key:Nat} {T:List Pc} {p:Pc} {c:Code} {h:FH}
abbrev Lp (A B:Type):=A→Option (A ⊕ B)
abbrev ti:Ty:= .int .i64
abbrev HO (P:Program) (e:Env) (H:Nat→Option FH):Prop:=∀ g h,H g=some h→jY P e g h
def Hn:Nat→Option FH:=fun _=>none
def Hc (k:Nat) (h:FH) (R:Nat→Option FH):Nat→Option FH:=fun g=>bif Nat.beq g k then some h else R g
theorem hn:HO P e Hn:=hH_nil
theorem hc (c:jY P e k h) (r:HO P e R):HO P e (Hc k h R):=hH_cons c r
def PK (P:Program) (e:Env) (np n:Nat) (c:Code) (p:Pc):Prop:=∀ d,d∈jK c p.key→gS P e np n p d
def OT (P:Program) (e:Env) (np n:Nat) (c:Code) (T:List Pc):Prop:=∀ q,q∈T→PK P e np n c q
theorem o0:OT P e np n c []:=fun _ h=>by cases h
theorem o1 (h:PK P e np n c p) (r:OT P e np n c T):OT P e np n c (p ::T):=fun q hq=>by
 rcases List.mem_cons.1 hq with rfl | hq
 ·exact h
 ·exact r q hq
def bd (f:Func):Code:=f.body.getD .skip
noncomputable def ia (c:Code) (k:Nat):Code:=inner (jG c k)
theorem kl {sh:Sh} {outs:List (Ex×Sh)} {f:VS.dens sh.vs→Option (VS.dens sh.vs ⊕ outDen outs)} (hok:EnvOk P e) (hH:HO P e H) (hT:OT P e np n (ia c key) T) (h1:(jK c key,fA np (ia c key))=([.loop (ia c key)],true))
  (hf:∀ x,evC e H T (ia c key) (cG n sh x) (finK sh outs)=f x):PK P e np n c ⟨key,sh,outs,aA f⟩:=fun d hd=>by
 have h2:jK c key=[.loop (ia c key)]:=congrArg Prod.fst h1
 have hd':d∈jK c key:=hd
 rw [h2] at hd'
 obtain rfl:=List.mem_singleton.1 hd'
 exact iH hok hH (ok_of hT) (congrArg Prod.snd h1) hf
theorem kp {sh:Sh} {outs:List (Ex×Sh)} {f:VS.dens sh.vs→Option (outDen outs)} (hok:EnvOk P e) (hH:HO P e H) (hT:OT P e np n (jG c key) T) (h1:(jK c key,fA np (jG c key))=([jG c key],true))
  (hf:∀ x,evC e H T (jG c key) (cG n sh x) (iF outs)=f x):PK P e np n c ⟨key,sh,outs,f⟩:=fun d hd=>by
 have h2:jK c key=[jG c key]:=congrArg Prod.fst h1
 have hd':d∈jK c key:=hd
 rw [h2] at hd'
 obtain rfl:=List.mem_singleton.1 hd'
 exact gZ hok hH (ok_of hT) (congrArg Prod.snd h1) hf
theorem kc {fn:Func} {ps rs:List VS} {f:VS.dens ps→Option (VS.dens rs×VS.dens (bR ps))} (hok:EnvOk P e) (hH:HO P e H) (hfn:P.funcs[g]?=some fn) (hT:OT P e (iC ps) n (bd fn) T)
  (h1:(fn.name== "runtime.NumGoroutine",fn.body,fn.ntmps,Nat.ble ps.length n,fA (iC ps) (bd fn))=(false,some (bd fn),n,true,true))
  (hf:∀ x,evC e H T (bd fn) (cG n (kW ps) x) (finF e fn.results.toList ps rs)=f x):jY P e g ⟨ps,rs,f⟩:=
 con_of hok hH hfn (congrArg (fun x=>x.1) h1) (congrArg (fun x=>x.2.1) h1) (congrArg (fun x=>x.2.2.1) h1) (congrArg (fun x=>x.2.2.2.1) h1) (ok_of hT) (congrArg (fun x=>x.2.2.2.2) h1) hf
end Go.Ev
