/-
 The abstract evaluator: loops; whole functions.
-/
import Derived.Test.YtgpjfmjceamonaaGreatDoorEv17
namespace Go.Ev
variable {P:Program} {e:Env} {H:Nat→Option FH} {Γ:Actv} {C:Ctx} {s:St} {a:Act} {w:World}
def lp {α β:Type} (f:α→Option (α ⊕ β)):Nat→α→Option β
 | 0,_=>none
 | n+1,x=>match f x with
  | some (.inl x')=>lp f n x'
  | some (.inr y)=>some y
  | none=>none
theorem lp_mono {α β:Type} {f:α→Option (α ⊕ β)}:∀ {n:Nat} {x:α} {y:β},lp f n x=some y→∀ m,n≤m→lp f m x=some y
 | 0,_,_,h,_,_=>by cases h
 | n+1,x,y,h,m,hm=>by
  obtain ⟨m,rfl⟩:∃ k,m=k+1:=⟨m - 1,by omega⟩
  unfold lp at h ⊢
  split at h
  ·rename_i x' hx
   exact lp_mono h m (by omega)
  ·rename_i y' hy
   exact h
  ·cases h
open Classical in
noncomputable def aA {α β:Type} (f:α→Option (α ⊕ β)) (x:α):Option β:=
 if h:∃ y n,lp f n x=some y then some h.choose else none
theorem loopF_of {α β:Type} {f:α→Option (α ⊕ β)} {n:Nat} {x:α} {y:β} (h:lp f n x=some y):aA f x=some y:=by
 have hex:∃ y n,lp f n x=some y:=⟨y,n,h⟩
 unfold aA
 rw [dif_pos hex]
 obtain ⟨m,hm⟩:=hex.choose_spec
 have h1:=lp_mono h (max n m) (Nat.le_max_left _ _)
 have h2:=lp_mono hm (max n m) (Nat.le_max_right _ _)
 rw [h1] at h2
 exact h2.symm
theorem loopF_some {α β:Type} {f:α→Option (α ⊕ β)} {x:α} {y:β} (h:aA f x=some y):∃ n,lp f n x=some y:=by
 unfold aA at h
 split at h
 ·rename_i hex
  cases h
  exact hex.choose_spec
 ·cases h
theorem aM {α β:Type} (f:α→Option (α ⊕ β)) (x:α):aA f x=match f x with
  | some (.inl x')=>aA f x'
  | some (.inr y)=>some y
  | none=>none:=by
 apply Option.ext
 intro y
 constructor
 ·intro h
  obtain ⟨n,hn⟩:=loopF_some h
  cases n with
  | zero=>cases hn
  | succ n=>
   unfold lp at hn
   split at hn
   ·exact loopF_of hn
   ·exact hn
   ·cases hn
 ·intro h
  split at h
  ·rename_i x' hx
   obtain ⟨n,hn⟩:=loopF_some h
   exact loopF_of (n:=n+1) (by unfold lp;rw [hx];exact hn)
  ·rename_i y' hy
   cases h
   exact loopF_of (n:=1) (by unfold lp;rw [hy])
  ·cases h
def exEq:Ex→Ex→Bool
 | .normal, .normal=>true
 | .exit a, .exit b=>Nat.beq a b
 | .ret, .ret=>true
 | _,_=>false
theorem exEq_of {a b:Ex} (h:exEq a b=true):a=b:=by
 cases a<;>cases b<;>first | rfl | (cases h;done) | skip
 rw [Nat.eq_of_beq_eq_true h]
def iF:(outs:List (Ex×Sh))→Ex→St→Option (outDen outs)
 | [],_,_=>none
 | [o],x,s=>bif exEq o.1 x then exSt o.2 s else none
 | o ::o' ::r,x,s=>bif exEq o.1 x then (match exSt o.2 s with
   | some y=>some (.inl y)
   | none=>none)
  else match iF (o' ::r) x s with
   | some y=>some (.inr y)
   | none=>none
def finK (sh:Sh) (outs:List (Ex×Sh)):Ex→St→Option (VS.dens sh.vs ⊕ outDen outs)
 | .normal,s=>match exSt sh s with
  | some y=>some (.inl y)
  | none=>none
 | .exit id,s=>match iF outs (.exit id) s with
  | some y=>some (.inr y)
  | none=>none
 | .ret,s=>match iF outs .ret s with
  | some y=>some (.inr y)
  | none=>none
theorem finOut_Q {n:Nat} {Q:Exit→Act→World→Prop} (h:RelC e Γ C s a w) (hn:s.slots.length=n):∀ {outs:List (Ex×Sh)} {x:Ex} {y:outDen outs},iF outs x s=some y→OutQ e Γ n Q outs y→Q (exOf x) a w
 | [],_,_,hf,_=>by cases hf
 | [o],x,y,hf,hQ=>by
  unfold iF at hf
  cases hx:exEq o.1 x with
  | false=>rw [hx] at hf;cases hf
  | true=>
   rw [hx] at hf
   rw [← exEq_of hx]
   obtain ⟨C',h1,h2⟩:=lO h hn hf
   exact hQ C' a w h1 h2
 | o ::o' ::r,x,y,hf,hQ=>by
  unfold iF at hf
  cases hx:exEq o.1 x with
  | true=>
   rw [hx] at hf
   simp only [cond_true] at hf
   rw [← exEq_of hx]
   split at hf
   ·rename_i z hz
    cases hf
    obtain ⟨C',h1,h2⟩:=lO h hn hz
    exact hQ C' a w h1 h2
   ·cases hf
  | false=>
   rw [hx] at hf
   simp only [cond_false] at hf
   split at hf
   ·rename_i z hz
    cases hf
    exact finOut_Q h hn hz hQ
   ·cases hf
theorem iH {T:List Pc} {n np key:Nat} {sh:Sh} {outs:List (Ex×Sh)} {b:Code} {f:VS.dens sh.vs→Option (VS.dens sh.vs ⊕ outDen outs)} (hok:EnvOk P e) (hH:∀ g h,H g=some h→jY P e g h) (hT:Ok P e np n T b) (hwr:fA np b=true)
  (hf:∀ x,evC e H T b (cG n sh x) (finK sh outs)=f x):gS P e np n ⟨key,sh,outs,aA f⟩ (.loop b):=by
 intro Γ C s a w Q x y hnp h hn hx hy hQ
 subst hnp
 obtain ⟨k,hk⟩:=loopF_some hy
 refine wp_loop_rounds k ?_
 obtain ⟨C',h1,h2⟩:=lO h hn hx
 clear hy hx h hn
 have key:∀ (k:Nat) (x:VS.dens sh.vs) (C:Ctx) (a:Act) (w:World),lp f k x=some y→RelC e Γ C (cG n sh x) a w→(cG n sh x).slots.length=n→Code.rounds P b Q k a w:=by
  intro k
  induction k with
  | zero=>intro x C a w hl;cases hl
  | succ k ih=>
   intro x C a w hl h hn
   rw [rounds_succ]
   unfold lp at hl
   rw [← hf] at hl
   split at hl
   ·rename_i x' hx'
    refine dU hok hH b _ _ C a w _ hT hwr hx' h hn fun ex s' C' a' w' g1 g2 g3=>?_
    cases ex with
    | normal=>
     simp only [finK] at g3
     split at g3
     ·rename_i z hz
      cases g3
      obtain ⟨C2,q1,q2⟩:=lO g2 g1 hz
      exact ih _ C2 a' w' hl q1 q2
     ·cases g3
    | exit id=>
     simp only [finK] at g3
     split at g3<;>cases g3
    | ret=>
     simp only [finK] at g3
     split at g3<;>cases g3
   ·rename_i y' hy'
    cases hl
    refine dU hok hH b _ _ C a w _ hT hwr hy' h hn fun ex s' C' a' w' g1 g2 g3=>?_
    cases ex with
    | normal=>
     simp only [finK] at g3
     split at g3<;>cases g3
    | exit id=>
     simp only [finK] at g3
     split at g3
     ·rename_i z hz
      cases g3
      exact finOut_Q (Q:=Q) g2 g1 hz hQ
     ·cases g3
    | ret=>
     simp only [finK] at g3
     split at g3
     ·rename_i z hz
      cases g3
      exact finOut_Q (Q:=Q) g2 g1 hz hQ
     ·cases g3
   ·cases hl
 exact key k x C' a w hk h1 h2
theorem gZ {T:List Pc} {n np key:Nat} {sh:Sh} {outs:List (Ex×Sh)} {c:Code} {f:VS.dens sh.vs→Option (outDen outs)} (hok:EnvOk P e) (hH:∀ g h,H g=some h→jY P e g h) (hT:Ok P e np n T c) (hwr:fA np c=true)
  (hf:∀ x,evC e H T c (cG n sh x) (iF outs)=f x):gS P e np n ⟨key,sh,outs,f⟩ c:=by
 intro Γ C s a w Q x y hnp h hn hx hy hQ
 subst hnp
 obtain ⟨C',h1,h2⟩:=lO h hn hx
 have hy':f x=some y:=hy
 rw [← hf] at hy'
 exact dU hok hH c _ _ C' a w Q hT hwr hy' h1 h2 fun ex s' C2 a' w' g1 g2 g3=>finOut_Q g2 g1 g3 hQ
def resOne (e:Env) (s:St):ResultVar→Option Vl
 | .tmp t=>match s.get t with
  | .v x=>some x
  | .tup _=>none
 | .cell a t=>match s.get a,e.ty t with
  | .v (.one c),some ty=>match jZ s.mem ty.sz c with
   | some cs=>asVl ty.isSt cs
   | none=>none
  | _,_=>none
def resAll (e:Env) (s:St):List ResultVar→Option (List Vl)
 | []=>some []
 | r ::rs=>match resOne e s r with
  | some x=>match resAll e s rs with
   | some l=>some (x ::l)
   | none=>none
  | none=>none
def jX:List VS→List Vl→List Vl
 | [],_=>[]
 | _ ::_,[]=>[]
 | .val _ ::r,_ ::l=>jX r l
 | .eat _ _ ::r,_ ::l=>jX r l
 | .rc _ ::r,_ ::l=>jX r l
 | _ ::r,u ::l=>u ::jX r l
def iC:List VS→Nat
 | []=>0
 | p ::r=>match bR (p ::r) with
  | []=>0
  | _ ::_=>iC r+1
def endK (e:Env) (rv:List ResultVar) (ps rs:List VS) (s:St):Option (VS.dens rs×VS.dens (bR ps)):=
 match resAll e s rv with
 | some l=>match exVs s.mem rs l with
  | some (r,fs,os)=>match getAll s (List.range (iC ps)) with
   | some as=>match exVs s.mem (bR ps) (jX ps as) with
    | some (b,fs',os')=>bif sep (fs ++fs') (os' ++os) then some (r,b) else none
    | none=>none
   | none=>none
  | none=>none
 | none=>none
def finF (e:Env) (rv:List ResultVar) (ps rs:List VS):Ex→St→Option (VS.dens rs×VS.dens (bR ps))
 | .normal,s=>endK e rv ps rs s
 | .ret,s=>endK e rv ps rs s
 | .exit _,_=>none
def kW (ps:List VS):Sh:=⟨List.range ps.length,ps,[]⟩
end Go.Ev
namespace Go.Ev
variable {P:Program} {e:Env} {H:Nat→Option FH} {Γ:Actv} {C:Ctx} {s:St} {a:Act} {w:World}
def oneRes (tmps:Array Value):ResultVar→Sem Value
 | .tmp t=>pure (tmps.getD t undef)
 | .cell a t=>do loadVar t (← asAddr (tmps.getD a undef))
theorem results_eq (fn:Func) (tmps:Array Value):results fn tmps=(do let vs ← fn.results.mapM (oneRes tmps);pure (if h:vs.size=1 then vs[0] else .tuple vs)):=by
 unfold results
 congr 2
theorem resOne_rel (hok:EnvOk P e) (h:RelC e Γ C s a w) {rv:ResultVar} {x:Vl} (hx:resOne e s rv=some x):∃ v,(oneRes a.tmps rv).run P w= .ok v w∧VRel C w x v:=by
 cases rv with
 | tmp t=>
  simp only [resOne] at hx
  split at hx
  ·rename_i y hy
   cases hx
   have:=fW h t
   rw [hy] at this
   exact ⟨_,rfl,this⟩
  ·cases hx
 | cell b t=>
  simp only [resOne] at hx
  split at hx
  ·rename_i c ty hc ht
   split at hx
   ·rename_i cs hr
    have hcr:=fW h b
    rw [hc] at hcr
    obtain ⟨ad,vs,e1,hl,hcs,hat⟩:=readAt_rel h.mem hr hcr
    have hlen:ty.isSt=false→vs.length=1:=fun hs=>by
     rw [hs] at hx
     rw [← hcs.length]
     exact asVl_one hx
    refine ⟨_,?_,asVl_rel hx hcs⟩
    simp only [oneRes,Sem.run_bind]
    rw [e1]
    exact run_loadVar (P:=P) hok ht hl hat hlen
   ·cases hx
  ·cases hx
theorem resAll_rel (hok:EnvOk P e) (h:RelC e Γ C s a w):∀ {rv:List ResultVar} {l:List Vl},resAll e s rv=some l→∃ us,(rv.mapM (oneRes a.tmps)).run P w= .ok us w∧All2 (VRel C w) l us
 | [],l,hl=>by
  cases hl
  exact ⟨[],by simp,trivial⟩
 | r ::rs,l,hl=>by
  unfold resAll at hl
  split at hl
  ·rename_i x hx
   split at hl
   ·rename_i l' hl'
    cases hl
    obtain ⟨v,h1,h2⟩:=resOne_rel hok h hx
    obtain ⟨us,h3,h4⟩:=resAll_rel hok h hl'
    exact ⟨v ::us,by simp [List.mapM_cons,h1,h3],h2,h4⟩
   ·cases hl
  ·cases hl
theorem run_results (hok:EnvOk P e) (h:RelC e Γ C s a w) {fn:Func} {l:List Vl} (hl:resAll e s fn.results.toList=some l):∃ us,(results fn a.tmps).run P w= .ok (resV us) w∧All2 (VRel C w) l us:=by
 obtain ⟨us,h1,h2⟩:=resAll_rel hok h hl
 refine ⟨us,?_,h2⟩
 rw [results_eq,Array.mapM_eq_mapM_toList]
 simp [h1]
 match us with
 | []=>simp [resV]
 | [v]=>simp [resV]
 | _ ::_ ::_=>simp [resV]
theorem VSsR.length {Fz:Nat→Prop}:∀ {vs:List VS} {x:VS.dens vs} {us:List Value} {bs:List Nat},VSsR Fz w vs x us bs→us.length=vs.length
 | [],_,_,_,h=>by rw [h.1];rfl
 | v ::r,x,us,bs,h=>by
  obtain ⟨u,u2,b1,b2,rfl,_,_,hr⟩:=h
  rw [List.length_cons,VSsR.length hr,List.length_cons]
theorem lW:∀ {ps:List VS} {us:List Value},bR ps=[]→cF ps us=[]
 | [],_,_=>rfl
 | .val _ ::r,[],_=>rfl
 | .val _ ::r,_ ::us,h=>lW (ps:=r) h
 | .eat _ _ ::r,[],_=>rfl
 | .eat _ _ ::r,_ ::us,h=>lW (ps:=r) h
 | .rc _ ::r,[],_=>rfl
 | .rc _ ::r,_ ::us,h=>lW (ps:=r) h
 | .own _ _ ::_,_,h=>by cases h
 | .box _ _ _ ::_,_,h=>by cases h
 | .mp ::_,_,h=>by cases h
 | .deep _ _ _ ::_,_,h=>by cases h
 | .lent _ ::_,_,h=>by cases h
theorem range_args {args:List Value} (h:∀ k,k < args.length→a.tmps[k]?=args[k]?):(List.range args.length).map (fun k=>a.tmps.getD k undef)=args:=by
 apply List.ext_getElem
 ·simp
 ·intro i h1 h2
  have h3:=h i h2
  rw [List.getElem?_eq_getElem h2] at h3
  have hlt:=(Array.getElem?_eq_some_iff.1 h3).1
  have he:=(Array.getElem?_eq_some_iff.1 h3).2
  simp [Array.getD,hlt,he]
theorem npOf_le:∀ (ps:List VS),iC ps≤ps.length
 | []=>Nat.le_refl _
 | p ::r=>by
  unfold iC
  split
  ·exact Nat.zero_le _
  ·exact Nat.succ_le_succ (npOf_le r)
theorem backs_relN:∀ {ps:List VS} {as:List Vl} {us:List Value},us.length=ps.length→All2 (VRel C w) as (us.take (iC ps))→All2 (VRel C w) (jX ps as) (cF ps us)
 | [],_,_,_,_=>by simp [jX,cF,All2]
 | p ::r,as,us,hlen,h=>by
  cases hb:bR (p ::r) with
  | nil=>
   have h0:iC (p ::r)=0:=by unfold iC;rw [hb]
   rw [h0,List.take_zero] at h
   cases as with
   | cons _ _=>exact h.elim
   | nil=>
    rw [lW hb]
    cases p<;>trivial
  | cons q qs=>
   have h0:iC (p ::r)=iC r+1:=by
    conv=>lhs;unfold iC
    rw [hb]
   cases us with
   | nil=>cases hlen
   | cons u us=>
    rw [h0,List.take_succ_cons] at h
    cases as with
    | nil=>exact h.elim
    | cons x as=>
     have hl:us.length=r.length:=Nat.succ.inj hlen
     have ih:=backs_relN (ps:=r) hl h.2
     cases p with
     | val t=>exact ih
     | eat E t=>exact ih
     | rc cs=>exact ih
     | own E t=>exact ⟨h.1,ih⟩
     | box T cs off=>exact ⟨h.1,ih⟩
     | mp=>exact ⟨h.1,ih⟩
     | deep E d fx=>exact ⟨h.1,ih⟩
     | lent cs=>exact ⟨h.1,ih⟩
theorem range_argsN {args:List Value} {n:Nat} (hn:n≤args.length) (h:∀ k,k < n→a.tmps[k]?=args[k]?):(List.range n).map (fun k=>a.tmps.getD k undef)=args.take n:=by
 apply List.ext_getElem
 ·simp;omega
 ·intro i h1 h2
  have hin:i < n:=by simpa using h1
  have h3:=h i hin
  rw [List.getElem?_eq_getElem (by omega)] at h3
  have hlt:=(Array.getElem?_eq_some_iff.1 h3).1
  have he:=(Array.getElem?_eq_some_iff.1 h3).2
  simp [Array.getD,hlt,he]
theorem end_rel (hok:EnvOk P e) (h:RelC e Γ C s a w) {fn:Func} {ps rs:List VS} {r:VS.dens rs×VS.dens (bR ps)} (he:endK e fn.results.toList ps rs s=some r) (hnp:Γ.np=iC ps) (hargs:Γ.args.length=ps.length) :
  ∃ (Fz2:Nat→Prop) (us:List Value) (b2 b3:List Nat),(results fn a.tmps).run P w= .ok (resV us) w∧RelW e Γ ⟨C.σ,Fz2,C.Dm,C.ex,C.hd⟩ w∧VSsR Fz2 w rs r.1 us b2∧VSsR Fz2 w (bR ps) r.2 (cF ps Γ.args) b3∧(b3 ++b2).Nodup∧∀ k,k∈b3 ++b2→¬ Fz2 k∧Γ.D k:=by
 unfold endK at he
 split at he
 rotate_left
 ·cases he
 rename_i l hl
 split at he
 rotate_left
 ·cases he
 rename_i r1 fs os hex
 split at he
 rotate_left
 ·cases he
 rename_i as has
 split at he
 rotate_left
 ·cases he
 rename_i b fs' os' hbx
 cases hs:sep (fs ++fs') (os' ++os) with
 | false=>rw [hs] at he;cases he
 | true=>
 rw [hs] at he
 cases he
 obtain ⟨iB,hdis⟩:=sep_of hs
 obtain ⟨us,hrun,hus⟩:=run_results hok h hl
 have hback:All2 (VRel C w) (jX ps as) (cF ps Γ.args):=by
  have hal:=lI h has
  rw [range_argsN (by rw [hargs];exact npOf_le ps) (fun k hk=>h.par k (by rw [hnp];exact hk))] at hal
  exact backs_relN hargs hal
 obtain ⟨p1,p2,p3⟩:=kO h.mem hex hus
 obtain ⟨q1,q2,q3⟩:=kO h.mem hbx hback
 have hlv:Lives s.mem (os' ++os):=q2.append p2
 have hrows:Rows C s.mem (fs ++fs'):=p1.append q1
 have hap:=blks_apart h.mem hlv hrows hdis
 have hbl:bP C (os' ++os)=bP C os' ++bP C os:=cY os' os
 refine ⟨(C.frz (fs ++fs')).Fz,us,bP C os,bP C os',hrun,(h.frz hrows).W.fzEq rfl,p3 _ fun k hk=>frz_left k hk,q3 _ fun k hk=>kN k hk,?_,?_⟩
 ·rw [← hbl]
  exact eJ h.mem iB hlv
 ·rw [← hbl]
  exact hap
theorem con_of {T:List Pc} {g n:Nat} {fn:Func} {c:Code} {ps rs:List VS} {f:VS.dens ps→Option (VS.dens rs×VS.dens (bR ps))} (hok:EnvOk P e) (hH:∀ g h,H g=some h→jY P e g h) (hfn:P.funcs[g]?=some fn) (hname:(fn.name== "runtime.NumGoroutine")=false) (hb:fn.body=some c)
  (hnt:fn.ntmps=n) (hle:Nat.ble ps.length n=true) (hT:Ok P e (iC ps) n T c) (hwr:fA (iC ps) c=true) (hf:∀ x,evC e H T c (cG n (kW ps) x) (finF e fn.results.toList ps rs)=f x):jY P e g ⟨ps,rs,f⟩:=by
 intro w Fz args x r bs hfx hx iB hbF hlt hglob
 refine ⟨?_,calls_of_wp hfn hb ?_⟩
 ·have h1:fn.name≠ "runtime.NumGoroutine":=by simpa using hname
  simp [callFunc,hfn,h1,hb]
 have hle:=Nat.le_of_ble_eq_true hle
 have halen:args.length=ps.length:=hx.length
 let Γ:Actv:=⟨w,fun k=>k∈bs∨w.heap.size≤k,Fz,iC ps,args⟩
 let a0:Act:={ tmps:=args.toArray ++Array.replicate (fn.ntmps - args.toArray.size) undef,defers:=[] }
 have hsz:a0.tmps.size=n:=by
  show (args.toArray ++Array.replicate (fn.ntmps - args.toArray.size) undef).size=n
  rw [Array.size_append,Array.size_replicate,List.size_toArray]
  omega
 have hget:∀ k,k < args.length→a0.tmps[k]?=args[k]?:=fun k hk=>by
  show (args.toArray ++Array.replicate (fn.ntmps - args.toArray.size) undef)[k]?=_
  rw [Array.getElem?_append_left (by simpa using hk)]
  simp
 have hnp:iC ps≤args.length:=by rw [halen];exact npOf_le ps
 obtain ⟨C0,hR0,hn0⟩:=mkSt_rel (e:=e) (Γ:=Γ) (sh:=kW ps) (a:=a0) (us:=args) Fz rfl hsz.symm (fun k hk=>hget k (Nat.lt_of_lt_of_le hk hnp)) (by
   show args=(List.range ps.length).map _
   rw [← halen,range_args hget]) hx (fun p hp=>by cases hp) iB (fun g hg=>⟨hbF g hg, .inl hg⟩)
  (fun C hC=>⟨Ch.refl w _,fun k hk=> .inr hk,fun k hk=> .inl (show Fz k from hC ▸ hk),fun k hk=>hC.symm ▸ hk,fun k hk=>hlt k (by rw [← hC];exact hk),by rw [hC];exact hglob⟩)
 have hfx':=hfx
 rw [show FH.f ⟨ps,rs,f⟩ x=f x from rfl,← hf x] at hfx'
 refine dU (Γ:=Γ) hok hH c _ _ C0 a0 w _ hT hwr hfx' hR0 hn0 fun ex s' C' a' w' g1 g2 g3=>?_
 have hend:endK e fn.results.toList ps rs s'=some r→a'.defers=[]∧∃ v,(results fn a'.tmps).run P w'= .ok v w'∧∃ (Fz2:Nat→Prop) (us:List Value) (b2 b3:List Nat),Ending.returned v= .returned (resV us)∧Ch w w' (fun k=>k∈bs)∧(∀ k,Fz k→Fz2 k)∧(∀ k,Fz2 k→k < w'.heap.size∧(Fz k∨k∈bs∨w.heap.size≤k))∧
   VSsR Fz2 w' rs r.1 us b2∧VSsR Fz2 w' (bR ps) r.2 (cF ps args) b3∧(b3 ++b2).Nodup∧∀ k,k∈b3 ++b2→¬ Fz2 k∧(k∈bs∨w.heap.size≤k):=fun he=>by
  obtain ⟨Fz2,us,b2,b3,h1,h2,h3,h4,h5,h6⟩:=end_rel hok g2 he rfl halen
  exact ⟨g2.defers,resV us,h1,Fz2,us,b2,b3,rfl,h2.ch.mono fun k hk hd=>hd.resolve_right (Nat.not_le.2 hk),h2.fz0,fun k hk=>⟨h2.lt k hk,h2.fz k hk⟩,h3,h4,h5,h6⟩
 cases ex with
 | normal=>exact hend g3
 | ret=>exact hend g3
 | exit id=>cases g3
end Go.Ev
