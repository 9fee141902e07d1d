/-
 The abstract evaluator: calls by contract.
-/
import Derived.Test.YtgpjfmjceamonaaGreatDoorEv12
import Derived.WideMake
namespace Go.Ev
variable {P:Program} {e:Env} {Γ:Actv} {C:Ctx} {s:St} {a:Act} {w:World}
theorem KF.flat {Fz Fz':Nat→Prop}:∀ {t:Ty} {x:t.den} {cs:List Value},gI t=true→KF Fz w t x cs→KF Fz' w t x cs
 | .int _,_,_,_,h=>h
 | .bool,_,_,_,h=>h
 | .str,_,_,_,h=>h
 | .flt,_,_,_,h=>h
 | .np,_,_,_,h=>h
 | .nf,_,_,_,h=>h
 | .st t,x,cs,hf,h=>KF.flat (t:=t) (x:=x) (cs:=cs) hf h
 | .pair a b,x,cs,hf,h=>by
  have hf':(gI a && gI b)=true:=hf
  rw [Bool.and_eq_true] at hf'
  obtain ⟨c1,c2,e1,h1,h2⟩:=h
  exact ⟨c1,c2,e1,KF.flat hf'.1 h1,KF.flat hf'.2 h2⟩
 | .row _,_,_,hf,_=>by cases hf
theorem OwnR.flat {Fz Fz':Nat→Prop} {E:Nat} {t:Ty} {xs:List t.den} {u:Value} (hf:gI t=true) (h:OwnR Fz w E t xs u):OwnR Fz' w E t xs u:=by
 obtain ⟨cells,h1,h2⟩:=h
 refine ⟨cells,h1,fun i x hi=>?_⟩
 obtain ⟨es,hk,hc⟩:=h2 i x hi
 exact ⟨es,hk.flat hf,hc⟩
theorem DVH.flat {Fz Fz':Nat→Prop}:∀ {d:DT} {ho:List (Nat×Value)} {x:d.ty.den} {cs:List Value} {bs:List Nat},kC d=true→DVH Fz w ho d x cs bs→DVH Fz' w ho d x cs bs
 | .fl _,_,_,_,_,hf,h=>⟨h.1.flat hf,h.2⟩
 | .st d,ho,x,cs,bs,hf,h=>DVH.flat (d:=d) (ho:=ho) (x:=x) (cs:=cs) hf h
 | .pair a b,_,_,_,_,hf,h=>by
  have hf':(kC a && kC b)=true:=hf
  rw [Bool.and_eq_true] at hf'
  obtain ⟨c1,c2,b1,b2,e1,e2,h1,h2⟩:=h
  exact ⟨c1,c2,b1,b2,e1,e2,DVH.flat hf'.1 h1,DVH.flat hf'.2 h2⟩
 | .row _ d,_,_,_,_,hf,h=>h.imp id fun ⟨e0,u,cells,b2,e1,e2,ho,he⟩=>⟨e0,u,cells,b2,e1,e2,ho,he.imp fun _ _ _ _ _ _ hr=>DVH.flat (d:=d) hf hr⟩
theorem DeepR.flat {Fz Fz':Nat→Prop} {E:Nat} {d:DT} {xs:List d.ty.den} {u:Value} {bs:List Nat} (hf:kC d=true) (h:DeepR Fz w E d xs u bs):DeepR Fz' w E d xs u bs:=by
 obtain ⟨b,⟨cells,b2,e1,h1,h2⟩,hp⟩:=h
 exact ⟨b,⟨cells,b2,e1,h1,h2.imp fun _ _ _ _ _ _ hr=>DVH.flat hf hr⟩,hp⟩
theorem CSsR.flat {Fz Fz':Nat→Prop}:∀ {cs:List CS} {x:CS.dens cs} {us:List Value} {bs:List Nat},cs.all flatCS=true→CSsR Fz w cs x us bs→CSsR Fz' w cs x us bs
 | [],_,_,_,_,h=>h
 | .sc t ::r,x,us,bs,hf,h=>by
  rw [List.all_cons,Bool.and_eq_true] at hf
  obtain ⟨u1,u2,e1,hk,hr⟩:=h
  exact ⟨u1,u2,e1,hk.flat hf.1,CSsR.flat hf.2 hr⟩
 | .own E t ::r,x,us,bs,hf,h=>by
  rw [List.all_cons,Bool.and_eq_true] at hf
  obtain ⟨u,u2,b2,e1,e2,ho,hr⟩:=h
  exact ⟨u,u2,b2,e1,e2,ho.flat hf.1,CSsR.flat hf.2 hr⟩
 | .deep E d ::r,x,us,bs,hf,h=>by
  rw [List.all_cons,Bool.and_eq_true] at hf
  obtain ⟨u,u2,b1,b2,e1,e2,ho,hr⟩:=h
  exact ⟨u,u2,b1,b2,e1,e2,ho.flat hf.1,CSsR.flat hf.2 hr⟩
theorem VSR.flat {Fz Fz':Nat→Prop}:∀ {v:VS} {x:v.den} {u:Value} {bs:List Nat},eG v=true→VSR Fz w v x u bs→VSR Fz' w v x u bs
 | .val _,_,_,_,hf,⟨h1,h2⟩=>⟨h1,h2.imp (fun ⟨h3,arr,h4,h5⟩=>⟨h3,arr,h4,h5.flat hf⟩) fun ⟨h3,h4⟩=>⟨h3,h4.flat hf⟩⟩
 | .own _ _,_,_,_,hf,⟨h1,h2⟩=>⟨h1,h2.flat hf⟩
 | .eat _ _,_,_,_,hf,⟨h1,h2⟩=>⟨h1,h2.flat hf⟩
 | .box _ _ _,_,_,_,hf,⟨g,arr,b2,h1,h2,h3,h4⟩=>⟨g,arr,b2,h1,h2,h3,h4.flat hf⟩
 | .mp,_,_,_,_,h=>h
 | .rc _,_,_,_,hf,⟨arr,h1,h2⟩=>⟨arr,h1,h2.flat hf⟩
 | .deep _ _ _,_,_,_,hf,h=>DeepR.flat hf h
 | .lent _,_,_,_,hf,⟨arr,h1,h2⟩=>⟨arr,h1,h2.flat hf⟩
theorem VSsR.flat {Fz Fz':Nat→Prop}:∀ {vs:List VS} {x:VS.dens vs} {us:List Value} {bs:List Nat},vs.all eG=true→VSsR Fz w vs x us bs→VSsR Fz' w vs x us bs
 | [],_,_,_,_,h=>h
 | v ::r,x,us,bs,hf,h=>by
  rw [List.all_cons,Bool.and_eq_true] at hf
  obtain ⟨u,u2,b1,b2,e1,e2,hv,hr⟩:=h
  exact ⟨u,u2,b1,b2,e1,e2,hv.flat hf.1,VSsR.flat hf.2 hr⟩
def resV:List Value→Value
 | [v]=>v
 | l=> .tuple l.toArray
def jY (P:Program) (e:Env) (g:Nat) (h:FH):Prop:=
 ∀ (w:World) (Fz:Nat→Prop) (args:List Value) (x:VS.dens h.ps) (r:VS.dens h.rs×VS.dens (bR h.ps)) (bs:List Nat),
  h.f x=some r→VSsR Fz w h.ps x args bs→bs.Nodup→(∀ k,k∈bs→¬ Fz k)→(∀ k,Fz k→k < w.heap.size)→GlobOk e Fz w→
  (callFunc g args.toArray).run P w= .ok (.enter g args.toArray) w∧
  Calls P g args.toArray w fun en w'=>∃ (Fz2:Nat→Prop) (us:List Value) (b2 b3:List Nat),en= .returned (resV us)∧Ch w w' (fun k=>k∈bs)∧(∀ k,Fz k→Fz2 k)∧(∀ k,Fz2 k→k < w'.heap.size∧(Fz k∨k∈bs∨w.heap.size≤k))∧
   VSsR Fz2 w' h.rs r.1 us b2∧VSsR Fz2 w' (bR h.ps) r.2 (cF h.ps args) b3∧(b3 ++b2).Nodup∧∀ k,k∈b3 ++b2→¬ Fz2 k∧(k∈bs∨w.heap.size≤k)
theorem resAV_rel:∀ {l:List Vl} {us:List Value},All2 (VRel C w) l us→ARel C w (resAV l) (resV us)
 | [],[],_=>⟨#[],rfl,trivial⟩
 | [_],[_],h=>h.1
 | _ ::_ ::_,_ ::_ ::_,h=>⟨_,rfl,h⟩
 | [],_ ::_,h=>h.elim
 | _ ::_,[],h=>h.elim
 | [_],_ ::_ ::_,h=>h.2.elim
 | _ ::_ ::_,[_],h=>h.2.elim
theorem avs_rel (h:RelC e Γ C s a w):∀ {xs:List Operand} {l:List Vl},avs s xs=some l→All2 (VRel C w) l (xs.map a.eval)
 | [],l,hl=>by cases hl;trivial
 | x ::xs,l,hl=>by
  unfold avs at hl
  split at hl
  ·rename_i v hv
   split at hl
   ·rename_i l' hl'
    cases hl
    exact ⟨opd_v h hv,avs_rel h hl'⟩
   ·cases hl
  ·cases hl
theorem jS:∀ {os:List Nat} {m:aX} {i:Nat},aF m i=none→aF (bU m os) i=none
 | [],_,_,h=>h
 | o ::r,m,i,h=>by
  rw [bU]
  split
  ·rename_i hg
   refine jS ?_
   rw [aG,if_neg (fun hh=>by rw [← hh,h] at hg;cases hg)]
   exact h
  ·rename_i hg
   refine jS ?_
   rw [aG,if_neg (fun hh=>by rw [← hh,h] at hg;cases hg)]
   exact h
  ·exact jS h
theorem fH:∀ {os:List Nat} {m:aX} {i:Nat},i∉os→aF (bU m os) i=aF m i
 | [],_,_,_=>rfl
 | o ::r,m,i,h=>by
  have h1:i≠o:=fun hh=>h (by rw [hh];exact List.mem_cons_self)
  have h2:i∉r:=fun hh=>h (List.mem_cons_of_mem _ hh)
  rw [bU]
  split
  ·rw [fH h2,aG,if_neg h1]
  ·rw [fH h2,aG,if_neg h1]
  ·exact fH h2
theorem call_post {lim:Nat} {h:FH} {l:List Vl} {us0 us:List Value} {m0 m':aX} {os b2 b3 bs:List Nat} {n' id:Nat} {r:VS.dens h.rs×VS.dens (bR h.ps)} {C1:Ctx} {F:Nat→Prop} {w':World}
  (hR:RelC e Γ C s a w) (hm:RelM Γ.D C1 w m0) (hle:CLe C C1) (hσ:C1.σ=C.σ) (hdm:C1.Dm=C.Dm) (hexx:C1.ex=C.ex) (hhdd:C1.hd=C.hd) (hF1:∀ k,C1.Fz k→C.Fz k∨(Γ.D k∧k < w.heap.size)) (hfree:∀ i,aF s.mem i=none→aF m0 i=none)
  (hlv:Lives m0 os) (hbs:bs=bP C os) (hbF:∀ k,k∈bs→¬ C1.Fz k) (hl:All2 (VRel C w) l us0)
  (hch:Ch w w' fun k=>k∈bs) (hF2:∀ k,C1.Fz k→F k) (hF3:∀ k,F k→k < w'.heap.size∧(C1.Fz k∨k∈bs∨w.heap.size≤k))
  (hrs:VSsR F w' h.rs r.1 us b2) (hbk:VSsR F w' (bR h.ps) r.2 (cF h.ps us0) b3) (iB:(b3 ++b2).Nodup) (hb:∀ k,k∈b3 ++b2→¬ F k∧(k∈bs∨w.heap.size≤k))
  (hp:bE (dG m0 os) id h.ps l r.2=some (m',n')) (hid:fresh s.mem id lim=true) (hn:(eB h.rs r.1 m' n').2.2≤id+lim) :
  ∃ C',Post e Γ C w (resAV (eB h.rs r.1 m' n').1,(eB h.rs r.1 m' n').2.1) (resV us) w' C':=by
 subst hbs
 have hfp1:∀ j,C1.fp j=C.fp j:=fun j=>by
  unfold Ctx.fp
  rw [hσ,hexx]
 have hbk1:bP C1 os=bP C os:=by
  unfold bP
  rw [show C1.fp=C.fp from funext hfp1]
 obtain ⟨k1,k2,k3⟩:=kill_rel hm hlv
 rw [hbk1] at k2
 have hD:∀ k,k∈bP C os∨w.heap.size≤k→Γ.D k:=fun k hk=>by
  rcases hk with hk | hk
  ·obtain ⟨o,ho,hg⟩:=iR.1 hk
   obtain ⟨b,hb,hlb⟩:=hlv o ho
   exact ((hm.blk o b hb).nf hlb (by rw [hfp1];exact hg)).2
  ·exact hR.W.fresh k (Nat.le_trans hR.W.ch.size hk)
 have hkeep1:∀ k,C1.Fz k→¬ k∈bP C os:=fun k hf hh=>hbF k hh hf
 let C2:Ctx:=⟨C.σ,F,C.Dm,C.ex,C.hd⟩
 have hle2:CLe C C2:=⟨fun _ _=>rfl,fun k hk=>hF2 k (hle.Fz k hk),fun _ hh=>hh,fun _ _=>rfl⟩
 have hm2:RelM Γ.D C2 w' (dG m0 os):=by
  refine k1.world hch hkeep1 hσ.symm hdm.symm hexx.symm hhdd.symm hF2 (fun j c hj hlj g hg=>?_)
  have hnb:=k2 j c hj hlj g hg
  have hbr:=k1.blk j c hj
  refine ⟨hnb,fun hf=>?_⟩
  rcases (hF3 g hf).2 with hh | hh | hh
  ·exact (hbr.nf hlj hg).1 hh
  ·exact hnb hh
  ·exact Nat.lt_irrefl _ (Nat.lt_of_lt_of_le (hbr.lt hlj hg) hh)
 have hlt:∀ j c,aF (dG m0 os) j=some c→gF c=true→∀ g,g∈C.fp j→¬ (g∈bP C os∨w.heap.size≤g):=fun j c hj hlj g hg=>by
  rintro (hh | hh)
  ·exact k2 j c hj hlj g (by rw [hfp1];exact hg) hh
  ·exact Nat.lt_irrefl _ (Nat.lt_of_lt_of_le ((k1.blk j c hj).lt hlj (by rw [hfp1];exact hg)) hh)
 have hs:kV C2 (dG m0 os) (b3 ++b2):=fun j c hj hlj g hg hh=>hlt j c hj hlj g hg (hb g hh).2
 have hfr:Free (dG m0 os) id lim:=fun i hi hj=>k3 i (hfree i (Free.of_fresh hid i hi hj))
 have hcnt:=bN hp
 rw [mkVs_cnt,hcnt] at hn
 have hl2:All2 (VRel C2 w') l us0:=hl.imp fun _ _ hh=>VRel.move hle2 (fun k hf hk=>hch.block k hk (hkeep1 k (hle.Fz k hf))) hh
 obtain ⟨C3,hB⟩:=bV (bs:=b3) hp hm2 hl2 hbk (List.nodup_append.1 iB).1 (fun g hg=>⟨(hb g (List.mem_append.2 (.inl hg))).1,hD g (hb g (List.mem_append.2 (.inl hg))).2⟩)
  (fun j c hj hlj g hg hh=>hs j c hj hlj g hg (List.mem_append.2 (.inl hh))) (hfr.part (Nat.le_refl _) (by omega))
 have hfz3:C3.Fz=F:=hB.fz
 obtain ⟨C4,hL,hres,_⟩:=mkVs_rel (n:=n') (bs:=b2) hB.rel (by rw [hfz3];exact hrs) (List.nodup_append.1 iB).2.1 (fun g hg=>by rw [hfz3];exact ⟨(hb g (List.mem_append.2 (.inr hg))).1,hD g (hb g (List.mem_append.2 (.inr hg))).2⟩)
  (hB.sepd hs iB) (fun i hi hj=>hB.none i (hfr i (by omega) (by omega)) (by omega))
 have hle4:CLe C C4:=(hle2.trans hB.le).trans hL.le
 have hfz4:C4.Fz=F:=hL.fz.trans hfz3
 refine ⟨C4,hle4,fun k hf hk=>hch.block k hk (hkeep1 k (hle.Fz k hf)),hL.rel,resAV_rel hres,?_⟩
 refine hR.W.step hle4 hch (fun k _ hk=>hD k (.inl hk)) (fun k hf hk=>hkeep1 k (hle.Fz k hf) hk) (fun k hk=>?_)
 rw [hfz4] at hk
 obtain ⟨h1,h2⟩:=hF3 k hk
 rcases h2 with h2 | h2
 ·rcases hF1 k h2 with h3 | h3
  ·exact .inl h3
  ·exact .inr ⟨h3.1,h1⟩
 ·exact .inr ⟨hD k h2,h1⟩
theorem callL_rel {lim:Nat} {h:FH} {g id:Nat} {l:List Vl} {us0:List Value} {r:AV×aX} (hR:RelC e Γ C s a w) (hcon:jY P e g h) (hl:All2 (VRel C w) l us0) (hr:(callL lim h l s.mem id).run=some r) :
  (callFunc g us0.toArray).run P w= .ok (.enter g us0.toArray) w∧Calls P g us0.toArray w fun en w'=>∃ v C',en= .returned v∧Post e Γ C w r v w' C':=by
 unfold callL at hr
 split at hr
 rotate_left
 ·cases hr
 rename_i x fs os hex
 cases hq:(sep fs os && fresh s.mem id lim) with
 | false=>rw [hq] at hr;cases hr
 | true=>
 rw [hq] at hr
 rw [Bool.and_eq_true] at hq
 obtain ⟨hsep,hid⟩:=hq
 obtain ⟨iB,hdis⟩:=sep_of hsep
 simp only [cond_true,Tr.run] at hr
 cases hfx:h.f x with
 | none=>rw [hfx] at hr;cases hr
 | some y=>
 rw [hfx] at hr
 simp only [Option.bind_some] at hr
 obtain ⟨hrows,hlv,hsem⟩:=kO hR.mem hex hl
 obtain ⟨hfm,hfz⟩:=lJ fs C s.mem hR.mem hrows
 have hbF:∀ k,k∈bP C os→¬ (C.frz fs).Fz k:=fun k hk hf=>by
  obtain ⟨o,ho,hg⟩:=iR.1 hk
  obtain ⟨b,hb,hlb⟩:=hlv o ho
  rcases (Ctx.frz_Fz fs C k).1 hf with hf | ⟨o',ho',hg'⟩
  ·exact ((hR.mem.blk o b hb).nf hlb hg).1 hf
  ·rcases hrows o' ho' with ⟨b1,b2,hm',hbb⟩ | ⟨t',xs',hm',hz'⟩
   ·exact hR.mem.inj o o' b _ hb hm' hlb (toFrz_live hbb) (fun hh=>hdis o ho (hh ▸ ho')) k hg hg'
   ·exact ((hR.mem.blk o b hb).nf hlb hg).1 (hz' k hg')
 have hlt:∀ k,(C.frz fs).Fz k→k < w.heap.size:=fun k hk=>(hfz k hk).elim (hR.W.lt k) And.right
 have hglob:GlobOk e (C.frz fs).Fz w:=hR.W.glob.move (C.frz_le fs).Fz (fun _ _ _=>rfl)
 obtain ⟨c1,c2⟩:=hcon w (C.frz fs).Fz us0 x y (bP C os) hfx (hsem _ fun _ hk=>hk) (eJ hR.mem iB hlv) hbF hlt hglob
 refine ⟨c1,c2.mono fun en w' hh=>?_⟩
 obtain ⟨Fz2,us,b2,b3,rfl,hch,hF1,hF2,hrs,hbk,hnd2,hb⟩:=hh
 split at hr
 rotate_left
 ·cases hr
 rename_i m' n' hp
 have hr':(bif Nat.ble (eB h.rs y.1 m' n').2.2 (id+lim) then Tr.ret (resAV (eB h.rs y.1 m' n').1,(eB h.rs y.1 m' n').2.1) else .fail).run=some r:=hr
 cases hble:Nat.ble (eB h.rs y.1 m' n').2.2 (id+lim) with
 | false=>rw [hble] at hr';cases hr'
 | true=>
 rw [hble] at hr'
 cases hr'
 have hn:=Nat.le_of_ble_eq_true hble
 cases hfl:(h.rs.all eG && (bR h.ps).all eG) with
 | false=>
  rw [hfl] at hp
  obtain ⟨C',hC⟩:=call_post (C1:=C.frz fs) (F:=Fz2) hR hfm (C.frz_le fs) (Ctx.frz_σ fs C) (Ctx.frz_Dm fs C) (Ctx.frz_ex fs C) (Ctx.frz_hd fs C) hfz (fun i hi=>jS hi) (fun o ho=>by
    obtain ⟨b,hb,hlb⟩:=hlv o ho
    exact ⟨b,by rw [fH (hdis o ho)];exact hb,hlb⟩) rfl hbF hl hch hF1 hF2 hrs hbk hnd2 hb hp hid hn
  exact ⟨_,C',rfl,hC⟩
 | true=>
  rw [hfl] at hp
  rw [Bool.and_eq_true] at hfl
  have hbF0:∀ k,k∈bP C os→¬ C.Fz k:=fun k hk hf=>hbF k hk ((C.frz_le fs).Fz k hf)
  obtain ⟨C',hC⟩:=call_post (C1:=C) (F:=C.Fz) hR hR.mem (CLe.refl C) rfl rfl rfl rfl (fun k hk=> .inl hk) (fun i hi=>hi) hlv rfl hbF0 hl hch (fun _ hk=>hk)
   (fun k hk=>⟨Nat.lt_of_lt_of_le (hR.W.lt k hk) hch.size, .inl hk⟩) (hrs.flat hfl.1) (hbk.flat hfl.2) hnd2 (fun k hk=>⟨fun hf=>(hb k hk).1 (hF1 k ((C.frz_le fs).Fz k hf)),(hb k hk).2⟩) hp hid hn
  exact ⟨_,C',rfl,hC⟩
variable {o:Oper} {id:Nat} {r:AV×aX}
theorem op_call {h:FH} {c:Call} {f:Operand} {g:Nat} {caps:List Nat} {l:List Vl} (hR:RelC e Γ C s a w) (ho:o.op= .call c) (hc:c.callee= .value f) (hf:bC s f= .v (.one (.clo g caps))) (hl:avs s c.args.toList=some l)
  (hcon:jY P e g h) (hr:(callT h (l ++caps.map fun b=> .one (.pbox b 0)) s.mem id).run=some r):OpDone P e Γ C o a w r:=by
 obtain ⟨vs,hv,hcaps⟩:CRel C w (.clo g caps) (a.eval f):=aU hR hf
 have hcaps':All2 (VRel C w) (caps.map fun b=> .one (.pbox b 0)) vs:=by
  clear hr hf hv
  induction caps generalizing vs with
  | nil=>cases vs with
   | nil=>trivial
   | cons _ _=>exact hcaps.elim
  | cons b r ih=>cases vs with
   | nil=>exact hcaps.elim
   | cons v vs=>exact ⟨hcaps.1,ih vs hcaps.2⟩
 have hargs:=(avs_rel hR hl).append hcaps'
 obtain ⟨c1,c2⟩:=callL_rel hR hcon hargs hr
 have harr:(c.args.map a.eval) ++vs.toArray=(c.args.toList.map a.eval ++vs).toArray:=by
  apply Array.ext'
  simp
 refine .inr (.inr ⟨g,_,?_,c2⟩)
 unfold execOp
 rw [ho]
 simp only [resolve,hc,Sem.run_bind,hv,Deferred.ofValue,Sem.run_pure,Result.andThen_ok,invoke,Array.empty_append,harr]
 exact c1
end Go.Ev
namespace Go.Ev
variable {P:Program} {e:Env} {Γ:Actv} {C:Ctx} {s:St} {a:Act} {w:World} {o:Oper} {id:Nat} {r:AV×aX}
theorem places_of (P:Program):∀ {l:List (Nat×Nat×Bool)} {fs:List Field},All2 (fun (p:Nat×Nat×Bool) (f:Field)=>f.offset=p.1∧p.2.1≠0∧∃ inf d,P.info? f.type=some inf∧inf.size=p.2.1∧P.underlying f.type=some d∧aggD d=p.2.2) l fs→
  fs.mapM (fun f=>(P.info? f.type).map fun i=>(f.offset,i.size))=some (l.map fun p=>(p.1,p.2.1))
 | [],[],_=>rfl
 | p ::l,f ::fs,h=>by
  obtain ⟨⟨h1,_,inf,d,h2,h3,_⟩,h4⟩:=h
  rw [List.mapM_cons,places_of P h4,h2]
  simp [h1,h3]
theorem buildCells_rel (h:RelC e Γ C s a w) {S:Nat} {l:List (Nat×Nat×Bool)} (hl:bL e.flds S=some l):∀ {parts:List (Nat×Operand)} {cs0 cs:List CV} {z:Array Value},cZ e s S parts cs0=some cs→All2 (CRel C w) cs0 z.toList→
  ∃ out,Instr.fill (fun i=>(l.map fun p=>(p.1,p.2.1))[i]?) z (parts.map fun x=>(x.1,a.eval x.2))=some out∧All2 (CRel C w) cs out.toList
 | [],cs0,cs,z,hb,hz=>by
  cases hb
  exact ⟨z,rfl,hz⟩
 | (i,x) ::r,cs0,cs,z,hb,hz=>by
  unfold cZ at hb
  split at hb
  ·rename_i off n ag hf
   split at hb
   ·rename_i v hv
    cases hq:(Nat.beq v.cells.length n && Nat.ble (off+n) cs0.length && cU v.cells) with
    | false=>rw [hq] at hb;cases hb
    | true=>
     rw [hq] at hb
     simp only [cond_true] at hb
     simp only [Bool.and_eq_true] at hq
     obtain ⟨⟨h1,h2⟩,h3⟩:=hq
     have h1:=Nat.eq_of_beq_eq_true h1
     have h2:=Nat.le_of_ble_eq_true h2
     obtain ⟨hc,_⟩:=(opd_v h hv).cells h.mem h3
     have hsz:(a.eval x).cells.size=n:=by rw [← Array.length_toList,← hc.length,h1]
     have hzl:cs0.length=z.size:=by rw [hz.length,Array.length_toList]
     have hfit:off+(a.eval x).cells.size≤z.size:=by omega
     have hfc:=fold_cells off (a.eval x) z hfit
     have hnew:All2 (CRel C w) (iQ cs0 off v.cells) ((a.eval x).cells.zipIdx.foldl (fun (cs:Array Value) (x:Value×Nat)=>cs.setIfInBounds (off+x.2) x.1) z).toList:=by
      rw [hfc]
      have:=fP (off:=off) hz hc
      rw [Array.length_toList] at this
      exact this
     obtain ⟨out,ho,hout⟩:=buildCells_rel h hl hb hnew
     refine ⟨out,?_,hout⟩
     unfold fld at hf
     rw [hl] at hf
     have hp:(l.map fun p=>(p.1,p.2.1))[i]?=some (off,n):=by
      have hf':l[i]?=some (off,n,ag):=hf
      rw [List.getElem?_map,hf']
      rfl
     rw [List.map_cons,Instr.fill,hp]
     simp only [hsz,ne_eq,not_true_eq_false,decide_false,Bool.false_or,decide_eq_true_eq]
     rw [if_neg (by omega)]
     exact ho
   ·cases hb
  ·cases hb
theorem op_build (hok:EnvOk P e) {S:Nat} {parts:Array (Nat×Operand)} {t:Ty} {cs:List CV} (h:RelC e Γ C s a w) (ho:o.op= .build S parts) (ht:e.ty S=some t) (hS:(bL e.flds S).isSome=true) (hb:cZ e s S parts.toList t.zcells=some cs) :
  OpDone P e Γ C o a w (.v (.agg cs),s.mem):=by
 obtain ⟨inf,hinf,rfl⟩:=cR ht
 obtain ⟨it,d,z,q1,q2,q3,q4,q5,q6,q7,q8⟩:=(hok.ty S inf hinf).out
 obtain ⟨l,hl⟩:=Option.isSome_iff_exists.1 hS
 obtain ⟨fs,hu,hf⟩:=hok.fld S l hl
 have hz:All2 (CRel C w) inf.t.zcells z.cells.toList:=by rw [q7];exact gD _
 obtain ⟨out,hout,hrel⟩:=buildCells_rel h hl hb hz
 have hbuilt:P.built S (parts.map fun (p:Nat×Operand)=>(p.1,a.eval p.2)).toList=some out:=by
  unfold Program.built
  rw [q1,hu]
  simp only [q6,places_of P hf]
  rw [Array.toList_map,← hout]
  congr 1
  funext i
  simp
 exact bM (X:=Instr.build S (parts.map fun (p:Nat×Operand)=>(p.1,a.eval p.2))) (by unfold execOp;rw [ho]) (run_build w S _ out hbuilt) (Post.same h ⟨out,rfl,hrel⟩)
theorem buildArr_rel (h:RelC e Γ C s a w):∀ {parts:List (Nat×Operand)} {cs0 cs:List CV} {z:Array Value},eY s parts cs0=some cs→All2 (CRel C w) cs0 z.toList→
  ∃ out,Instr.fill (fun i=>some (i*1,1)) z (parts.map fun x=>(x.1,a.eval x.2))=some out∧All2 (CRel C w) cs out.toList
 | [],cs0,cs,z,hb,hz=>by
  cases hb
  exact ⟨z,rfl,hz⟩
 | (i,x) ::r,cs0,cs,z,hb,hz=>by
  unfold eY at hb
  split at hb
  ·rename_i k n hx
   cases hq:Nat.blt i cs0.length with
   | false=>rw [hq] at hb;cases hb
   | true=>
    rw [hq] at hb
    simp only [cond_true] at hb
    have hlt:i < cs0.length:=Nat.le_of_ble_eq_true hq
    have hv:a.eval x= .int k n:=aU h hx
    have hzl:cs0.length=z.size:=by rw [hz.length,Array.length_toList]
    have hc:All2 (CRel C w) [CV.int k n] (a.eval x).cells.toList:=by rw [hv];exact ⟨rfl,trivial⟩
    have hsz:(a.eval x).cells.size=1:=by rw [hv];rfl
    have hfit:i+(a.eval x).cells.size≤z.size:=by omega
    have hfc:=fold_cells i (a.eval x) z hfit
    have hnew:All2 (CRel C w) (iQ cs0 i [CV.int k n]) ((a.eval x).cells.zipIdx.foldl (fun (cs:Array Value) (x:Value×Nat)=>cs.setIfInBounds (i+x.2) x.1) z).toList:=by
     rw [hfc]
     have:=fP (off:=i) hz hc
     rw [Array.length_toList] at this
     exact this
    obtain ⟨out,ho,hout⟩:=buildArr_rel h hb hnew
    refine ⟨out,?_,hout⟩
    rw [List.map_cons,Instr.fill]
    simp only [hsz,Nat.mul_one,ne_eq,not_true_eq_false,decide_false,Bool.false_or,decide_eq_true_eq]
    rw [if_neg (by omega)]
    simpa using ho
  ·cases hb
theorem op_buildArr (hok:EnvOk P e) {S:Nat} {parts:Array (Nat×Operand)} {t:Ty} {cs:List CV} (h:RelC e Γ C s a w) (ho:o.op= .build S parts) (ht:e.ty S=some t) (hS:e.arrs.any (Nat.beq S)=true) (hb:eY s parts.toList t.zcells=some cs) :
  OpDone P e Γ C o a w (.v (.agg cs),s.mem):=by
 obtain ⟨inf,hinf,rfl⟩:=cR ht
 obtain ⟨it,d,z,q1,q2,q3,q4,q5,q6,q7,q8⟩:=(hok.ty S inf hinf).out
 obtain ⟨E,ie,hu,hE,hie,hsz⟩:=hok.arr S hS
 have hz:All2 (CRel C w) inf.t.zcells z.cells.toList:=by rw [q7];exact gD _
 obtain ⟨out,hout,hrel⟩:=buildArr_rel h hb hz
 have hbuilt:P.built S (parts.map fun (p:Nat×Operand)=>(p.1,a.eval p.2)).toList=some out:=by
  unfold Program.built
  rw [q1,hu]
  simp only [q6,hie,hsz]
  rw [Array.toList_map,← hout]
 exact bM (X:=Instr.build S (parts.map fun (p:Nat×Operand)=>(p.1,a.eval p.2))) (by unfold execOp;rw [ho]) (run_build w S _ out hbuilt) (Post.same h ⟨out,rfl,hrel⟩)
theorem boxes_rel:∀ {l:List Vl} {bs:List Nat} {vs:List Value},bA.boxes l=some bs→All2 (VRel C w) l vs→All2 (fun b u=>C.Dm b∧∃ g,C.σ b= .pointer (some ⟨g,0,none⟩)∧u= .pointer (some ⟨g,0,none⟩)) bs vs
 | [],bs,[],h,_=>by cases h;trivial
 | .one c ::r,bs,v ::vs,h,hv=>by
  cases c<;>first | (cases h;done) | skip
  rename_i b off
  cases off with
  | succ n=>cases h
  | zero=>
   simp only [bA.boxes] at h
   split at h
   ·rename_i l hl
    cases h
    exact ⟨hv.1,boxes_rel hl hv.2⟩
   ·cases h
theorem op_makeFunc {f:Nat} {first caps:Array Operand} {l:List Vl} {bs:List Nat} (h:RelC e Γ C s a w) (ho:o.op= .makeFunc (.func f) first caps) (hf:first.isEmpty=true) (hl:avs s caps.toList=some l) (hb:bA.boxes l=some bs) :
  OpDone P e Γ C o a w (.v (.one (.clo f bs)),s.mem):=by
 have hr:=boxes_rel hb (avs_rel h hl)
 have hfe:first=#[]:=by
  have:first.size=0:=by simpa using hf
  exact Array.eq_empty_of_size_eq_zero this
 subst hfe
 refine bM (X:=Instr.makeFunc (.func f) ((#[]:Array Operand).map a.eval) (caps.map a.eval)) (v:= .func (.func f) ((#[]:Array Operand).map a.eval) (caps.map a.eval)) (w':=w) (by unfold execOp;rw [ho]) rfl (Post.same h ⟨caps.toList.map a.eval,?_,hr⟩)
 congr 1<;>exact Array.ext' (by simp)
theorem op_makeMap {M:Nat} (h:RelC e Γ C s a w) (ho:o.op= .makeMap M none) (hi:fresh s.mem id 1=true):OpDone P e Γ C o a w (.v (.one (.mref id)),aI s.mem id (.mp [])):=by
 refine bM (X:=Instr.makeMap M none) (by unfold execOp;rw [ho];rfl) (run_makeMap_plain w M) (post_new (x:= .v (.one (.mref id))) h hi (fun g hg=>by simpa [bI] using hg.symm) rfl ?_ ⟨.inr rfl,(Ctx.add_σ _ _ _).symm⟩)
 exact ⟨⟨w.heap.size,#[],0,Ctx.add_σ _ _ _,heap_alloc_new w _,⟨trivial,fun _ hm=>(by cases hm),List.nodup_nil⟩,(size_D h).2,(size_D h).1⟩,Ctx.add_ex _ _ _⟩
theorem tlook_none (n:Int):∀ {tbl:List (Int×List Int)},eK tbl n=false→aQ tbl n=[0,0,0,0]
 | [],_=>rfl
 | (k,l) ::r,h=>by
  unfold eK at h
  rw [Bool.or_eq_false_iff] at h
  unfold aQ
  rw [h.1]
  exact tlook_none n h.2
theorem findNow_es (n:Int) {tbl:List (Int×List Int)}:∀ {es:List MapEntry} (i:Nat),(∀ m,m∈es→∃ k,m.key= .int .i64 k∧eK tbl k=true∧m.val=tRow (aQ tbl k))→
  (eK tbl n=true∧∃ j,Instr.findNow (.int .i64) (.int .i64 n) es i=some (some (j,tRow (aQ tbl n))))∨
  (Instr.findNow (.int .i64) (.int .i64 n) es i=some none∧∀ m,m∈es→m.key≠ .int .i64 n)
 | [],i,_=> .inr ⟨rfl,fun m hm=>by cases hm⟩
 | m ::es,i,h=>by
  obtain ⟨k,h1,h2,h3⟩:=h m List.mem_cons_self
  have hs:Instr.sameNow (.int .i64) (.int .i64 n) m.key=some (n==k):=by rw [h1];simp [Instr.sameNow]
  by_cases hk:k=n
  ·subst hk
   refine .inl ⟨h2,i,?_⟩
   have hs':Instr.sameNow (.int .i64) (.int .i64 k) m.key=some true:=by rw [hs];simp
   simp only [Instr.findNow,hs']
   rw [h3]
  ·have e2:(n==k)=false:=by simpa using fun hh=>hk hh.symm
   rw [e2] at hs
   rcases findNow_es n (i+1) (fun m' hm'=>h m' (List.mem_cons_of_mem _ hm')) with ⟨g1,j,g2⟩ | ⟨g1,g2⟩
   ·exact .inl ⟨g1,j,by simp only [Instr.findNow,hs];exact g2⟩
   ·refine .inr ⟨by simp only [Instr.findNow,hs];exact g1,fun m' hm'=>?_⟩
    rcases List.mem_cons.1 hm' with rfl | hm'
    ·rw [h1]
     intro hh
     injection hh with _ hh
     exact hk hh
    ·exact g2 m' hm'
theorem findNow_tbl (n:Int) {tbl:List (Int×List Int)} {es:List MapEntry} (i:Nat) (h:TblRel tbl es) :
  (eK tbl n=true∧∃ j,Instr.findNow (.int .i64) (.int .i64 n) es i=some (some (j, .agg #[.int .i64 ((aQ tbl n).getD 0 0), .int .i64 ((aQ tbl n).getD 1 0), .int .i64 ((aQ tbl n).getD 2 0), .int .i64 ((aQ tbl n).getD 3 0)])))∨
  (eK tbl n=false∧Instr.findNow (.int .i64) (.int .i64 n) es i=some none∧aQ tbl n=[0,0,0,0]):=by
 rcases findNow_es n i h.1 with h1 | ⟨h1,h2⟩
 ·exact .inl h1
 ·have hn:eK tbl n=false:=by
   cases hq:eK tbl n with
   | false=>rfl
   | true=>
    obtain ⟨m,hm,hk⟩:=h.2 n hq
    exact absurd hk (h2 m hm)
  exact .inr ⟨hn,h1,tlook_none n hn⟩
theorem op_lookup (hok:EnvOk P e) {M g:Nat} {x k:Operand} {ok:Bool} {n:Int} {tbl:List (Int×List Int)} (h:RelC e Γ C s a w) (ho:o.op= .lookup M x k ok) (hM:e.maps.any (Nat.beq M)=true) (hx:bC s x= .v (.one (.gmap g))) (hk:bC s k= .v (.one (.int .i64 n)))
  (hg:bL e.globs g=some tbl):OpDone P e Γ C o a w (bif ok then .tup [.agg (bA.row4 (aQ tbl n)), .one (.bool (eK tbl n))] else .v (.agg (bA.row4 (aQ tbl n))),s.mem):=by
 obtain ⟨K,V,inf,u1,u2,u3,u4⟩:=hok.mp M hM
 obtain ⟨r,hv,hc,_⟩:=aU h hx
 have hkv:a.eval k= .int .i64 n:=aU h hk
 obtain ⟨_,r',ents,ck,hc',_,hh,htbl⟩:=h.W.glob g tbl hg
 rw [hc'] at hc
 rw [hv] at hc
 cases hc
 have hck:∀ b,(Instr.checkKey b 10000 K (.int .i64 n)).run P w= .ok () w:=fun b=>MapKept.run_checkKey (k:= .int .i64 n) u2 (by simp [MapKept.IsKey]) b 9999
 have hex:execOp a.eval o=(do pure (.value (← Instr.lookup M (a.eval x) (a.eval k) ok))):=by unfold execOp;rw [ho]
 have hrow:∀ (l:List Int),All2 (CRel C w) (bA.row4 l) [.int .i64 (l.getD 0 0), .int .i64 (l.getD 1 0), .int .i64 (l.getD 2 0), .int .i64 (l.getD 3 0)]:=fun l=>⟨rfl,rfl,rfl,rfl,trivial⟩
 rcases findNow_tbl n 0 htbl with ⟨g1,j,g2⟩ | ⟨g1,g2,g3⟩
 ·cases ok with
  | true=>
   refine bM hex (v:= .tuple #[.agg #[.int .i64 ((aQ tbl n).getD 0 0), .int .i64 ((aQ tbl n).getD 1 0), .int .i64 ((aQ tbl n).getD 2 0), .int .i64 ((aQ tbl n).getD 3 0)], .bool true]) (w':=w) ?_ (Post.same h ⟨_,rfl,⟨_,rfl,hrow _⟩,?_,trivial⟩)
   ·simp [Instr.lookup,hkv,run_underlying u1,hv,MapKept.run_getObj_map hh,hck,MapKept.run_findKey u2 g2]
   ·rw [g1];rfl
  | false=>
   refine bM hex (v:= .agg #[.int .i64 ((aQ tbl n).getD 0 0), .int .i64 ((aQ tbl n).getD 1 0), .int .i64 ((aQ tbl n).getD 2 0), .int .i64 ((aQ tbl n).getD 3 0)]) (w':=w) ?_ (Post.same h ⟨_,rfl,hrow _⟩)
   simp [Instr.lookup,hkv,run_underlying u1,hv,MapKept.run_getObj_map hh,hck,MapKept.run_findKey u2 g2]
 ·rw [g3]
  have hz:(zeroValue V).run P w= .ok (.agg #[.int .i64 0, .int .i64 0, .int .i64 0, .int .i64 0]) w:=by simp [zeroValue,typeInfo,u3,u4]
  cases ok with
  | true=>
   refine bM hex (v:= .tuple #[.agg #[.int .i64 0, .int .i64 0, .int .i64 0, .int .i64 0], .bool false]) (w':=w) ?_ (Post.same h ⟨_,rfl,⟨_,rfl,hrow _⟩,?_,trivial⟩)
   ·simp [Instr.lookup,hkv,run_underlying u1,hv,MapKept.run_getObj_map hh,hck,MapKept.run_findKey u2 g2,hz]
   ·rw [g1];rfl
  | false=>
   refine bM hex (v:= .agg #[.int .i64 0, .int .i64 0, .int .i64 0, .int .i64 0]) (w':=w) ?_ (Post.same h ⟨_,rfl,hrow _⟩)
   simp [Instr.lookup,hkv,run_underlying u1,hv,MapKept.run_getObj_map hh,hck,MapKept.run_findKey u2 g2,hz]
theorem findNow_mp (k v:Int):∀ {es:List (Int×Int)} {l:List MapEntry} (i:Nat),MapR es l→
  (∃ j m,Instr.findNow (.int .i64) (.int .i64 k) l i=some (some (i+j,m.val))∧l[j]?=some m∧m.key= .int .i64 k∧∀ f:MapEntry→MapEntry,(∀ m:MapEntry,m.key= .int .i64 k→(f m).key= .int .i64 k∧(f m).val= .int .i64 v)→MapR (dN es k v) (l.modify j f))∨
  (Instr.findNow (.int .i64) (.int .i64 k) l i=some none∧∀ m:MapEntry,m.key= .int .i64 k→m.val= .int .i64 v→MapR (dN es k v) (l ++[m]))
 | [],[],i,_=> .inr ⟨rfl,fun m h1 h2=>⟨⟨h1,h2⟩,trivial⟩⟩
 | (k',v') ::es,m ::l,i,h=>by
  obtain ⟨⟨h1,h2⟩,h3⟩:=h
  have h1':m.key= .int .i64 k':=h1
  have hs:Instr.sameNow (.int .i64) (.int .i64 k) m.key=some (k==k'):=by rw [h1'];simp [Instr.sameNow]
  by_cases hk:k'=k
  ·subst hk
   have hs':Instr.sameNow (.int .i64) (.int .i64 k') m.key=some true:=by rw [hs];simp
   refine .inl ⟨0,m,by simp [Instr.findNow,hs'],rfl,h1,fun f hf=>?_⟩
   simp only [dN,beq_self_eq_true,cond_true]
   rw [List.modify_zero_cons]
   exact ⟨hf m h1,h3⟩
  ·have e1:(k'==k)=false:=by simpa using hk
   have e2:(k==k')=false:=by simpa using fun hh=>hk hh.symm
   rw [e2] at hs
   rcases findNow_mp k v (i+1) h3 with ⟨j,m',g1,g2,g3,g4⟩ | ⟨g1,g2⟩
   ·refine .inl ⟨j+1,m',by simp only [Instr.findNow,hs,g1];congr 3;omega,g2,g3,fun f hf=>?_⟩
    simp only [dN,e1,cond_false]
    rw [List.modify_succ_cons]
    exact ⟨⟨h1,h2⟩,g4 f hf⟩
   ·refine .inr ⟨by simp only [Instr.findNow,hs];exact g1,fun m' h4 h5=>?_⟩
    simp only [dN,e1,cond_false]
    exact ⟨⟨h1,h2⟩,g2 m' h4 h5⟩
theorem born_modify {f:MapEntry→MapEntry} (hf:∀ m,(f m).born=m.born):∀ (l:List MapEntry) (j:Nat),(l.modify j f).map (·.born)=l.map (·.born)
 | [],j=>by cases j<;>rfl
 | m ::l,0=>by simp [hf]
 | m ::l,j+1=>by simp [born_modify hf l j]
theorem Born.modify {l:List MapEntry} {ck:Nat} (h:Born l ck) (j:Nat) (f:MapEntry→MapEntry) (hf:∀ m,(f m).born=m.born):Born (l.modify j f) ck:=by
 have he:=born_modify hf l j
 refine ⟨fun m hm=>?_,by rw [he];exact h.2⟩
 have:m.born∈(l.modify j f).map (·.born):=List.mem_map.2 ⟨m,hm,rfl⟩
 rw [he] at this
 obtain ⟨m',hm',hb⟩:=List.mem_map.1 this
 rw [← hb]
 exact h.1 m' hm'
theorem Born.push {l:List MapEntry} {ck:Nat} (h:Born l ck) {m:MapEntry} (hm:m.born=ck):Born (l ++[m]) (ck+1):=by
 refine ⟨fun m' hm'=>?_,?_⟩
 ·rcases List.mem_append.1 hm' with hm' | hm'
  ·have:=h.1 m' hm'
   omega
  ·have:=List.mem_singleton.1 hm'
   subst this
   omega
 ·rw [List.map_append,List.nodup_append]
  refine ⟨h.2,by simp,fun a ha b hb=>?_⟩
  obtain ⟨m',hm',rfl⟩:=List.mem_map.1 ha
  have h1:=h.1 m' hm'
  have h2:b=m.born:=by simpa using hb
  omega
theorem op_mapUpdate (hok:EnvOk P e) {M b:Nat} {x k y:Operand} {n v:Int} {es:List (Int×Int)} (h:RelC e Γ C s a w) (ho:o.op= .mapUpdate M x k y) (hM:e.imaps.any (Nat.beq M)=true) (hx:bC s x= .v (.one (.mref b))) (hk:bC s k= .v (.one (.int .i64 n)))
  (hy:bC s y= .v (.one (.int .i64 v))) (hb:aF s.mem b=some (.mp es)):OpDone P e Γ C o a w (jJ,aI s.mem b (.mp (dN es n v))):=by
 obtain ⟨K,V,u1,u2⟩:=hok.imp M hM
 obtain ⟨hd,hxv⟩:=aU h hx
 have hkv:a.eval k= .int .i64 n:=aU h hk
 have hyv:a.eval y= .int .i64 v:=aU h hy
 obtain ⟨⟨g,ents,ck,hσ,hh,⟨hmp,hborn⟩,hnf,hD⟩,hexb⟩:=h.mem.blk b _ hb
 rw [hσ] at hxv
 have hlt:g < w.heap.size:=(Array.getElem?_eq_some_iff.1 hh).1
 have hck:(Instr.checkKey false 10000 K (.int .i64 n)).run P w= .ok () w:=MapKept.run_checkKey (k:= .int .i64 n) u2 (by simp [MapKept.IsKey]) false 9999
 have hex:execOp a.eval o=(do (Instr.mapUpdate M (a.eval x) (a.eval k) (a.eval y));pure .skip):=by unfold execOp;rw [ho]
 have hpost:∀ (ob:Obj) (ents':Array MapEntry) (ck':Nat),ob= .map ents' ck'→MapR (dN es n v) ents'.toList→Born ents'.toList ck'→Post e Γ C w (jJ,aI s.mem b (.mp (dN es n v))) undef { w with heap:=w.heap.setIfInBounds g ob } C:=by
  intro ob ents' ck' hob hr hbo
  subst hob
  have hset:=MapKept.heap_set (o':= .map ents' ck') hh
  have hch:Ch w { w with heap:=w.heap.setIfInBounds g (.map ents' ck') } (fun k=>k=g):=⟨rfl,rfl,rfl,by simp,fun k _ hx=>hset.2 k hx⟩
  have hbr:BRel Γ.D C w b (.mp es):=h.mem.blk b _ hb
  refine ⟨CLe.refl C,fun k hf hk=>hch.block k hk (fun hh'=>hnf (hh' ▸ hf)),?_,⟨#[],rfl,trivial⟩,h.W.step (CLe.refl C) hch (fun k _ hh'=>hh' ▸ hD) (fun k hf hh'=>hnf (hh' ▸ hf)) (fun k hk=> .inl hk)⟩
  refine RelM.put h.mem (CLe.refl C) hch (fun k hf hh'=>hnf (hh' ▸ hf)) (fun j c hj hl hji g' hg'=>⟨fun hh'=>?_,(h.mem.blk j c hj).nf hl hg' |>.1⟩) (show BRel Γ.D C { w with heap:=w.heap.setIfInBounds g (.map ents' ck') } b (.mp (dN es n v)) from ⟨⟨g,ents',ck',hσ,hset.1,⟨hr,hbo⟩,hnf,hD⟩,hexb⟩) (fun _ j c hj hl hji g' hg' hh'=>?_)
   (fun i=>⟨fun hh'=> .inl hh',fun hh'=>hh'.elim (fun q=>q) (fun q=>q ▸ hd)⟩) (h.mem.one b hd) (fun _ _=>rfl)
  ·subst hh'
   exact h.mem.inj j b c _ hj hb hl rfl hji g' hg' (dK (by rw [hσ];rfl))
  ·exact h.mem.inj j b c _ hj hb hl rfl hji g' hh' hg'
 rcases findNow_mp n v 0 hmp with ⟨j,m,g1,g2,g3,g4⟩ | ⟨g1,g2⟩
 ·rw [Nat.zero_add] at g1
  have hge:ents[j]?=some m:=by rw [← Array.getElem?_toList];exact g2
  refine done_u hex (w':={ w with heap:=w.heap.setIfInBounds g (.map (ents.modify j fun q=>{ q with key:= .int .i64 n,val:= .int .i64 v }) ck) }) ?_ (hpost _ _ _ rfl ?_ (by rw [Array.toList_modify];exact hborn.modify _ _ fun _=>rfl))
  ·rw [hxv,hkv,hyv]
   simp [Instr.mapUpdate,run_underlying u1,MapKept.run_getObj_map hh,hck,MapKept.run_findKey u2 g1,Instr.keyThatStays,hge,g3,Instr.sameBits,MapKept.run_setObj_map _ hh]
  ·rw [Array.toList_modify]
   exact g4 _ fun _ _=>⟨rfl,rfl⟩
 ·refine done_u hex (w':={ w with heap:=w.heap.setIfInBounds g (.map (ents.push { key:= .int .i64 n,val:= .int .i64 v,born:=ck }) (ck+1)) }) ?_ (hpost _ _ _ rfl ?_ (by rw [Array.toList_push];exact hborn.push rfl))
  ·rw [hxv,hkv,hyv]
   simp [Instr.mapUpdate,run_underlying u1,MapKept.run_getObj_map hh,hck,MapKept.run_findKey u2 g1,MapKept.run_setObj_map _ hh]
  ·rw [Array.toList_push]
   exact g2 _ rfl rfl
end Go.Ev
