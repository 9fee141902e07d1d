/-
 The abstract evaluator: data taken out of a state and laid anew; code.
-/
import Derived.Test.YtgpjfmjceamonaaGreatDoorEvD6
namespace Go.Ev
variable {P:Program} {e:Env} {H:Nat→Option FH} {Γ:Actv} {C:Ctx} {s:St} {a:Act} {w:World}
theorem lI (h:RelC e Γ C s a w):∀ {ks:List Nat} {as:List Vl},getAll s ks=some as→All2 (VRel C w) as (ks.map fun k=>a.tmps.getD k undef)
 | [],as,hg=>by cases hg;trivial
 | k ::ks,as,hg=>by
  unfold getAll at hg
  split at hg
  ·rename_i v hv
   split at hg
   ·rename_i l hl
    cases hg
    have:=fW h k
    rw [hv] at this
    exact ⟨this,lI h hl⟩
   ·cases hg
  ·cases hg
theorem kX:∀ (ks:List Nat) (l:List AV) (as:List Vl),(setAll l ks as).length=l.length
 | [],l,as=>by cases as<;>rfl
 | k ::ks,l,[]=>rfl
 | k ::ks,l,x ::as=>by
  rw [setAll,kX ks,List.length_set]
theorem setAll_rel {C:Ctx}:∀ {ks:List Nat} {l:List AV} {as:List Vl},l.length=a.tmps.size→All2 (VRel C w) as (ks.map fun k=>a.tmps.getD k undef)→(∀ (k:Nat) (x:AV) (v:Value),l[k]?=some x→a.tmps[k]?=some v→ARel C w x v)→
  ∀ (k:Nat) (x:AV) (v:Value),(setAll l ks as)[k]?=some x→a.tmps[k]?=some v→ARel C w x v
 | [],l,[],_,_,hl=>hl
 | [],_,_ ::_,_,h,_=>h.elim
 | _ ::_,_,[],_,h,_=>h.elim
 | k0 ::ks,l,y ::as,hlen,h,hl=>by
  refine setAll_rel (ks:=ks) (l:=l.set k0 (.v y)) (as:=as) (by rw [List.length_set];exact hlen) h.2 fun k x v hx hv=>?_
  rw [List.getElem?_set] at hx
  by_cases hk:k0=k
  ·subst hk
   rw [if_pos rfl] at hx
   split at hx
   ·cases hx
    have hlt:k0 < a.tmps.size:=(Array.getElem?_eq_some_iff.1 hv).1
    have:a.tmps.getD k0 undef=v:=by
     rw [Array.getElem?_eq_getElem hlt] at hv
     cases hv
     simp [Array.getD,hlt]
    have h1:VRel C w y (a.tmps.getD k0 undef):=h.1
    rw [this] at h1
    exact h1
   ·cases hx
  ·rw [if_neg hk] at hx
   exact hl k x v hx hv
theorem mirror_len:∀ (al:List (Nat×Drv)) (l:List AV),(mirror l al).length=l.length
 | [],_=>rfl
 | p ::r,l=>by
  unfold mirror
  rw [mirror_len r,List.length_set]
def DrvR (a:Act) (i:Nat):Drv→Prop
 | .same k=>a.tmps.getD i undef=a.tmps.getD k undef
 | .clo f ks=>a.tmps.getD i undef= .func (.func f) #[] (ks.map fun k=>a.tmps.getD k undef).toArray
theorem slot_of {C:Ctx} {l:List AV} (hlen:l.length=a.tmps.size) (hl:∀ (k:Nat) (x:AV) (v:Value),l[k]?=some x→a.tmps[k]?=some v→ARel C w x v) (k:Nat):ARel C w (l.getD k AV.junk) (a.tmps.getD k undef):=by
 rw [List.getD_eq_getElem?_getD]
 cases hq:l[k]? with
 | none=>exact trivial
 | some y=>
  have hlt:k < a.tmps.size:=by
   rw [← hlen]
   exact (List.getElem?_eq_some_iff.1 hq).1
  refine hl k y _ hq ?_
  rw [Array.getElem?_eq_getElem hlt]
  simp [Array.getD,hlt]
theorem boxesOf_rel {C:Ctx} {l:List AV} (hs:∀ k,ARel C w (l.getD k AV.junk) (a.tmps.getD k undef)):∀ {ks bs:List Nat},boxesOf l ks=some bs→All2 (fun b u=>C.Dm b∧∃ g,C.σ b= .pointer (some ⟨g,0,none⟩)∧u= .pointer (some ⟨g,0,none⟩)) bs (ks.map fun k=>a.tmps.getD k undef)
 | [],bs,h=>by cases h;trivial
 | k ::ks,bs,h=>by
  unfold boxesOf at h
  have hk:=hs k
  split at h
  ·rename_i b hb
   rw [hb] at hk
   split at h
   ·rename_i r hr
    cases h
    exact ⟨hk,boxesOf_rel hs hr⟩
   ·cases h
  ·cases h
theorem drvOf_rel {C:Ctx} {l:List AV} (hs:∀ k,ARel C w (l.getD k AV.junk) (a.tmps.getD k undef)) {i:Nat}:∀ {d:Drv},DrvR a i d→ARel C w (drvOf l d) (a.tmps.getD i undef)
 | .same k,h=>by
  have h':a.tmps.getD i undef=a.tmps.getD k undef:=h
  rw [h']
  exact hs k
 | .clo f ks,h=>by
  have h':a.tmps.getD i undef= .func (.func f) #[] (ks.map fun k=>a.tmps.getD k undef).toArray:=h
  simp only [drvOf]
  cases hb:boxesOf l ks with
  | none=>exact trivial
  | some bs=>
   rw [h']
   exact ⟨_,rfl,boxesOf_rel hs hb⟩
theorem mirror_rel {C:Ctx}:∀ {al:List (Nat×Drv)} {l:List AV},l.length=a.tmps.size→(∀ p,p∈al→DrvR a p.1 p.2)→(∀ (k:Nat) (x:AV) (v:Value),l[k]?=some x→a.tmps[k]?=some v→ARel C w x v)→
  ∀ (k:Nat) (x:AV) (v:Value),(mirror l al)[k]?=some x→a.tmps[k]?=some v→ARel C w x v
 | [],_,_,_,hl=>hl
 | p ::r,l,hlen,hal,hl=>by
  unfold mirror
  refine mirror_rel (al:=r) (by rw [List.length_set];exact hlen) (fun q hq=>hal q (List.mem_cons_of_mem _ hq)) fun k x v hx hv=>?_
  rw [List.getElem?_set] at hx
  by_cases hk:p.1=k
  ·rw [if_pos hk] at hx
   split at hx
   ·have hx':=Option.some.inj hx
    have hlt:k < a.tmps.size:=(Array.getElem?_eq_some_iff.1 hv).1
    have hv':a.tmps.getD k undef=v:=by
     rw [Array.getElem?_eq_getElem hlt] at hv
     cases hv
     simp [Array.getD,hlt]
    have he:=drvOf_rel (slot_of hlen hl) (hal p List.mem_cons_self)
    rw [hk,hv',hx'] at he
    exact he
   ·cases hx
  ·rw [if_neg hk] at hx
   exact hl k x v hx hv
theorem eqNats_of:∀ {l r:List Nat},eqNats l r=true→l=r
 | [],[],_=>rfl
 | [],_ ::_,h=>by cases h
 | _ ::_,[],h=>by cases h
 | a ::l,b ::r,h=>by
  have h':(Nat.beq a b && eqNats l r)=true:=h
  rw [Bool.and_eq_true] at h'
  rw [Nat.eq_of_beq_eq_true h'.1,eqNats_of h'.2]
theorem boxes_same {C:Ctx}:∀ {bs:List Nat} {us vs:List Value},All2 (fun b u=>C.Dm b∧∃ g,C.σ b= .pointer (some ⟨g,0,none⟩)∧u= .pointer (some ⟨g,0,none⟩)) bs us→All2 (fun b u=>C.Dm b∧∃ g,C.σ b= .pointer (some ⟨g,0,none⟩)∧u= .pointer (some ⟨g,0,none⟩)) bs vs→us=vs
 | [],[],[],_,_=>rfl
 | [],[],_ ::_,_,h=>h.elim
 | [],_ ::_,_,h,_=>h.elim
 | _ ::_,[],_,h,_=>h.elim
 | _ ::_,_ ::_,[],_,h=>h.elim
 | b ::bs,u ::us,v ::vs,h1,h2=>by
  obtain ⟨⟨_,g,e1,e2⟩,h3⟩:=h1
  obtain ⟨⟨_,g',e1',e2'⟩,h4⟩:=h2
  rw [e1] at e1'
  cases e1'
  rw [e2,e2',boxes_same h3 h4]
theorem sameRef_rel (h:RelC e Γ C s a w) {i j:Nat} (hs:sameRef (s.get i) (s.get j)=true):a.tmps.getD i undef=a.tmps.getD j undef:=by
 have h1:=fW h i
 have h2:=fW h j
 unfold sameRef at hs
 split at hs
 ·rename_i x y hx hy
  rw [hx] at h1
  rw [hy] at h2
  have:=Nat.eq_of_beq_eq_true hs
  subst this
  exact h1.2.trans h2.2.symm
 ·rename_i hx hy
  rw [hx] at h1
  rw [hy] at h2
  have h1':a.tmps.getD i undef= .slice none 0 0:=h1
  have h2':a.tmps.getD j undef= .slice none 0 0:=h2
  rw [h1',h2']
 ·cases hs
theorem drvChk_rel (h:RelC e Γ C s a w) {i:Nat} {d:Drv} (hs:drvChk s (s.get i) d=true):DrvR a i d:=by
 cases d with
 | same k=>exact sameRef_rel h hs
 | clo f ks=>
  have h1:=fW h i
  simp only [drvChk] at hs
  split at hs
  ·rename_i f' caps hx
   rw [hx] at h1
   rw [Bool.and_eq_true] at hs
   obtain ⟨hf,hs⟩:=hs
   split at hs
   ·rename_i bs hb
    obtain ⟨vs,h2,h3⟩:=h1
    have:=boxesOf_rel (w:=w) (a:=a) (C:=C) (slot_of h.len h.slots) hb
    rw [eqNats_of hs] at this
    show a.tmps.getD i undef=_
    rw [h2,Nat.eq_of_beq_eq_true hf,boxes_same h3 this]
   ·cases hs
  ·cases hs
theorem RelM.nil {D:Nat→Prop} (σ:Nat→Value) (F:Nat→Prop) (ex:Nat→List Nat) (hd:Nat→Nat→Nat→Value) (w:World):RelM D ⟨σ,F,fun _=>False,ex,hd⟩ w []:=
 ⟨fun _ _ h=>(by cases h),fun _ _ _ _ h=>(by cases h),fun _=>⟨fun h=>h.elim,fun h=>by cases h⟩,fun _ h=>h.elim⟩
theorem RelW.fzEq {C':Ctx} (h:RelW e Γ C w) (hF:C'.Fz=C.Fz):RelW e Γ C' w:=
 ⟨h.ch,h.fresh,by rw [hF];exact h.fz,by rw [hF];exact h.fz0,by rw [hF];exact h.lt,by rw [hF];exact h.glob⟩
theorem blks_apart {D:Nat→Prop} {m:aX} {fs os:List Nat} (hm:RelM D C w m) (hlv:Lives m os) (hrows:Rows C m fs) (hdis:∀ o,o∈os→o∉fs):∀ k,k∈bP C os→¬ (C.frz fs).Fz k∧D k:=fun k hk=>by
 obtain ⟨o,ho,hg⟩:=iR.1 hk
 obtain ⟨b,hb,hlb⟩:=hlv o ho
 refine ⟨fun hf=>?_,((hm.blk o b hb).nf hlb hg).2⟩
 rcases (Ctx.frz_Fz fs C k).1 hf with hf | ⟨o',ho',hg'⟩
 ·exact ((hm.blk o b hb).nf hlb hg).1 hf
 ·rcases hrows o' ho' with ⟨b0,b1,hm',hf'⟩ | ⟨t',xs',hm',hz'⟩
  ·exact hm.inj o o' b _ hb hm' hlb (toFrz_live hf') (fun hh=>hdis o ho (hh ▸ ho')) k hg hg'
  ·exact ((hm.blk o b hb).nf hlb hg).1 (hz' k hg')
theorem mkSt_rel {sh:Sh} {x:VS.dens sh.vs} {us:List Value} {bs:List Nat} {n:Nat} (F:Nat→Prop) (hd:a.defers=[]) (hn:n=a.tmps.size) (hp:∀ k,k < Γ.np→a.tmps[k]?=Γ.args[k]?) (hus:us=sh.slots.map fun k=>a.tmps.getD k undef) (hx:VSsR F w sh.vs x us bs)
  (hal:∀ p,p∈sh.al→DrvR a p.1 p.2) (iB:bs.Nodup) (hb:∀ g,g∈bs→¬ F g∧Γ.D g) (hW:∀ C:Ctx,C.Fz=F→RelW e Γ C w):∃ C',RelC e Γ C' (cG n sh x) a w∧(cG n sh x).slots.length=n:=by
 obtain ⟨C',hL,hres,_⟩:=mkVs_rel (D:=Γ.D) (C:=⟨fun _=>undef,F,fun _=>False,fun _=>[],fun _ _ _=>undef⟩) (m:=[]) (n:=0) (RelM.nil _ F _ _ w) hx iB hb (fun _ _ h=>by cases h) (fun _ _ _=>rfl)
 subst hus
 refine ⟨C',⟨hd,?_,?_,hp,hL.rel,hW C' hL.fz⟩,?_⟩
 ·show (mirror (setAll (List.replicate n AV.junk) sh.slots _) sh.al).length=_
  rw [mirror_len,kX,List.length_replicate,hn]
 ·refine mirror_rel (by rw [kX,List.length_replicate];exact hn) hal ?_
  refine setAll_rel (by rw [List.length_replicate];exact hn) hres fun k x v hx _=>?_
  rw [List.getElem?_replicate] at hx
  split at hx
  ·cases hx;trivial
  ·cases hx
 ·show (mirror (setAll (List.replicate n AV.junk) sh.slots _) sh.al).length=_
  rw [mirror_len,kX,List.length_replicate]
theorem lO {sh:Sh} {x:VS.dens sh.vs} {n:Nat} (h:RelC e Γ C s a w) (hn:s.slots.length=n) (hx:exSt sh s=some x):∃ C',RelC e Γ C' (cG n sh x) a w∧(cG n sh x).slots.length=n:=by
 unfold exSt at hx
 split at hx
 ·rename_i as hg
  split at hx
  ·rename_i y fs os he
   cases hs:sep fs os with
   | false=>rw [hs] at hx;cases hx
   | true=>
    rw [hs,Bool.true_and] at hx
    cases hal:sh.al.all (fun p=>drvChk s (s.get p.1) p.2) with
    | false=>rw [hal] at hx;cases hx
    | true=>
    rw [hal] at hx
    cases hx
    obtain ⟨iB,hdis⟩:=sep_of hs
    obtain ⟨h1,h2,h3⟩:=kO h.mem he (lI h hg)
    exact mkSt_rel (C.frz fs).Fz h.defers (hn ▸ h.len) h.par rfl (h3 _ fun _ hk=>hk) (fun p hp=>drvChk_rel h (List.all_eq_true.1 hal p hp)) (eJ h.mem iB h2) (blks_apart h.mem h2 h1 hdis) fun C' hF=>(h.frz h1).W.fzEq hF
  ·cases hx
 ·cases hx
def exOf:Ex→Exit
 | .normal=> .normal
 | .exit id=> .exit id
 | .ret=> .ret
def OutQ (e:Env) (Γ:Actv) (n:Nat) (Q:Exit→Act→World→Prop):(outs:List (Ex×Sh))→outDen outs→Prop
 | [],_=>True
 | [o],y=>∀ C a w,RelC e Γ C (cG n o.2 y) a w→(cG n o.2 y).slots.length=n→Q (exOf o.1) a w
 | o ::o' ::r,y=>match y with
  | .inl z=>∀ C a w,RelC e Γ C (cG n o.2 z) a w→(cG n o.2 z).slots.length=n→Q (exOf o.1) a w
  | .inr z=>OutQ e Γ n Q (o' ::r) z
def gS (P:Program) (e:Env) (np n:Nat) (p:Pc) (c:Code):Prop:=
 ∀ (Γ:Actv) (C:Ctx) (s:St) (a:Act) (w:World) (Q:Exit→Act→World→Prop) (x:VS.dens p.sh.vs) (y:outDen p.outs),Γ.np=np→RelC e Γ C s a w→s.slots.length=n→exSt p.sh s=some x→p.f x=some y→OutQ e Γ n Q p.outs y→c.wp P Q a w
theorem outK_Q {R:Type} {n:Nat} {Q:Exit→Act→World→Prop} {K:Ex→St→Option R} {r:R} (hQ:∀ x s' C' a' w',s'.slots.length=n→RelC e Γ C' s' a' w'→K x s'=some r→Q (exOf x) a' w') :
  ∀ {outs:List (Ex×Sh)} {y:outDen outs},outK n outs y K=some r→OutQ e Γ n Q outs y
 | [],_,_=>trivial
 | [o],y,h=>fun C a w hR hl=>hQ o.1 _ C a w hl hR h
 | o ::o' ::rr,y,h=>by
  cases y with
  | inl z=>exact fun C a w hR hl=>hQ o.1 _ C a w hl hR h
  | inr z=>exact outK_Q hQ (outs:=o' ::rr) (y:=z) h
def Node (P:Program) (e:Env) (np n:Nat) (T:List Pc) (c:Code):Prop:=∀ k p,keyOf c=some k→findPc T k=some p→gS P e np n p c
def Ok (P:Program) (e:Env) (np n:Nat) (T:List Pc):Code→Prop
 | .region id ops d=>Node P e np n T (.region id ops d)
 | .seq a b=>Node P e np n T (.seq a b)∧Ok P e np n T a∧Ok P e np n T b
 | .cond c a b=>Node P e np n T (.cond c a b)∧Ok P e np n T a∧Ok P e np n T b
 | .block _ c=>Ok P e np n T c
 | .loop b=>Node P e np n T (.loop b)
 | _=>True
theorem fQ {R:Type} {T:List Pc} {c:Code} {n:Nat} {K:Ex→St→Option R} {r:R} {o:Option R} {Q:Exit→Act→World→Prop} (hp:pieceK T c s K=some o) (ho:o=some r) (h:RelC e Γ C s a w) (hn:s.slots.length=n)
  (hok:Node P e Γ.np n T c) (hQ:∀ x s' C' a' w',s'.slots.length=n→RelC e Γ C' s' a' w'→K x s'=some r→Q (exOf x) a' w'):c.wp P Q a w:=by
 subst ho
 unfold pieceK at hp
 split at hp
 ·cases hp
 ·split at hp
  ·cases hp
  ·rename_i k hk
   split at hp
   ·cases hp
   ·rename_i p hf
    split at hp
    ·cases hp
    ·rename_i x hx
     have hp':((p.f x).bind fun y=>outK s.slots.length p.outs y K)=some r:=Option.some.inj hp
     obtain ⟨y,hy,hk'⟩:=Option.bind_eq_some_iff.1 hp'
     rw [hn] at hk'
     exact hok k p hk hf Γ C s a w Q x y rfl h hn hx hy (outK_Q hQ hk')
theorem litOpd_same {c:Operand} {b:Bool} (h:bC s c= .v (.one (.bool b))):litOpd s c b=s:=by
 cases c with
 | tmp t=>exact St.lit_same h
 | _=>rfl
theorem evM_sound (hok:EnvOk P e) (hH:∀ g h,H g=some h→jY P e g h):∀ (c:Code) (s s2:St) (C:Ctx) (a:Act) (w:World) (Q:Exit→Act→World→Prop),qM H c=true→fA Γ.np c=true→
  evM e H c s=some s2→RelC e Γ C s a w→(∀ C' a' w',Keep (fT c) s s2→RelC e Γ C' s2 a' w'→Q .normal a' w')→c.wp P Q a w:=by
 intro c
 induction c with
 | skip=>
  intro s s2 C a w Q _ _ hr h hQ
  cases hr
  exact wp_skip (hQ C a w (Keep.refl _ _) h)
 | region id ops d=>
  intro s s2 C a w Q hq hwr hr h hQ
  cases d with
  | true=>cases hq
  | false=>
   refine wp_region ?_
   have:=lB (P:=P) (Q:=Q) hok hH hwr ops.toList 0 0 s C a w (Nat.zero_le _) (fun j o hj=>by rw [Nat.zero_add,← Array.getElem?_toList];exact hj) hq hr h hQ
   rw [Nat.zero_add,Nat.sub_zero,Array.length_toList,← List.range_eq_range'] at this
   exact this
 | seq c1 c2 ih1 ih2=>
  intro s s2 C a w Q hq hwr hr h hQ
  have hwr':(fA Γ.np c1 && fA Γ.np c2)=true:=hwr
  have hq':(qM H c1 && qM H c2)=true:=hq
  rw [Bool.and_eq_true] at hwr' hq'
  unfold evM at hr
  split at hr
  ·rename_i s1 hs1
   refine wp_seq (ih1 s s1 C a w _ hq'.1 hwr'.1 hs1 h fun C' a' w' h1 h2=>?_)
   exact ih2 s1 s2 C' a' w' Q hq'.2 hwr'.2 hr h2 fun C2 a2 w2 g1 g2=>hQ C2 a2 w2 (h1.trans g1) g2
  ·cases hr
 | cond c x y ihx ihy=>
  intro s s2 C a w Q hq hwr hr h hQ
  have hwr':(fA Γ.np x && fA Γ.np y)=true:=hwr
  have hq':(qM H x && qM H y)=true:=hq
  rw [Bool.and_eq_true] at hwr' hq'
  unfold evM at hr
  split at hr
  ·rename_i t ht
   have hv:a.eval c= .bool t:=aU h ht
   split at hr
   ·rename_i s1 s3 hs1 hs3
    split at hr
    ·rename_i l hl
     cases hr
     have hkeep:∀ k,k∉cJ (fT x ++fT y)→l[k]?=s.slots[k]?:=fun k hk=>mergeSl_keep hl hk
     have hres:∀ (sx:St) (C':Ctx) (a':Act) (w':World),sx=(bif t then s1 else s3)→Keep (fT x ++fT y) s sx→RelC e Γ C' sx a' w'→Q .normal a' w':=fun sx C' a' w' hsx hk hrel=>by
      refine hQ C' a' w' ⟨mergeSl_len hl,rfl,hkeep⟩ ⟨hrel.defers,?_,?_,hrel.par,by have:=hrel.mem;rw [hk.mem] at this;exact this,hrel.W⟩
      ·rw [mergeSl_len hl,← hk.len]
       exact hrel.len
      ·exact mergeSl_rel (hsx ▸ hrel) hl fun k x v hk' hx hv=>hrel.slots k x v (by rw [hk.keep k hk'];exact hx) hv
     cases t with
     | true=>
      rw [litOpd_same ht] at hs1
      refine wp_cond hv (ihx s s1 C a w Q hq'.1 hwr'.1 hs1 h fun C' a' w' h1 h2=>hres s1 C' a' w' rfl ⟨h1.len,h1.mem,fun k hk=>h1.keep k (fun hh=>hk ?_)⟩ h2)
      rw [gW]
      exact List.mem_append.2 (.inl hh)
     | false=>
      rw [litOpd_same ht] at hs3
      refine wp_cond hv (ihy s s3 C a w Q hq'.2 hwr'.2 hs3 h fun C' a' w' h1 h2=>hres s3 C' a' w' rfl ⟨h1.len,h1.mem,fun k hk=>h1.keep k (fun hh=>hk ?_)⟩ h2)
      rw [gW]
      exact List.mem_append.2 (.inr hh)
    ·cases hr
   ·cases hr
  ·cases hr
 | _=>
  intro s s2 C a w Q hq
  cases hq
theorem dU {R:Type} {T:List Pc} {n:Nat} {r:R} (hok:EnvOk P e) (hH:∀ g h,H g=some h→jY P e g h):∀ (c:Code) (K:Ex→St→Option R) (s:St) (C:Ctx) (a:Act) (w:World) (Q:Exit→Act→World→Prop),
  Ok P e Γ.np n T c→fA Γ.np c=true→evC e H T c s K=some r→RelC e Γ C s a w→s.slots.length=n→(∀ x s' C' a' w',s'.slots.length=n→RelC e Γ C' s' a' w'→K x s'=some r→Q (exOf x) a' w')→c.wp P Q a w
 | .skip,K,s,C,a,w,Q,_,_,hr,h,hn,hQ=>wp_skip (hQ .normal s C a w hn h hr)
 | .region id ops false,K,s,C,a,w,Q,hT,hwr,hr,h,hn,hQ=>by
  unfold evC at hr
  split at hr
  ·rename_i o ho
   exact fQ ho hr h hn hT hQ
  refine wp_region ?_
  have:=jU (P:=P) (Q:=Q) hok hH hwr ops.toList 0 0 s C a w (Nat.zero_le _) (fun j o hj=>by rw [Nat.zero_add,← Array.getElem?_toList];exact hj) hr h fun s' C' a' w' h1 h2 h3=>hQ .normal s' C' a' w' (h1.trans hn) h2 h3
  rw [Nat.zero_add,Nat.sub_zero,Array.length_toList,← List.range_eq_range'] at this
  exact this
 | .region id ops true,K,s,C,a,w,Q,hT,hwr,hr,h,hn,hQ=>by
  unfold evC at hr
  split at hr
  ·rename_i o ho
   exact fQ ho hr h hn hT hQ
  simp only at hr
  cases hd:drawOk ops.toList with
  | false=>rw [hd] at hr;cases hr
  | true=>
   rw [hd] at hr
   exact draw_sound hok hH hwr hd hr h fun s' C' a' w' h1 h2 h3=>hQ .normal s' C' a' w' (h1.trans hn) h2 h3
 | .seq c1 c2,K,s,C,a,w,Q,hT,hwr,hr,h,hn,hQ=>by
  have hwr':(fA Γ.np c1 && fA Γ.np c2)=true:=hwr
  rw [Bool.and_eq_true] at hwr'
  unfold evC at hr
  split at hr
  ·rename_i o ho
   exact fQ ho hr h hn hT.1 hQ
  refine wp_seq (dU hok hH c1 _ s C a w _ hT.2.1 hwr'.1 hr h hn fun x s' C' a' w' h1 h2 h3=>?_)
  cases x with
  | normal=>exact dU hok hH c2 K s' C' a' w' Q hT.2.2 hwr'.2 h3 h2 h1 hQ
  | exit id=>exact hQ (.exit id) s' C' a' w' h1 h2 h3
  | ret=>exact hQ .ret s' C' a' w' h1 h2 h3
 | .cond c x y,K,s,C,a,w,Q,hT,hwr,hr,h,hn,hQ=>by
  have hwr':(fA Γ.np x && fA Γ.np y)=true:=hwr
  rw [Bool.and_eq_true] at hwr'
  unfold evC at hr
  split at hr
  ·rename_i o ho
   exact fQ ho hr h hn hT.1 hQ
  ·split at hr
   ·rename_i t ht
    have hv:a.eval c= .bool t:=aU h ht
    split at hr
    ·rename_i s2 hs2
     cases hqm:(qM H x && qM H y) with
     | false=>rw [hqm] at hs2;cases hs2
     | true=>
      rw [hqm] at hs2
      exact evM_sound hok hH (.cond c x y) s s2 C a w Q hqm hwr hs2 h fun C' a' w' h1 h2=>hQ .normal s2 C' a' w' (h1.len.trans hn) h2 hr
    ·cases t with
     | true=>exact wp_cond hv (dU hok hH x K s C a w Q hT.2.1 hwr'.1 hr h hn hQ)
     | false=>exact wp_cond hv (dU hok hH y K s C a w Q hT.2.2 hwr'.2 hr h hn hQ)
   ·cases hr
 | .block id c,K,s,C,a,w,Q,hT,hwr,hr,h,hn,hQ=>by
  refine wp_block (dU hok hH c _ s C a w _ hT hwr hr h hn fun x s' C' a' w' h1 h2 h3=>?_)
  cases x with
  | normal=>exact hQ .normal s' C' a' w' h1 h2 h3
  | exit j=>
   show if j=id then _ else _
   by_cases hj:j=id
   ·subst hj
    have h3':(bif Nat.beq j j then K .normal s' else K (.exit j) s')=some r:=h3
    rw [show Nat.beq j j=true from Nat.beq_refl j] at h3'
    rw [if_pos rfl]
    exact hQ .normal s' C' a' w' h1 h2 h3'
   ·have hne:Nat.beq j id=false:=by
     rw [Bool.eq_false_iff]
     exact fun hh=>hj (Nat.eq_of_beq_eq_true hh)
    have h3':(bif Nat.beq j id then K .normal s' else K (.exit j) s')=some r:=h3
    rw [hne] at h3'
    rw [if_neg hj]
    exact hQ (.exit j) s' C' a' w' h1 h2 h3'
  | ret=>exact hQ .ret s' C' a' w' h1 h2 h3
 | .exit id,K,s,C,a,w,Q,_,_,hr,h,hn,hQ=>wp_exit (hQ (.exit id) s C a w hn h hr)
 | .ret,K,s,C,a,w,Q,_,_,hr,h,hn,hQ=>wp_ret (hQ .ret s C a w hn h hr)
 | .loop b,K,s,C,a,w,Q,hT,hwr,hr,h,hn,hQ=>by
  unfold evC at hr
  split at hr
  ·rename_i o ho
   exact fQ ho hr h hn hT hQ
  ·cases hr
 | .rangeFunc _ _ _ _,_,_,_,_,_,_,_,_,hr,_,_,_=>by cases hr
 | .scope _,_,_,_,_,_,_,_,_,hr,_,_,_=>by cases hr
 | .label _,_,_,_,_,_,_,_,_,hr,_,_,_=>by cases hr
 | .goto _,_,_,_,_,_,_,_,_,hr,_,_,_=>by cases hr
 | .refuse _,_,_,_,_,_,_,_,_,hr,_,_,_=>by cases hr
end Go.Ev
