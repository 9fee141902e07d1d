/-
 The abstract evaluator: rows that are owned all the way down: every operation.
-/
import Derived.Test.YtgpjfmjceamonaaGreatDoorEvX5
namespace Go.Ev
variable {P:Program} {e:Env} {H:Nat→Option FH} {Γ:Actv} {C:Ctx} {s:St} {a:Act} {w:World} {o:Oper} {id:Nat} {r:AV×aX}
theorem splitL_rel (h:RelC e Γ C s a w) (hi:fresh s.mem id 1=true):∀ {l l':List Vl} {m1:aX} {us:List Value},fC s.mem id l=some (l',some m1)→All2 (VRel C w) l us→
  ∃ C',RelC e Γ C' ⟨s.slots,m1,s.next⟩ a w∧CLe C C'∧C'.Fz=C.Fz∧All2 (VRel C' w) l' us
 | [],_,_,_,hs,_=>by cases hs
 | _ ::_,_,_,[],_,hl=>hl.elim
 | x ::rr,l',m1,u ::us,hs,hl=>by
  have hrec:(match fC s.mem id rr with
   | some (l,m')=>some (x ::l,m')
   | none=>none)=some (l',some m1)→∃ C',RelC e Γ C' ⟨s.slots,m1,s.next⟩ a w∧CLe C C'∧C'.Fz=C.Fz∧All2 (VRel C' w) l' (u ::us):=fun hq=>by
   split at hq
   ·rename_i l2 m2 h2
    cases hq
    obtain ⟨C',g1,g2,g3,g4⟩:=splitL_rel h hi h2 hl.2
    exact ⟨C',g1,g2,g3,VRel.move g2 (fun _ _ _=>rfl) hl.1,g4⟩
   ·cases hq
  unfold fC at hs
  split at hs
  ·rename_i b i off
   have h1:=Option.some.inj hs
   have h2:eM s.mem id b i off=some m1:=(Prod.mk.inj h1).2
   have h3:=(Prod.mk.inj h1).1
   obtain ⟨C',g1,g2,g3,g4⟩:=takeSub_rel h hi hl.1 h2
   refine ⟨C',g1,g2,g3,?_⟩
   rw [← h3]
   exact ⟨g4,hl.2.imp fun _ _ hh=>VRel.move g2 (fun _ _ _=>rfl) hh⟩
  ·exact hrec hs
theorem fresh_first:∀ {k:Nat} {m:aX} {i:Nat},fresh m i (k+1)=true→fresh m i 1=true:=fun {k m i} h=>by
 have h':((aF m i).isNone && fresh m (i+1) k)=true:=h
 rw [Bool.and_eq_true] at h'
 show ((aF m i).isNone && true)=true
 rw [h'.1]
 rfl
theorem Post.back {C' C2:Ctx} {v:Value} {w':World} (hle:CLe C C') (hF:C'.Fz=C.Fz) (h:Post e Γ C' w r v w' C2):Post e Γ C w r v w' C2:=
 ⟨hle.trans h.le,fun k hf hk=>h.keep k (by rw [hF];exact hf) hk,h.mem,h.val,h.W⟩
theorem op_callSub {h:FH} {c:Call} {f:Operand} {g:Nat} {caps:List Nat} {l l':List Vl} {m1:aX} (hR:RelC e Γ C s a w) (ho:o.op= .call c) (hc:c.callee= .value f) (hf:bC s f= .v (.one (.clo g caps))) (hl:avs s c.args.toList=some l)
  (hs:fC s.mem id l=some (l',some m1)) (hi:fresh s.mem id 8=true) (hcon:jY P e g h) (hr:(callL 7 h (l' ++caps.map fun b=> .one (.pbox b 0)) m1 (id+1)).run=some r):OpDone P e Γ C o a w r:=by
 obtain ⟨vs,hv,hcaps⟩:CRel C w (.clo g caps) (a.eval f):=aU hR hf
 have hcaps':All2 (VRel C w) (caps.map fun b=> .one (.pbox b 0)) vs:=by
  clear hr hf hv
  induction caps generalizing vs with
  | nil=>cases vs with
   | nil=>trivial
   | cons _ _=>exact hcaps.elim
  | cons b r ih=>cases vs with
   | nil=>exact hcaps.elim
   | cons v vs=>exact ⟨hcaps.1,ih vs hcaps.2⟩
 obtain ⟨C',g1,g2,g3,g4⟩:=splitL_rel hR (fresh_first hi) hs (avs_rel hR hl)
 have hargs:=g4.append (hcaps'.imp fun _ _ hh=>VRel.move g2 (fun _ _ _=>rfl) hh)
 obtain ⟨c1,c2⟩:=callL_rel (s:=⟨s.slots,m1,s.next⟩) g1 hcon hargs hr
 have harr:(c.args.map a.eval) ++vs.toArray=(c.args.toList.map a.eval ++vs).toArray:=by
  apply Array.ext'
  simp
 refine .inr (.inr ⟨g,_,?_,c2.mono fun en w' hh=>?_⟩)
 ·unfold execOp
  rw [ho]
  simp only [resolve,hc,Sem.run_bind,hv,Deferred.ofValue,Sem.run_pure,Result.andThen_ok,invoke,Array.empty_append,harr]
  exact c1
 ·obtain ⟨v,C2,e1,hp⟩:=hh
  exact ⟨v,C2,e1,hp.back g2 g3⟩
theorem orEmpty {α:Type} {b:Bool} {l:List α} (h:(b || l.isEmpty)=true):b=true∨l=[]:=by
 cases b with
 | true=>exact .inl rfl
 | false=>exact .inr (List.isEmpty_iff.1 h)
theorem opX_rel (hok:EnvOk P e) (hH:∀ g h,H g=some h→jY P e g h) (h:RelC e Γ C s a w) {t:Tr (AV×aX)} (hx:jO e H o.op id s=some t) (hr:t.run=some r):OpDone P e Γ C o a w r:=by
 generalize hop:o.op=op at hx
 cases op with
 | load E x=>
  simp only [jO] at hx
  split at hx
  rotate_left
  ·cases hx
  rename_i b t' i off hv
  split at hx
  rotate_left
  ·cases hx
  rename_i E' d xs fx hs hb
  cases hx
  split at hr
  rotate_left
  ·cases hr
  rename_i u hu
  replace hr:=aD hr
  have ht:=hr.1
  replace hr:=hr.2
  have:=Ty.eq_of_beq ht
  subst this
  split at hr
  rotate_left
  ·cases hr
  rename_i cs hcs
  split at hr
  rotate_left
  ·cases hr
  rename_i v hav
  cases hr
  exact op_loadD hok h hop hv hb hu hcs hav
 | store E x y=>
  simp only [jO] at hx
  split at hx
  rotate_left
  ·cases hx
  rename_i b t' i off hv
  split at hx
  rotate_left
  ·cases hx
  rename_i E' d xs fx hs hb
  cases hx
  split at hr
  rotate_left
  ·cases hr
  rename_i v u hy hu
  replace hr:=aD hr
  have hq:=hr.1
  replace hr:=hr.2
  simp only [Bool.and_eq_true] at hq
  obtain ⟨⟨q1,q2⟩,⟨q3,q4⟩,q5⟩:=hq
  have:=Ty.eq_of_beq q1
  subst this
  split at hr
  rotate_left
  ·cases hr
  rename_i z os hz
  replace hr:=aD hr
  have iB:=hr.1
  replace hr:=hr.2
  cases hr
  exact op_storeD hok h hop hv hb hy hu (Nat.eq_of_beq_eq_true q2) q3 (Nat.le_of_ble_eq_true q4) (orEmpty q5) hz iB
 | indexAddr R x i=>
  simp only [jO] at hx
  split at hx
  rotate_left
  ·cases hx
  rename_i b hv
  split at hx
  rotate_left
  ·cases hx
  rename_i E' d xs fx hs hb
  cases hx
  split at hr
  rotate_left
  ·cases hr
  rename_i t' k n ht hi
  replace hr:=aD hr
  have hq:=hr.1
  replace hr:=hr.2
  have:=Ty.eq_of_beq hq
  subst this
  replace hr:=bG hr
  have hq:=hr.1
  replace hr:=hr.2
  rw [Bool.and_eq_true] at hq
  cases hr
  obtain ⟨T',hT,hT'⟩:=Option.bind_eq_some_iff.1 ht
  exact op_indexAddrD hok h hop hT hT' hv hb hi (of_decide_eq_true hq.1) (of_decide_eq_true hq.2)
 | makeSlice R l c=>
  simp only [jO] at hx
  split at hx
  rotate_left
  ·cases hx
  rename_i E hR
  split at hx
  rotate_left
  ·cases hx
  rename_i d hd
  cases hx
  replace hr:=aD hr
  have hlc:=hr.1
  replace hr:=hr.2
  split at hr
  rotate_left
  ·cases hr
  rename_i inf hE
  split at hr
  rotate_left
  ·cases hr
  rename_i n hl
  replace hr:=aD hr
  have hq:=hr.1
  replace hr:=hr.2
  rw [Bool.and_eq_true] at hq
  replace hr:=bG hr
  have hn:=hr.1
  replace hr:=hr.2
  rw [Bool.and_eq_true] at hn
  cases hr
  exact op_makeSliceD hok h hop hlc hR hE (Ty.eq_of_beq hq.1) hl hq.2 (of_decide_eq_true hn.1) (of_decide_eq_true hn.2)
 | buildSlice R n parts=>
  simp only [jO] at hx
  split at hx
  rotate_left
  ·cases hx
  rename_i E hR
  split at hx
  rotate_left
  ·cases hx
  rename_i d hd
  cases hx
  split at hr
  rotate_left
  ·cases hr
  rename_i t' hE
  split at hr
  rotate_left
  ·cases hr
  rename_i l hl
  replace hr:=aD hr
  have hq:=hr.1
  replace hr:=hr.2
  simp only [Bool.and_eq_true] at hq
  obtain ⟨⟨q1,q2⟩,q3,q4⟩:=hq
  have:=Ty.eq_of_beq q1
  subst this
  split at hr
  rotate_left
  ·cases hr
  rename_i xs os hp
  replace hr:=aD hr
  have iB:=hr.1
  replace hr:=hr.2
  cases hr
  exact op_buildSliceD hok h hop hR hE hl (Nat.eq_of_beq_eq_true q2) (Nat.le_of_ble_eq_true q3) q4 hp iB
 | convert S D x=>
  simp only [jO] at hx
  split at hx
  rotate_left
  ·cases hx
  rename_i b hv
  split at hx
  rotate_left
  ·cases hx
  rename_i E' xs hb
  cases hx
  split at hr
  rotate_left
  ·cases hr
  rename_i hS hD
  cases hr
  obtain ⟨E,hE1,hE2⟩:=Option.bind_eq_some_iff.1 hS
  exact op_bytes hok h hop hE1 hE2 hD hv hb
 | call c=>
  obtain ⟨cl,args,tys⟩:=c
  cases cl with
  | value f=>
   simp only [jO] at hx
   split at hx
   rotate_left
   ·cases hx
   rename_i g caps hf
   split at hx
   rotate_left
   ·cases hx
   rename_i l hl
   split at hx
   rotate_left
   ·cases hx
   rename_i l' m' hs
   cases hx
   split at hr
   rotate_left
   ·cases hr
   rename_i m1 hg hHg
   replace hr:=aD hr
   have hq:=hr.1
   replace hr:=hr.2
   rw [Bool.and_eq_true] at hq
   exact op_callSub h hop rfl hf hl hs hq.1 (hH g hg hHg) hr
  | builtin bb=>
   cases bb with
   | len=>
    simp only [jO] at hx
    split at hx
    rotate_left
    ·cases hx
    rename_i x hargs
    split at hx
    rotate_left
    ·cases hx
    rename_i b hv
    split at hx
    rotate_left
    ·cases hx
    rename_i E' d xs fx hs hb
    cases hx
    split at hr
    rotate_left
    ·cases hr
    rename_i T hT
    split at hr
    rotate_left
    ·cases hr
    rename_i t' ht
    cases hr
    have h1:=lX hargs
    have h2:=lX hT
    subst h1 h2
    exact op_lenD hok h hop ht hv hb
   | append=>
    simp only [jO] at hx
    split at hx
    rotate_left
    ·cases hx
    rename_i x y T T' hargs hT
    split at hx
    rotate_left
    ·cases hx
    rename_i E hE
    split at hx
    rotate_left
    ·cases hx
    rename_i d hd
    cases hx
    split at hr
    rotate_left
    ·cases hr
    rename_i inf hinf
    split at hr
    rotate_left
    ·cases hr
    rename_i ca cb hxa hya
    split at hr
    rotate_left
    ·cases hr
    rename_i xs os ys os' hxd hyd
    replace hr:=aD hr
    have hq:=hr.1
    replace hr:=hr.2
    simp only [Bool.and_eq_true] at hq
    obtain ⟨⟨q1,q2⟩,q3,q4⟩:=hq
    replace hr:=bG hr
    have hn:=hr.1
    replace hr:=hr.2
    cases hr
    have h1:=lX hargs
    have h2:=lX hT
    have h3:=Nat.eq_of_beq_eq_true q1
    subst h1 h2 h3
    exact op_appendD hok h hop hE hinf (Ty.eq_of_beq q2) hxa hya hxd hyd q4 q3 (of_decide_eq_true hn)
   | _=>cases hx
  | _=>cases hx
 | _=>cases hx
theorem opT1_rel (hok:EnvOk P e) (hH:∀ g h,H g=some h→jY P e g h) (h:RelC e Γ C s a w) (hr:(kJ e H o.op id s).run=some r):OpDone P e Γ C o a w r:=by
 unfold kJ at hr
 split at hr
 ·rename_i t ht
  exact opX_rel hok hH h ht hr
 ·exact opT0_rel hok hH h hr
end Go.Ev
