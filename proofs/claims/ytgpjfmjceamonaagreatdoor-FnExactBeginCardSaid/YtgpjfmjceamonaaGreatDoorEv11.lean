/-
 The abstract evaluator: shapes: what a shape's data is in the machine; how an abstract state's data is taken out and laid anew.
-/
import Derived.Test.YtgpjfmjceamonaaGreatDoorEv9
namespace Go.Ev
variable {P:Program} {e:Env} {Γ:Actv} {C:Ctx} {s:St} {a:Act} {w:World}
def OwnR (Fz:Nat→Prop) (w:World) (E:Nat) (t:Ty) (xs:List t.den) (u:Value):Prop:=
 ∃ cells,w.ownsRow 0 E t.sz u xs.length cells∧RowC Fz w t xs cells
def DeepR (Fz:Nat→Prop) (w:World) (E:Nat) (d:DT) (xs:List d.ty.den) (u:Value) (bs:List Nat):Prop:=
 ∃ b,OwnD Fz w E d xs u b∧bs.Perm b
def CSsR (Fz:Nat→Prop) (w:World):(cs:List CS)→CS.dens cs→List Value→List Nat→Prop
 | [],_,us,bs=>us=[]∧bs=[]
 | .sc t ::r,x,us,bs=>∃ u1 u2,us=u1 ++u2∧KF Fz w t x.1 u1∧CSsR Fz w r x.2 u2 bs
 | .own E t ::r,x,us,bs=>∃ u u2 b2,us=u ::u2∧bs=(bI u).toList ++b2∧OwnR Fz w E t x.1 u∧CSsR Fz w r x.2 u2 b2
 | .deep E d ::r,x,us,bs=>∃ u u2 b1 b2,us=u ::u2∧bs=b1 ++b2∧DeepR Fz w E d x.1 u b1∧CSsR Fz w r x.2 u2 b2
def MapR (es:List (Int×Int)) (ents:List MapEntry):Prop:=All2 (fun (p:Int×Int) (m:MapEntry)=>m.key= .int .i64 p.1∧m.val= .int .i64 p.2) es ents
def VSR (Fz:Nat→Prop) (w:World):(v:VS)→v.den→Value→List Nat→Prop
 | .val t,x,u,bs=>bs=[]∧((t.isSt=true∧∃ arr:Array Value,u= .agg arr∧KF Fz w t x arr.toList)∨(t.isSt=false∧KF Fz w t x [u]))
 | .own E t,x,u,bs=>bs=(bI u).toList∧OwnR Fz w E t x u
 | .eat E t,x,u,bs=>bs=(bI u).toList∧OwnR Fz w E t x u
 | .box T cs off,x,u,bs=>∃ g arr b2,u= .pointer (some ⟨g,off,none⟩)∧bs=g ::b2∧w.heap[g]?=some (.cells arr T (0,0))∧CSsR Fz w cs x arr.toList b2
 | .mp,x,u,bs=>∃ g ents ck,u= .map (some g)∧bs=[g]∧w.heap[g]?=some (.map ents ck)∧(MapR x ents.toList∧Born ents.toList ck)
 | .rc cs,x,u,bs=>∃ arr:Array Value,u= .agg arr∧CSsR Fz w cs x arr.toList bs
 | .deep E d _,x,u,bs=>DeepR Fz w E d x u bs
 | .lent cs,x,u,bs=>∃ arr:Array Value,u= .agg arr∧CSsR Fz w cs x arr.toList bs
def VSsR (Fz:Nat→Prop) (w:World):(vs:List VS)→VS.dens vs→List Value→List Nat→Prop
 | [],_,us,bs=>us=[]∧bs=[]
 | v ::r,x,us,bs=>∃ u u2 b1 b2,us=u ::u2∧bs=b1 ++b2∧VSR Fz w v x.1 u b1∧VSsR Fz w r x.2 u2 b2
theorem OwnR.mono {Fz Fz':Nat→Prop} {E:Nat} {t:Ty} {xs:List t.den} {u:Value} (hF:∀ k,Fz k→Fz' k) (h:OwnR Fz w E t xs u):OwnR Fz' w E t xs u:=by
 obtain ⟨cells,h1,h2⟩:=h
 exact ⟨cells,h1,h2.move hF (fun _ _ _=>rfl)⟩
theorem OwnR.one {Fz:Nat→Prop} {E:Nat} {t:Ty} {xs:List t.den} {u:Value} (h:OwnR Fz w E t xs u):u.oneCell'=true:=by
 obtain ⟨cells,h1,_⟩:=h
 rcases h1.2 with ⟨rfl,_⟩ | ⟨g,cap,cur,rfl,_⟩<;>rfl
theorem OwnD.mono {Fz Fz':Nat→Prop} {E:Nat} {d:DT} {xs:List d.ty.den} {u:Value} {bs:List Nat} (hF:∀ k,Fz k→Fz' k) (h:OwnD Fz w E d xs u bs):OwnD Fz' w E d xs u bs:=by
 obtain ⟨cells,b2,h1,h2,h3⟩:=h
 exact ⟨cells,b2,h1,h2,h3.imp fun _ _ _ _ _ _ hr=>DVH.move hF (fun _ _ _=>rfl) (fun _ _=>rfl) hr⟩
theorem DeepR.mono {Fz Fz':Nat→Prop} {E:Nat} {d:DT} {xs:List d.ty.den} {u:Value} {bs:List Nat} (hF:∀ k,Fz k→Fz' k) (h:DeepR Fz w E d xs u bs):DeepR Fz' w E d xs u bs:=by
 obtain ⟨b,h1,h2⟩:=h
 exact ⟨b,h1.mono hF,h2⟩
theorem DeepR.one {Fz:Nat→Prop} {E:Nat} {d:DT} {xs:List d.ty.den} {u:Value} {bs:List Nat} (h:DeepR Fz w E d xs u bs):u.oneCell'=true:=by
 obtain ⟨b,⟨cells,b2,_,h2,_⟩,_⟩:=h
 rcases h2.2 with ⟨rfl,_⟩ | ⟨g,cap,cur,rfl,_⟩<;>rfl
def bP (C:Ctx) (os:List Nat):List Nat:=os.flatMap C.fp
theorem cY (os os':List Nat):bP C (os ++os')=bP C os ++bP C os':=List.flatMap_append
theorem jE (o:Nat):bP C [o]=C.fp o:=by
 unfold bP
 rw [List.flatMap_cons,List.flatMap_nil,List.append_nil]
theorem fp_ex {i:Nat} (h:C.ex i=[]):C.fp i=(bI (C.σ i)).toList:=by
 unfold Ctx.fp
 rw [h,List.append_nil]
def Lives (m:aX) (os:List Nat):Prop:=∀ o,o∈os→∃ b,aF m o=some b∧gF b=true
theorem Lives.append {m:aX} {os os':List Nat} (h:Lives m os) (h':Lives m os'):Lives m (os ++os'):=fun o ho=>(List.mem_append.1 ho).elim (h o) (h' o)
theorem exOwn_sem {D:Nat→Prop} {m:aX} (hm:RelM D C w m) {E:Nat} {t:Ty} {c:CV} {v:Value} {xs:List t.den} {os:List Nat} (h:bF.exOwn m E t c=some (xs,os)) (hc:CRel C w c v) :
  Lives m os∧bP C os=(bI v).toList∧OwnR C.Fz w E t xs v:=by
 rcases exOwn_rel hm h hc with ⟨_,rfl,rfl,rfl⟩ | ⟨o,_,rfl,hg,hd,rfl⟩
 ·exact ⟨fun _ hh=>(by cases hh),rfl,[],World.ownsRow_nil w 0 E t.sz,fun i y hy=>by simp at hy⟩
 ·obtain ⟨⟨cells,ho,hr,_⟩,hex⟩:=hm.blk o _ hg
  refine ⟨fun o' ho'=>?_,?_,cells,ho,hr⟩
  ·have:=List.mem_singleton.1 ho'
   subst this
   exact ⟨_,hg,rfl⟩
  ·rw [jE,fp_ex hex]
theorem castD_eq {d d':DT} {xs:List d.ty.den} {ys:List d'.ty.den} (h:castD d d' xs=some ys):∃ he:d=d',ys=he ▸ xs:=by
 unfold castD at h
 split at h
 ·rename_i hb
  cases h
  exact ⟨DT.eq_of_beq hb,rfl⟩
 ·cases h
theorem iX {D:Nat→Prop} {m:aX} (hm:RelM D C w m) {E:Nat} {d:DT} {c:CV} {v:Value} {xs:List d.ty.den} {os:List Nat} (h:eH m E d c=some (xs,os)) (hc:CRel C w c v) :
  Lives m os∧DeepR C.Fz w E d xs v (bP C os):=by
 unfold eH at h
 split at h
 ·cases h
  rw [show v=_ from hc]
  exact ⟨fun _ hh=>(by cases hh),[],⟨[],[],rfl,World.ownsRow_nil w 0 E d.ty.sz,rfl,rfl⟩,List.Perm.refl _⟩
 ·rename_i o
  split at h
  ·rename_i E' d' ys fx hg
   cases hq:Nat.beq E' E with
   | false=>rw [hq] at h;cases h
   | true=>
    rw [hq] at h
    have:=Nat.eq_of_beq_eq_true hq
    subst this
    simp only [cond_true] at h
    split at h
    ·rename_i zs hz
     cases h
     obtain ⟨he,rfl⟩:=castD_eq hz
     subst he
     obtain ⟨⟨cells,b2,ho,hel,hp,_⟩,_⟩:=hm.blk o _ hg
     rw [hc.2]
     refine ⟨fun o' ho'=>?_,(bI (C.σ o)).toList ++b2,⟨cells,b2,rfl,ho,hel⟩,?_⟩
     ·have:=List.mem_singleton.1 ho'
      subst this
      exact ⟨_,hg,rfl⟩
     ·rw [jE]
      exact hp.append_left _
    ·cases h
  ·cases h
 ·cases h
theorem RowC.elts {Fz:Nat→Prop} {t:Ty}:∀ {xs:List t.den} {cells:List Value},cells.length=xs.length*t.sz→RowC Fz w t xs cells→∀ k,Elts (fun _=>DVH Fz w [] (.fl t)) k xs cells []
 | [],cells,hl,_,k=>by
  rw [List.length_nil,Nat.zero_mul] at hl
  exact ⟨List.length_eq_zero_iff.1 hl,rfl⟩
 | x ::xs,cells,hl,h,k=>by
  rw [List.length_cons,Nat.succ_mul] at hl
  obtain ⟨es,hk,hc⟩:=h 0 x rfl
  have he:es=cells.take t.sz:=by
   apply List.ext_getElem?
   intro j
   rw [List.getElem?_take]
   have hlen:=hk.len
   by_cases hj:j < t.sz
   ·rw [if_pos hj]
    have:=hc j es[j] (List.getElem?_eq_getElem (by omega))
    rw [Nat.zero_mul,Nat.zero_add] at this
    rw [this,List.getElem?_eq_getElem (by omega)]
   ·rw [if_neg hj,List.getElem?_eq_none (by omega)]
  refine ⟨cells.take t.sz,cells.drop t.sz,[],[],(List.take_append_drop _ _).symm,rfl,⟨he ▸ hk,rfl⟩,RowC.elts (by rw [List.length_drop];omega) (fun i y hy=>?_) (k+1)⟩
  obtain ⟨es',hk',hc'⟩:=h (i+1) y (by simpa using hy)
  refine ⟨es',hk',fun j u hj=>?_⟩
  rw [List.getElem?_drop]
  have:=hc' j u hj
  rw [Nat.succ_mul] at this
  rw [show t.sz+(i*t.sz+j)=i*t.sz+t.sz+j by omega]
  exact this
theorem OwnR.ownD {Fz:Nat→Prop} {E:Nat} {t:Ty} {xs:List t.den} {u:Value} (h:OwnR Fz w E t xs u):OwnD Fz w E (.fl t) xs u (bI u).toList:=by
 obtain ⟨cells,h1,h2⟩:=h
 exact ⟨cells,[],(List.append_nil _).symm,h1,h2.elts h1.1 0⟩
def BkD (Fz:Nat→Prop) (w:World) (u:Value) (bs:List Nat):Bk→Prop
 | .row E t ys=>OwnD Fz w E (.fl t) ys u bs
 | .deep E d ys _ []=>OwnD Fz w E d ys u bs
 | _=>False
theorem dset_rel {Fz:Nat→Prop} {u:Value} {bk:Bk} {bu:List Nat} (hb:BkD Fz w u bu bk):∀ {d:DT} {ho:List (Nat×Value)} {x y:d.ty.den} {cs:List Value} {b:List Nat} {off:Nat},dset d x off bk=some y→(∀ p,p∈ho→p.1≠off)→DVH Fz w ((off,u) ::ho) d x cs b→∃ b',DVH Fz w ho d y cs b'∧b'.Perm (b ++bu)
 | .fl _,_,_,_,_,_,_,h,_,_=>by cases h
 | .st d,ho,x,y,cs,b,off,h,hh,hd=>dset_rel hb (d:=d) (ho:=ho) (x:=x) (y:=y) h hh hd
 | .pair a b,ho,x,y,cs,bs,off,h,hh,hd=>by
  obtain ⟨c1,c2,b1,b2,rfl,rfl,h1,h2⟩:=hd
  simp only [dset] at h
  cases hq:Nat.blt off a.ty.sz with
  | true=>
   rw [hq] at h
   have e1:hoL a.ty.sz ((off,u) ::ho)=(off,u) ::hoL a.ty.sz ho:=by
    unfold hoL
    rw [List.filter_cons,if_pos hq]
   have e2:hoR a.ty.sz ((off,u) ::ho)=hoR a.ty.sz ho:=by
    unfold hoR
    rw [List.filter_cons,if_neg (by rw [hq];simp)]
   rw [e1] at h1
   rw [e2] at h2
   simp only [cond_true] at h
   split at h
   ·rename_i z hz
    cases h
    obtain ⟨b',g1,g2⟩:=dset_rel hb hz (fun p hp=>hh p (List.mem_filter.1 hp).1) h1
    refine ⟨b' ++b2,⟨c1,c2,b',b2,rfl,rfl,g1,h2⟩,?_⟩
    refine (g2.append_right b2).trans ?_
    rw [List.append_assoc,List.append_assoc]
    exact (List.perm_append_comm).append_left b1
   ·cases h
  | false=>
   rw [hq] at h
   have hle:a.ty.sz≤off:=by
    have:¬ off < a.ty.sz:=fun hlt=>by
     rw [show Nat.blt off a.ty.sz=true from Nat.ble_eq_true_of_le hlt] at hq
     cases hq
    omega
   have e1:hoL a.ty.sz ((off,u) ::ho)=hoL a.ty.sz ho:=by
    unfold hoL
    rw [List.filter_cons,if_neg (by rw [hq];simp)]
   have e2:hoR a.ty.sz ((off,u) ::ho)=(off - a.ty.sz,u) ::hoR a.ty.sz ho:=by
    unfold hoR
    rw [List.filter_cons,if_pos (by rw [hq];rfl),List.map_cons]
   rw [e1] at h1
   rw [e2] at h2
   simp only [cond_false] at h
   split at h
   ·rename_i z hz
    cases h
    obtain ⟨b',g1,g2⟩:=dset_rel hb hz (fun p hp=>by
     obtain ⟨q,hq1,rfl⟩:=List.mem_map.1 hp
     obtain ⟨hq2,hq3⟩:=List.mem_filter.1 hq1
     have h3:=hh q hq2
     have h4:a.ty.sz≤q.1:=by
      have:¬ q.1 < a.ty.sz:=fun hlt=>by
       rw [show Nat.blt q.1 a.ty.sz=true from Nat.ble_eq_true_of_le hlt] at hq3
       cases hq3
      omega
     show q.1 - a.ty.sz≠off - a.ty.sz
     omega) h2
    refine ⟨b1 ++b',⟨c1,c2,b1,b',rfl,rfl,h1,g1⟩,?_⟩
    rw [List.append_assoc]
    exact g2.append_left b1
   ·cases h
 | .row E d,ho,x,y,cs,b,off,h,hh,hd=>by
  simp only [dset] at h
  cases hq:Nat.beq off 0 with
  | false=>rw [hq] at h;cases h
  | true=>
   have h0:=Nat.eq_of_beq_eq_true hq
   subst h0
   rw [hq] at h
   simp only [cond_true] at h
   have hnone:hoHere ho=none:=by
    unfold hoHere
    cases hf:ho.find? (fun p=>Nat.beq p.1 0) with
    | none=>rfl
    | some p=>
     have h1:=List.find?_some hf
     exact absurd (Nat.eq_of_beq_eq_true h1) (hh p (List.mem_of_find?_eq_some hf))
   rcases hd with ⟨v,hv,rfl,_,rfl⟩ | ⟨hn,_⟩
   ·have:v=u:=by
     have h2:some u=some v:=hv
     cases h2
     rfl
    subst this
    have key:∀ {d':DT} {ys:List d'.ty.den},OwnD Fz w E d' ys v bu→(he:d'=d)→y=he ▸ ys→∃ b',DVH Fz w ho (.row E d) y [v] b'∧b'.Perm ([] ++bu):=by
     intro d' ys ho' he hy
     subst he
     have hy:y=ys:=hy
     subst hy
     obtain ⟨cells,b2,rfl,g1,g2⟩:=ho'
     exact ⟨_, .inr ⟨hnone,v,cells,b2,rfl,rfl,g1,g2⟩,List.Perm.refl _⟩
    revert h
    cases bk with
    | row E' t ys=>
     cases d with
     | fl t'=>
      intro h
      change (bif Nat.beq E' E then jC t t' ys else none)=some y at h
      cases hE:Nat.beq E' E with
      | false=>rw [hE] at h;cases h
      | true=>
       rw [hE] at h
       have:=Nat.eq_of_beq_eq_true hE
       subst this
       obtain ⟨he,hy⟩:=dO h
       subst he
       exact key hb rfl hy
     | _=>intro h;cases h
    | deep E' d' ys fx hs=>
     cases hs with
     | cons p r=>intro h;cases d<;>cases h
     | nil=>
      intro h
      have h':∃ hE:Nat.beq E' E=true,castD d' d ys=some y:=by
       cases d with
       | fl t=>cases h
       | _=>
        change (bif Nat.beq E' E then castD d' _ ys else none)=some y at h
        cases hE:Nat.beq E' E with
        | false=>rw [hE] at h;cases h
        | true=>rw [hE] at h;exact ⟨rfl,h⟩
      obtain ⟨hE,hc⟩:=h'
      have:=Nat.eq_of_beq_eq_true hE
      subst this
      obtain ⟨he,hy⟩:=castD_eq hc
      exact key hb he hy
    | _=>intro h;cases h
   ·cases hn
theorem Elts.set {α:Type} {R R':Nat→α→List Value→List Nat→Prop} {y:α} {bu:List Nat}:∀ {k:Nat} {xs:List α} {cells:List Value} {b:List Nat} {n:Nat},Elts R k xs cells b→∀ (hn:n < xs.length),(∀ j x c b0,j≠k+n→R j x c b0→R' j x c b0)→
  (∀ c b0,R (k+n) xs[n] c b0→∃ b1,R' (k+n) y c b1∧b1.Perm (b0 ++bu))→∃ b',Elts R' k (xs.set n y) cells b'∧b'.Perm (b ++bu)
 | k,[],_,_,n,_,hn,_,_=>by cases hn
 | k,x ::xs,cells,b,0,h,hn,h1,h2=>by
  obtain ⟨c1,c2,b1,b2,rfl,rfl,g1,g2⟩:=h
  obtain ⟨b',q1,q2⟩:=h2 c1 b1 g1
  have hrest:∀ {k':Nat} {ys:List α} {cs:List Value} {bb:List Nat},k < k'→Elts R k' ys cs bb→Elts R' k' ys cs bb:=by
   intro k' ys
   induction ys generalizing k' with
   | nil=>exact fun _ hh=>hh
   | cons z zs ih=>
    intro cs bb hk hh
    obtain ⟨d1,d2,e1,e2,r1,r2,r3,r4⟩:=hh
    exact ⟨d1,d2,e1,e2,r1,r2,h1 k' z d1 e1 (by omega) r3,ih (by omega) r4⟩
  refine ⟨b' ++b2,⟨c1,c2,b',b2,rfl,rfl,q1,hrest (Nat.lt_succ_self k) g2⟩,?_⟩
  refine (q2.append_right b2).trans ?_
  rw [List.append_assoc,List.append_assoc]
  exact (List.perm_append_comm).append_left b1
 | k,x ::xs,cells,b,n+1,h,hn,h1,h2=>by
  obtain ⟨c1,c2,b1,b2,rfl,rfl,g1,g2⟩:=h
  obtain ⟨b',q1,q2⟩:=Elts.set (R':=R') (y:=y) (bu:=bu) (n:=n) g2 (Nat.lt_of_succ_lt_succ hn) (fun j x c b0 hj hr=>h1 j x c b0 (by omega) hr) (fun c b0 hr=>by
   have:=h2 c b0 (by rw [show k+(n+1)=k+1+n by omega];exact hr)
   rw [show k+(n+1)=k+1+n by omega] at this
   exact this)
  refine ⟨b1 ++b',⟨c1,c2,b1,b',rfl,rfl,h1 k x c1 b1 (by omega) g1,q1⟩,?_⟩
  rw [List.append_assoc]
  exact q2.append_left b1
theorem BkD_of {D:Nat→Prop} {m:aX} (hm:RelM D C w m) {j:Nat} {bk:Bk} (hj:aF m j=some bk) (h:(∃ E t ys,bk= .row E t ys)∨∃ E d ys fx,bk= .deep E d ys fx []):gF bk=true∧∃ b,BkD C.Fz w (C.σ j) b bk∧b.Perm (C.fp j):=by
 rcases h with ⟨E,t,ys,rfl⟩ | ⟨E,d,ys,fx,rfl⟩
 ·obtain ⟨⟨cells,ho,hr,_⟩,hex⟩:=hm.blk j _ hj
  exact ⟨rfl,_,OwnR.ownD ⟨cells,ho,hr⟩,by rw [fp_ex hex]⟩
 ·obtain ⟨⟨cells,b2,ho,hel,hp,_⟩,_⟩:=hm.blk j _ hj
  exact ⟨rfl,_,⟨cells,b2,rfl,ho,hel⟩,(hp.append_left _).symm⟩
theorem dset_kind {bk:Bk}:∀ {d:DT} {x y:d.ty.den} {off:Nat},dset d x off bk=some y→(∃ E t ys,bk= .row E t ys)∨∃ E d ys fx,bk= .deep E d ys fx []
 | .fl _,_,_,_,h=>by cases h
 | .st d,x,y,off,h=>dset_kind (d:=d) (x:=x) (y:=y) h
 | .pair a b,x,y,off,h=>by
  simp only [dset] at h
  cases hq:Nat.blt off a.ty.sz with
  | true=>
   rw [hq] at h
   simp only [cond_true] at h
   split at h
   ·rename_i z hz
    exact dset_kind hz
   ·cases h
  | false=>
   rw [hq] at h
   simp only [cond_false] at h
   split at h
   ·rename_i z hz
    exact dset_kind hz
   ·cases h
 | .row E d,x,y,off,h=>by
  simp only [dset] at h
  cases hq:Nat.beq off 0 with
  | false=>rw [hq] at h;cases h
  | true=>
   rw [hq] at h
   simp only [cond_true] at h
   revert h
   cases bk with
   | row E' t ys=>exact fun _=> .inl ⟨_,_,_,rfl⟩
   | deep E' d' ys fx hs=>
    cases hs with
    | nil=>exact fun _=> .inr ⟨_,_,_,_,rfl⟩
    | cons p r=>intro h;cases d<;>cases h
   | _=>intro h;cases h
theorem foldH_rel {D:Nat→Prop} {m:aX} (hm:RelM D C w m) {d:DT} {cells:List Value}:∀ {hs:List (Int×Nat×Nat)} {xs ys:List d.ty.den} {js b:List Nat},foldH m d xs hs=some (ys,js)→Elts (fun k=>DVH C.Fz w (eW C hs k) d) 0 xs cells b→(hs.map fun p=>p.2.1).Nodup→(∀ p,p∈hs→p.1.toNat < xs.length)→
  Lives m js∧ys.length=xs.length∧∃ b',Elts (fun _=>DVH C.Fz w [] d) 0 ys cells b'∧b'.Perm (b ++bP C js)
 | [],xs,ys,js,b,h,he,_,_=>by
  cases h
  exact ⟨fun _ hh=>(by cases hh),rfl,b,he,by rw [show bP C []=[] from rfl,List.append_nil]⟩
 | (i,off,j) ::r,xs,ys,js,b,h,he,hn,hl=>by
  simp only [foldH] at h
  split at h
  ·rename_i bk hbk
   split at h
   ·rename_i y hy
    split at h
    ·rename_i zs os hf
     cases h
     obtain ⟨hlv,bu,hbu,hpu⟩:=BkD_of hm hbk (dset_kind hy)
     have hil:i.toNat < xs.length:=hl _ List.mem_cons_self
     obtain ⟨hn1,hn2⟩:=List.nodup_cons.1 hn
     have hx:xs.getD i.toNat d.ty.zero=xs[i.toNat]:=by
      rw [List.getD_eq_getElem?_getD,List.getElem?_eq_getElem hil]
      rfl
     rw [hx] at hy
     obtain ⟨b1,g1,g2⟩:=Elts.set (R':=fun k=>DVH C.Fz w (eW C r k) d) (y:=y) (bu:=bu) he hil (fun k x c b0 hk hr=>by
      have e:eW C ((i,off,j) ::r) k=eW C r k:=by
       unfold eW
       rw [List.filter_cons,if_neg (fun hh=>hk (by rw [Nat.zero_add];exact (Nat.eq_of_beq_eq_true hh).symm))]
      rw [e] at hr
      exact hr) (fun c b0 hr=>by
      have e:eW C ((i,off,j) ::r) (0+i.toNat)=(off,C.σ j) ::eW C r (0+i.toNat):=by
       unfold eW
       rw [List.filter_cons,if_pos (by rw [Nat.zero_add];exact Nat.beq_refl _),List.map_cons]
      rw [e] at hr
      exact dset_rel hbu hy (fun p hp hpo=>by
       obtain ⟨q,hq1,rfl⟩:=List.mem_map.1 hp
       exact hn1 (List.mem_map.2 ⟨q,(List.mem_filter.1 hq1).1,hpo⟩)) hr)
     obtain ⟨q1,q2,b',q3,q4⟩:=foldH_rel hm hf g1 hn2 (fun p hp=>by rw [List.length_set];exact hl p (List.mem_cons_of_mem _ hp))
     refine ⟨fun o ho=>?_,by rw [q2,List.length_set],b',q3,q4.trans ?_⟩
     ·rcases List.mem_cons.1 ho with rfl | ho
      ·exact ⟨bk,hbk,hlv⟩
      ·exact q1 o ho
     ·rw [show j ::os=[j] ++os from rfl,cY,jE,← List.append_assoc]
      exact (g2.trans (hpu.append_left b)).append_right _
    ·cases h
   ·cases h
  ·cases h
theorem exFold_sem {D:Nat→Prop} {m:aX} (hm:RelM D C w m) {E:Nat} {d:DT} {c:CV} {v:Value} {xs:List d.ty.den} {os:List Nat} (h:lP m E d c=some (xs,os)) (hc:CRel C w c v) :
  Lives m os∧DeepR C.Fz w E d xs v (bP C os):=by
 unfold lP at h
 split at h
 ·cases h
  rw [show v=_ from hc]
  exact ⟨fun _ hh=>(by cases hh),[],⟨[],[],rfl,World.ownsRow_nil w 0 E d.ty.sz,rfl,rfl⟩,List.Perm.refl _⟩
 ·rename_i o
  split at h
  ·rename_i E' d' ys fx hs hg
   cases hq:Nat.beq E' E with
   | false=>rw [hq] at h;cases h
   | true=>
    rw [hq] at h
    have:=Nat.eq_of_beq_eq_true hq
    subst this
    simp only [cond_true] at h
    split at h
    ·rename_i zs js hz
     split at h
     ·rename_i ws hw
      cases h
      obtain ⟨he,rfl⟩:=castD_eq hw
      subst he
      obtain ⟨⟨cells,b2,ho,hel,hp,_⟩,_,_,_,hn,hl⟩:=hm.blk o _ hg
      obtain ⟨q1,q2,b',q3,q4⟩:=foldH_rel hm hz hel hn hl
      rw [hc.2]
      refine ⟨fun o' ho'=>?_,(bI (C.σ o)).toList ++b',⟨cells,b',rfl,by rw [q2];exact ho,q3⟩,?_⟩
      ·rcases List.mem_cons.1 ho' with rfl | ho'
       ·exact ⟨_,hg,rfl⟩
       ·exact q1 o' ho'
      ·rw [show o ::js=[o] ++js from rfl,cY,jE]
       unfold Ctx.fp
       rw [List.append_assoc]
       exact (((hp.append_right _).trans q4.symm)).append_left _
     ·cases h
    ·cases h
  ·cases h
 ·cases h
theorem frz_mono {os:List Nat} {Fz':Nat→Prop} (h:∀ k,(C.frz os).Fz k→Fz' k):∀ k,C.Fz k→Fz' k:=fun k hk=>h k ((C.frz_le os).Fz k hk)
theorem fK {D:Nat→Prop} {m:aX} (hm:RelM D C w m):∀ {cs:List CS} {l:List CV} {x:CS.dens cs} {fs os:List Nat} {us:List Value},bF m cs l=some (x,fs,os)→All2 (CRel C w) l us→
  Rows C m fs∧Lives m os∧∀ Fz':Nat→Prop,(∀ k,(C.frz fs).Fz k→Fz' k)→CSsR Fz' w cs x us (bP C os)
 | [],[],x,fs,os,[],h,_=>by
  cases h
  exact ⟨fun _ hh=>(by cases hh),fun _ hh=>(by cases hh),fun _ _=>⟨rfl,rfl⟩⟩
 | .sc t ::r,l,x,fs,os,us,h,hc=>by
  have h':(match t.pack m l with
   | some (x,l',fs)=>match bF m r l' with
    | some (y,fs',os)=>some ((x,y),fs ++fs',os)
    | none=>none
   | none=>none)=some (x,fs,os):=by cases l<;>exact h
  split at h'
  ·rename_i x1 l1 f1 hq1
   split at h'
   ·rename_i y1 f2 o2 hq2
    cases h'
    obtain ⟨v1,v2,e1,k1,c1,s1⟩:=fR hm hq1 hc
    obtain ⟨a1,a2,a3⟩:=fK hm hq2 c1
    refine ⟨s1.append a1,a2,fun Fz' hF=>⟨v1,v2,e1,?_,a3 Fz' fun k hk=>hF k (kN k hk)⟩⟩
    exact KF.move (fun k hk=>hF k (frz_left k hk)) (fun _ _ _=>rfl) k1
   ·cases h'
  ·cases h'
 | .own E t ::r,c ::l,x,fs,os,v ::us,h,hc=>by
  simp only [bF] at h
  split at h
  ·rename_i x1 o1 hq1
   split at h
   ·rename_i y1 f2 o2 hq2
    cases h
    obtain ⟨b1,b2,b3⟩:=exOwn_sem hm hq1 hc.1
    obtain ⟨a1,a2,a3⟩:=fK hm hq2 hc.2
    refine ⟨a1,b1.append a2,fun Fz' hF=>⟨v,us,bP C o2,rfl,?_,b3.mono (frz_mono hF),a3 Fz' hF⟩⟩
    rw [cY]
    exact congrArg (· ++_) b2
   ·cases h
  ·cases h
 | .deep E d ::r,c ::l,x,fs,os,v ::us,h,hc=>by
  simp only [bF] at h
  split at h
  ·rename_i x1 o1 hq1
   split at h
   ·rename_i y1 f2 o2 hq2
    cases h
    obtain ⟨b1,b2⟩:=iX hm hq1 hc.1
    obtain ⟨a1,a2,a3⟩:=fK hm hq2 hc.2
    exact ⟨a1,b1.append a2,fun Fz' hF=>⟨v,us,bP C o1,bP C o2,rfl,cY _ _,b2.mono (frz_mono hF),a3 Fz' hF⟩⟩
   ·cases h
  ·cases h
theorem packV_sem {D:Nat→Prop} {m:aX} (hm:RelM D C w m) {t:Ty} {x:Vl} {y:t.den} {fs:List Nat} {v:Value} (h:fS m t x=some (y,fs)) (hv:VRel C w x v) :
  Rows C m fs∧∀ Fz':Nat→Prop,(∀ k,(C.frz fs).Fz k→Fz' k)→VSR Fz' w (.val t) y v []:=by
 unfold fS at h
 cases hq:fS.Bool.beq' t.isSt x.isAgg with
 | false=>rw [hq] at h;cases h
 | true=>
  rw [hq] at h
  simp only [cond_true] at h
  split at h
  ·rename_i y' fs' hp
   cases h
   cases x with
   | one c=>
    have hst:t.isSt=false:=by
     cases ht:t.isSt with
     | false=>rfl
     | true=>rw [ht] at hq;cases hq
    obtain ⟨v1,v2,e1,k1,c1,s1⟩:=fR hm hp (show All2 (CRel C w) [c] [v] from ⟨hv,trivial⟩)
    have hv2:v2=[]:=List.length_eq_zero_iff.1 c1.length.symm
    subst hv2
    rw [List.append_nil] at e1
    subst e1
    exact ⟨s1,fun Fz' hF=>⟨rfl, .inr ⟨hst,KF.move hF (fun _ _ _=>rfl) k1⟩⟩⟩
   | agg cs=>
    have hst:t.isSt=true:=by
     cases ht:t.isSt with
     | true=>rfl
     | false=>rw [ht] at hq;cases hq
    obtain ⟨arr,rfl,h2⟩:=hv
    obtain ⟨v1,v2,e1,k1,c1,s1⟩:=fR hm hp h2
    have hv2:v2=[]:=List.length_eq_zero_iff.1 c1.length.symm
    subst hv2
    rw [List.append_nil] at e1
    subst e1
    exact ⟨s1,fun Fz' hF=>⟨rfl, .inl ⟨hst,arr,rfl,KF.move hF (fun _ _ _=>rfl) k1⟩⟩⟩
  ·cases h
theorem exV_sem {D:Nat→Prop} {m:aX} (hm:RelM D C w m):∀ {v:VS} {l:Vl} {x:v.den} {fs os:List Nat} {u:Value},exV m v l=some (x,fs,os)→VRel C w l u→
  Rows C m fs∧Lives m os∧∀ Fz':Nat→Prop,(∀ k,(C.frz fs).Fz k→Fz' k)→VSR Fz' w v x u (bP C os):=by
 intro v l x fs os u h hv
 cases v with
 | val t=>
  have h':(match fS m t l with
   | some (y,fs)=>some (y,fs,([]:List Nat))
   | none=>none)=some (x,fs,os):=by cases l<;>exact h
  split at h'
  ·rename_i y f hp
   cases h'
   obtain ⟨h1,h2⟩:=packV_sem hm hp hv
   exact ⟨h1,fun _ hh=>(by cases hh),h2⟩
  ·cases h'
 | own E t=>
  cases l with
  | agg cs=>cases h
  | one c=>
   simp only [exV] at h
   split at h
   ·rename_i y o hp
    cases h
    obtain ⟨h1,h2,h3⟩:=exOwn_sem hm hp hv
    exact ⟨fun _ hh=>(by cases hh),h1,fun Fz' hF=>⟨h2,h3.mono (frz_mono hF)⟩⟩
   ·cases h
 | eat E t=>
  cases l with
  | agg cs=>cases h
  | one c=>
   simp only [exV] at h
   split at h
   ·rename_i y o hp
    cases h
    obtain ⟨h1,h2,h3⟩:=exOwn_sem hm hp hv
    exact ⟨fun _ hh=>(by cases hh),h1,fun Fz' hF=>⟨h2,h3.mono (frz_mono hF)⟩⟩
   ·cases h
 | box T cs off=>
  cases l with
  | agg cs'=>cases h
  | one c=>
  cases c<;>first | (cases h;done) | skip
  rename_i b off2
  simp only [exV] at h
  cases hoff:Nat.beq off2 off with
  | false=>rw [hoff] at h;cases h
  | true=>
   have:=Nat.eq_of_beq_eq_true hoff
   subst this
   rw [hoff] at h
   simp only [cond_true] at h
   split at h
   ·rename_i T2 l hg
    cases hq:Nat.beq T2 T with
    | false=>rw [hq] at h;cases h
    | true=>
     rw [hq] at h
     have:=Nat.eq_of_beq_eq_true hq
     subst this
     simp only [cond_true] at h
     split at h
     ·rename_i x1 f1 o1 hq1
      cases h
      obtain ⟨⟨g,arr,hs,hh,ha,_⟩,hex⟩:=hm.blk b _ hg
      obtain ⟨a1,a2,a3⟩:=fK hm hq1 ha
      obtain ⟨_,g',hs',rfl⟩:=hv
      rw [hs] at hs'
      cases hs'
      refine ⟨a1,fun o ho=>?_,fun Fz' hF=>⟨g,arr,bP C o1,rfl,?_,hh,a3 Fz' hF⟩⟩
      ·rcases List.mem_cons.1 ho with rfl | ho
       ·exact ⟨_,hg,rfl⟩
       ·exact a2 o ho
      ·rw [show b ::o1=[b] ++o1 from rfl,cY,jE,fp_ex hex,hs]
       rfl
     ·cases h
   ·cases h
 | mp=>
  cases l with
  | agg cs'=>cases h
  | one c=>
  cases c<;>first | (cases h;done) | skip
  ·rename_i o
   simp only [exV] at h
   split at h
   ·rename_i es hg
    cases h
    obtain ⟨⟨g,ents,ck,hs,hh,ha,_⟩,hex⟩:=hm.blk _ _ hg
    obtain ⟨_,rfl⟩:=hv
    refine ⟨fun _ hh=>(by cases hh),fun o' ho'=>?_,fun Fz' hF=>⟨g,ents,ck,hs,?_,hh,ha⟩⟩
    ·have:=List.mem_singleton.1 ho'
     subst this
     exact ⟨_,hg,rfl⟩
    ·rw [jE,fp_ex hex,hs]
     rfl
   ·cases h
 | rc cs=>
  cases l with
  | one c=>cases h
  | agg l=>
   obtain ⟨arr,rfl,ha⟩:=hv
   obtain ⟨a1,a2,a3⟩:=fK hm h ha
   exact ⟨a1,a2,fun Fz' hF=>⟨arr,rfl,a3 Fz' hF⟩⟩
 | deep E d fx=>
  cases l with
  | agg cs=>cases h
  | one c=>
   simp only [exV] at h
   split at h
   ·rename_i y o hp
    cases h
    obtain ⟨h1,h2⟩:=exFold_sem hm hp hv
    exact ⟨fun _ hh=>(by cases hh),h1,fun Fz' hF=>h2.mono (frz_mono hF)⟩
   ·cases h
 | lent cs=>
  cases l with
  | one c=>cases h
  | agg l=>
   obtain ⟨arr,rfl,ha⟩:=hv
   obtain ⟨a1,a2,a3⟩:=fK hm h ha
   exact ⟨a1,a2,fun Fz' hF=>⟨arr,rfl,a3 Fz' hF⟩⟩
theorem kO {D:Nat→Prop} {m:aX} (hm:RelM D C w m):∀ {vs:List VS} {l:List Vl} {x:VS.dens vs} {fs os:List Nat} {us:List Value},exVs m vs l=some (x,fs,os)→All2 (VRel C w) l us→
  Rows C m fs∧Lives m os∧∀ Fz':Nat→Prop,(∀ k,(C.frz fs).Fz k→Fz' k)→VSsR Fz' w vs x us (bP C os)
 | [],[],x,fs,os,[],h,_=>by
  cases h
  exact ⟨fun _ hh=>(by cases hh),fun _ hh=>(by cases hh),fun _ _=>⟨rfl,rfl⟩⟩
 | v ::r,c ::l,x,fs,os,u ::us,h,hc=>by
  simp only [exVs] at h
  split at h
  ·rename_i x1 f1 o1 hq1
   split at h
   ·rename_i y1 f2 o2 hq2
    cases h
    obtain ⟨b1,b2,b3⟩:=exV_sem hm hq1 hc.1
    obtain ⟨a1,a2,a3⟩:=kO hm hq2 hc.2
    refine ⟨b1.append a1,b2.append a2,fun Fz' hF=>⟨u,us,bP C o1,bP C o2,rfl,?_,b3 Fz' fun k hk=>hF k (frz_left k hk),a3 Fz' fun k hk=>hF k (kN k hk)⟩⟩
    exact cY _ _
   ·cases h
  ·cases h
theorem nodup_of:∀ {os:List Nat},kK os=true→os.Nodup
 | [],_=>List.nodup_nil
 | o ::r,h=>by
  unfold kK at h
  rw [Bool.and_eq_true,Bool.not_eq_true'] at h
  refine List.nodup_cons.2 ⟨fun hm=>?_,nodup_of h.2⟩
  have:r.any (Nat.beq o)=true:=List.any_eq_true.2 ⟨o,hm,Nat.beq_refl o⟩
  rw [h.1] at this
  cases this
theorem sep_of {fs os:List Nat} (h:sep fs os=true):os.Nodup∧∀ o,o∈os→o∉fs:=by
 unfold sep at h
 rw [Bool.and_eq_true,Bool.not_eq_true'] at h
 refine ⟨nodup_of h.1,fun o ho hf=>?_⟩
 have:(os.any fun o=>fs.any (Nat.beq o))=true:=List.any_eq_true.2 ⟨o,ho,List.any_eq_true.2 ⟨o,hf,Nat.beq_refl o⟩⟩
 rw [h.2] at this
 cases this
theorem iR {os:List Nat} {g:Nat}:g∈bP C os↔∃ o,o∈os∧g∈C.fp o:=by
 unfold bP
 rw [List.mem_flatMap]
theorem eJ {D:Nat→Prop} {m:aX} (hm:RelM D C w m):∀ {os:List Nat},os.Nodup→Lives m os→(bP C os).Nodup
 | [],_,_=>List.nodup_nil
 | o ::r,hn,hl=>by
  obtain ⟨h1,h2⟩:=List.nodup_cons.1 hn
  have ih:=eJ hm h2 (fun o' ho'=>hl o' (List.mem_cons_of_mem _ ho'))
  obtain ⟨b,hb,hlb⟩:=hl o List.mem_cons_self
  rw [show o ::r=[o] ++r from rfl,cY,jE]
  refine List.nodup_append.2 ⟨(hm.blk o b hb).nod hlb,ih,fun g hg g' hg' hgg=>?_⟩
  subst hgg
  obtain ⟨o',ho',hgo'⟩:=iR.1 hg'
  obtain ⟨b',hb',hlb'⟩:=hl o' (List.mem_cons_of_mem _ ho')
  exact hm.inj o o' b b' hb hb' hlb hlb' (fun hh=>h1 (hh ▸ ho')) g hg hgo'
end Go.Ev
