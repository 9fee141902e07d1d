/-
 The abstract evaluator: a row of data from a place on; a row put where one was taken out; a row that grows out of an element.
-/
import Derived.Test.YtgpjfmjceamonaaGreatDoorEvX9
namespace Go.Ev
variable {P:Program} {e:Env} {H:Nat→Option FH} {Γ:Actv} {C:Ctx} {s s2:St} {a:Act} {w:World} {o:Oper} {id:Nat} {r:AV×aX}
theorem KF.drop {Fz:Nat→Prop} {t:Ty} {xs:List t.den} {A:Option Addr} {l c n:Nat} (h:KF Fz w (.row t) xs [.slice A l c]) (hn:n≤xs.length):l=xs.length∧n≤c∧KF Fz w (.row t) (xs.drop n) [.slice (if c=n then A else A.map (·.add (n*t.sz))) (l - n) (c - n)]:=by
 obtain ⟨A',c',e1,h1,h2,h3⟩:=h
 rw [List.cons.injEq,Value.slice.injEq] at e1
 obtain ⟨⟨rfl,rfl,rfl⟩,-⟩:=e1
 refine ⟨rfl,by omega,_,c - n,by rw [List.length_drop],by rw [List.length_drop];omega,fun hA=>?_,fun i x hi=>?_⟩
 ·by_cases hc:c=n
  ·omega
  ·rw [if_neg hc,Option.map_eq_none_iff] at hA
   have:=h2 hA
   omega
 ·rw [List.getElem?_drop] at hi
  have hlt:=(List.getElem?_eq_some_iff.1 hi).1
  obtain ⟨ad,es,rfl,g1,g2,g3⟩:=h3 (n+i) x hi
  refine ⟨ad.add (n*t.sz),es,by rw [if_neg (by omega)];rfl,by rw [iP];exact g1,g2,fun j u hj=>?_⟩
  rw [add_add,show n*t.sz+(i*t.sz+j)=(n+i)*t.sz+j by rw [Nat.add_mul];omega]
  exact g3 j u hj
theorem op_sliceLo (hok:EnvOk P e) {R E0:Nat} {x lo:Operand} {t:Ty} {xs:List t.den} {n:Int} (h:RelC e Γ C s a w) (ho:o.op= .slice R x (some lo) none none) (hR:bL e.els R=some E0) (hE0:e.ty E0=some t) (hx:bC s x= .v (.one (.fz t xs))) (hn:bC s lo= .v (.one (.int .i64 n)))
  (h0:0≤n) (h1:n≤(xs.length:Int)):OpDone P e Γ C o a w (.v (.one (.fz t (xs.drop n.toNat))),s.mem):=by
 have hu:=hok.el R E0 hR
 obtain ⟨inf,hinf,hit⟩:=cR hE0
 obtain ⟨it,d,z,q1,_,_,q4,_⟩:=(hok.ty E0 inf hinf).out
 rw [hit] at q4
 have e2:a.eval lo= .int .i64 n:=aU h hn
 have hk:KF C.Fz w (.row t) xs [a.eval x]:=aU h hx
 have hk0:=hk
 obtain ⟨A,c,e1,_⟩:=hk0
 have e1:a.eval x= .slice A xs.length c:=List.head_eq_of_cons_eq e1
 rw [e1] at hk
 obtain ⟨_,g2,g3⟩:=hk.drop (n:=n.toNat) (by omega)
 refine bM (X:=Instr.sliceAt R (a.eval x) (some (a.eval lo)) none none) (by unfold execOp;rw [ho];rfl) (v:= .slice (if c=n.toNat then A else A.map (·.add (n.toNat*t.sz))) (xs.length - n.toNat) (c - n.toNat)) (w':=w) ?_ (Post.same h g3)
 rw [e1,e2]
 simp only [Instr.sliceAt,Instr.slice,Instr.sliceBounds,Instr.sliceBound,asIntOf,Sem.run_bind,run_underlying hu,Result.andThen_ok,Sem.run_pure,sizeOf,typeInfo,run_program,q1]
 rw [if_pos ⟨h0,h1⟩]
 simp only [Sem.run_pure,Result.andThen_ok,q4]
theorem dput_hole {D:Nat→Prop} {m:aX} (hm:RelM D C w m):∀ {d:DT} {x y:d.ty.den} {off:Nat} {c:CV} {os:List Nat} {cells:List Value×List Nat} {u v:Value},
  dput m false d x off [c]=some (y,os)→off < d.ty.sz→DVH C.Fz w [(off,u)] d x cells.1 cells.2→CRel C w c v→
  Lives m os∧∃ b' rest,DVH C.Fz w [] d y (spl cells.1 off [v]) b'∧(b' ++rest).Perm (cells.2 ++bP C os)
 | .fl t,x,y,off,c,os,cells,u,v,h,hlt,hd,hc=>by
  obtain ⟨h1,h2,_⟩:=iA (d:= .fl t) (ho:=[]) hm h (.inr rfl) hd (vs:=[v]) ⟨hc,trivial⟩ (.inr hlt)
  exact ⟨h1,h2⟩
 | .st d,x,y,off,c,os,cells,u,v,h,hlt,hd,hc=>dput_hole hm (d:=d) (x:=x) (y:=y) (cells:=cells) (u:=u) h hlt hd hc
 | .pair p q,x,y,off,c,os,cells,u,v,h,hlt,hd,hc=>by
  obtain ⟨c1,c2,b1,b2,e1,e2,h1,h2⟩:=hd
  have hl:c1.length=p.ty.sz:=h1.len
  have hlt':off < p.ty.sz+q.ty.sz:=hlt
  simp only [dput] at h
  split at h
  rotate_left
  ·cases h
  rename_i y1 os1 hy1
  split at h
  rotate_left
  ·cases h
  rename_i y2 os2 hy2
  cases h
  rw [e1,e2,spl_app hl,cY]
  by_cases ho:off < p.ty.sz
  ·have ht:[c].take (p.ty.sz - off)=[c]:=List.take_of_length_le (by simp;omega)
   have hdr:[c].drop (p.ty.sz - off)=[]:=List.drop_of_length_le (by simp;omega)
   have htv:[v].take (p.ty.sz - off)=[v]:=List.take_of_length_le (by simp;omega)
   have hdv:[v].drop (p.ty.sz - off)=[]:=List.drop_of_length_le (by simp;omega)
   rw [ht] at hy1
   rw [hdr] at hy2
   rw [htv,hdv]
   have hb:Nat.blt off p.ty.sz=true:=Nat.ble_eq_true_of_le ho
   have eL:hoL p.ty.sz [(off,u)]=[(off,u)]:=by
    unfold hoL
    rw [List.filter_cons,if_pos hb]
    rfl
   have eR:hoR p.ty.sz [(off,u)]=[]:=by
    unfold hoR
    rw [List.filter_cons,if_neg (by rw [hb];exact Bool.false_ne_true)]
    rfl
   rw [eL] at h1
   rw [eR] at h2
   obtain ⟨g1,b1',r1,g2,g3⟩:=dput_hole hm (cells:=(c1,b1)) hy1 ho h1 hc
   obtain ⟨k1,⟨b2',r2,k2,k3⟩,_⟩:=iA hm (vs:=[]) hy2 (.inr rfl) h2 trivial (.inl rfl)
   exact ⟨g1.append k1,b1' ++b2',r1 ++r2,⟨_,_,b1',b2',rfl,rfl,g2,k2⟩,perm_mix g3 k3⟩
  ·have hz:p.ty.sz - off=0:=by omega
   rw [hz,List.take_zero] at hy1
   rw [hz,List.drop_zero] at hy2
   rw [hz,List.take_zero,List.drop_zero]
   have hb:Nat.blt off p.ty.sz=false:=by
    rw [Bool.eq_false_iff]
    intro hh
    exact ho (Nat.le_of_ble_eq_true hh)
   have eL:hoL p.ty.sz [(off,u)]=[]:=by
    unfold hoL
    rw [List.filter_cons,if_neg (by rw [hb];exact Bool.false_ne_true)]
    rfl
   have eR:hoR p.ty.sz [(off,u)]=[(off - p.ty.sz,u)]:=by
    unfold hoR
    rw [List.filter_cons,if_pos (by rw [hb];rfl)]
    rfl
   rw [eL] at h1
   rw [eR] at h2
   obtain ⟨k1,⟨b1',r1,k2,k3⟩,_⟩:=iA hm (vs:=[]) hy1 (.inr rfl) h1 trivial (.inl rfl)
   obtain ⟨g1,b2',r2,g2,g3⟩:=dput_hole hm (cells:=(c2,b2)) hy2 (by omega) h2 hc
   exact ⟨k1.append g1,b1' ++b2',r1 ++r2,⟨_,_,b1',b2',rfl,rfl,k2,g2⟩,perm_mix k3 g3⟩
 | .row E d,x,y,off,c,os,cells,u,v,h,hlt,hd,hc=>by
  have h0:off=0:=by
   have:off < 1:=hlt
   omega
  subst h0
  have h':takeRow m E d c=some (y,os):=h
  obtain ⟨g1,b',⟨cl,b2,rfl,g2,g3⟩,g4⟩:=takeRow_rel hm h' hc
  rcases hd with ⟨v0,_,e1,_,e2⟩ | ⟨hn,_⟩
  ·refine ⟨g1,_,[], .inr ⟨rfl,v,cl,b2,?_,rfl,g2,g3⟩,?_⟩
   ·rw [e1]
    rfl
   ·rw [e2,List.append_nil,List.nil_append]
    exact g4.symm
  ·cases hn
theorem op_storeH (hok:EnvOk P e) {E E' b off j:Nat} {x y:Operand} {i:Int} {d:DT} {xs:List d.ty.den} {c:CV} {t:Ty} {z:d.ty.den} {os:List Nat} (h:RelC e Γ C s a w) (ho:o.op= .store E x y)
  (hx:bC s x= .v (.one (.pel b d.ty i off))) (hb:aF s.mem b=some (.deep E' d xs true [(i,off,j)])) (hy:bC s y= .v (.one c)) (ht:e.ty E=some (.row t)) (hj:cU [c]=true) (hle:off+1≤d.ty.sz)
  (hp:dput s.mem false d (xs.getD i.toNat d.ty.zero) off [c]=some (z,os)) (iB:kK (b ::os)=true):OpDone P e Γ C o a w (jJ,aI (dG s.mem os) b (.deep E' d (xs.set i.toNat z) false [])):=by
 refine op_storeG (hs:=[(i,off,j)]) (hs':=[]) (fx':=false) hok h ho hx hb hy ht rfl hj hle (fun {ct bs vs} hd hc=>?_) (fun k hk=>?_) (fun _ hh=>by cases hh) List.nodup_nil (fun hh=>by cases hh) iB
 ·match vs,hc with
  | [v],hc=>
   have e1:eW C [(i,off,j)] i.toNat=[(off,C.σ j)]:=by
    unfold eW
    rw [List.filter_cons,if_pos (Nat.beq_refl _)]
    rfl
   rw [e1] at hd
   obtain ⟨g1,b',rest,g2,g3⟩:=dput_hole h.mem (cells:=(ct,bs)) hp (by omega) hd hc.1
   exact ⟨g1,⟨b',rest,g2,g3⟩,fun hh=>by cases hh⟩
 ·unfold eW
  rw [List.filter_cons,if_neg (fun hh=>hk (Nat.eq_of_beq_eq_true hh).symm)]
theorem RelC.setSlot {k:Nat} {x:AV} (h:RelC e Γ C s a w) (hx:∀ v,a.tmps[k]?=some v→ARel C w x v):RelC e Γ C ⟨s.slots.set k x,s.mem,s.next⟩ a w:=by
 refine ⟨h.defers,by rw [List.length_set];exact h.len,fun j y v hj hv=>?_,h.par,h.mem,h.W⟩
 rw [List.getElem?_set] at hj
 split at hj
 ·rename_i hkj
  subst hkj
  split at hj
  ·cases hj
   exact hx v hv
  ·cases hj
 ·exact h.slots j y v hj hv
theorem OpDone.back {C':Ctx} (hle:CLe C C') (hF:C'.Fz=C.Fz) (h:OpDone P e Γ C' o a w r):OpDone P e Γ C o a w r:=by
 rcases h with ⟨v,w',C2,h1,h2⟩ | ⟨w',C2,h1,h2⟩ | ⟨f,args,h1,h2⟩
 ·exact .inl ⟨v,w',C2,h1,h2.back hle hF⟩
 ·exact .inr (.inl ⟨w',C2,h1,h2.back hle hF⟩)
 ·refine .inr (.inr ⟨f,args,h1,h2.mono fun en w' hh=>?_⟩)
  obtain ⟨v,C2,e1,hp⟩:=hh
  exact ⟨v,C2,e1,hp.back hle hF⟩
theorem get_some {k:Nat} {x:AV} (h:s.get k=x) (hx:x≠AV.junk):s.slots[k]?=some x:=by
 unfold St.get at h
 rw [List.getD_eq_getElem?_getD] at h
 cases hq:s.slots[k]? with
 | none=>rw [hq] at h;exact absurd h.symm hx
 | some y=>rw [hq] at h;exact congrArg some h
theorem op_appendSub (hok:EnvOk P e) (hH:∀ g h,H g=some h→jY P e g h) {k b off:Nat} {i:Int} {m1:aX} (h:RelC e Γ C s a w) (hk:s.get k= .v (.one (.sub b i off))) (ht:eM s.mem (id+1) b i off=some m1) (hi:fresh s.mem id 2=true)
  (hr:(kJ e H o.op id ⟨s.slots.set k (.v (.one (.own (id+1)))),m1,s.next⟩).run=some r):OpDone P e Γ C o a w r:=by
 have hs:=get_some hk (by intro hh;cases hh)
 have hlt:=(List.getElem?_eq_some_iff.1 hs).1
 obtain ⟨u,hv⟩:∃ u,a.tmps[k]?=some u:=⟨_,Array.getElem?_eq_getElem (by rw [← h.len];exact hlt)⟩
 have hc:CRel C w (.sub b i off) u:=h.slots k _ _ hs hv
 have hi':fresh s.mem (id+1) 1=true:=by
  have:((aF s.mem id).isNone && fresh s.mem (id+1) 1)=true:=hi
  rw [Bool.and_eq_true] at this
  exact this.2
 obtain ⟨C',g1,g2,g3,g4⟩:=takeSub_rel h hi' hc ht
 have g5:RelC e Γ C' ⟨s.slots.set k (.v (.one (.own (id+1)))),m1,s.next⟩ a w:=RelC.setSlot (s:=⟨s.slots,m1,s.next⟩) g1 (fun v hv'=>by
  rw [hv] at hv'
  cases hv'
  exact g4)
 exact (opT1_rel hok hH g5 hr).back g2 g3
theorem opY_rel (hok:EnvOk P e) (hH:∀ g h,H g=some h→jY P e g h) (h:RelC e Γ C s a w) {t:Tr (AV×aX)} (hx:opY e H o.op id s=some t) (hr:t.run=some r):OpDone P e Γ C o a w r:=by
 generalize hop:o.op=op at hx
 cases op with
 | slice R x lo hi mx=>
  cases lo<;>cases hi<;>cases mx<;>first | (cases hx;done) | skip
  rename_i lo
  simp only [opY] at hx
  split at hx
  rotate_left
  ·cases hx
  rename_i t0 xs hv
  cases hx
  split at hr
  rotate_left
  ·cases hr
  rename_i t' n ht hn
  obtain ⟨hq,hr⟩:=aD hr
  have:=Ty.eq_of_beq hq
  subst this
  obtain ⟨hq,hr⟩:=bG hr
  rw [Bool.and_eq_true] at hq
  cases hr
  obtain ⟨E0,hR,hE0⟩:=Option.bind_eq_some_iff.1 ht
  exact op_sliceLo hok h hop hR hE0 hv hn (of_decide_eq_true hq.1) (of_decide_eq_true hq.2)
 | store E x y=>
  simp only [opY] at hx
  split at hx
  rotate_left
  ·cases hx
  rename_i b t' i off hv
  split at hx
  rotate_left
  ·cases hx
  rename_i E' d xs i2 off2 j hb
  cases hq:Nat.beq off2 off with
  | false=>rw [hq] at hx;cases hx
  | true=>
  rw [hq] at hx
  have:=Nat.eq_of_beq_eq_true hq
  subst this
  cases hx
  split at hr
  rotate_left
  ·cases hr
  rename_i c u hy hu
  replace hr:=aD hr
  have hq:=hr.1
  replace hr:=hr.2
  simp only [Bool.and_eq_true] at hq
  obtain ⟨q1,q2,q3⟩:=hq
  have:=Ty.eq_of_beq q1
  subst this
  split at hr
  rotate_left
  ·cases hr
  rename_i z os hz
  replace hr:=aD hr
  have iB:=hr.1
  replace hr:=hr.2
  replace hr:=bG hr
  have hi:=hr.1
  replace hr:=hr.2
  have:=eq_of_beq hi
  subst this
  cases hr
  exact op_storeH hok h hop hv hb hy hu q2 (Nat.le_of_ble_eq_true q3) hz iB
 | call c=>
  simp only [opY] at hx
  split at hx
  rotate_left
  ·cases hx
  split at hx
  rotate_left
  ·cases hx
  rename_i b i off hk
  split at hx
  rotate_left
  ·cases hx
  rename_i m1 ht
  cases hx
  obtain ⟨hi,hr⟩:=aD hr
  rw [← hop] at hr
  exact op_appendSub hok hH h hk ht hi hr
 | _=>cases hx
theorem opT_rel (hok:EnvOk P e) (hH:∀ g h,H g=some h→jY P e g h) (h:RelC e Γ C s a w) (hr:(opT e H o.op id s).run=some r):OpDone P e Γ C o a w r:=by
 unfold opT at hr
 split at hr
 ·rename_i t ht
  exact opY_rel hok hH h ht hr
 ·exact opT1_rel hok hH h hr
theorem get_lt {k:Nat} {x:AV} (h:s.get k=x) (hx:x≠AV.junk):k < s.slots.length:=(List.getElem?_eq_some_iff.1 (get_some h hx)).1
theorem opY_congr {o:Op} (h:∀ x,x∈o.operands→bC s2 x=bC s x) (hm:s2.mem=s.mem):opY e H o id s2=opY e H o id s:=by
 cases o<;>simp only [Op.operands] at h
 case slice R x lo hi mx=>
  cases lo<;>cases hi<;>cases mx<;>first | rfl | skip
  rename_i lo
  simp only [opY,hm,h x (by simp),h lo (by simp)]
 case store E x y=>simp only [opY,hm,h x (by simp),h y (by simp)]
 case call c=>
  simp only [opY]
  split
  ·rename_i k y hc hargs
   have hops:c.operands.toList=[.tmp k,y]:=by simp [Call.operands,hc,hargs]
   have h':∀ x,x∈[Operand.tmp k,y]→bC s2 x=bC s x:=fun x hx=>h x (by rw [← Array.mem_toList_iff,hops];exact hx)
   have hk:s2.get k=s.get k:=h' (.tmp k) (by simp)
   rw [hk,hm]
   split
   ·rename_i b i off hq
    split
    ·rename_i m1 ht
     congr 2
     refine opT1_congr (fun x hx=>?_) rfl
     have hx':x∈[Operand.tmp k,y]:=by
      rw [← hops,Array.mem_toList_iff]
      exact hx
     have hsame:=h' x hx'
     cases x with
     | tmp j=>
      show (List.getD _ _ _)=List.getD _ _ _
      have l1:=get_lt (hk.trans hq) (by intro hh;cases hh)
      have l2:=get_lt hq (by intro hh;cases hh)
      by_cases hj:k=j
      ·subst hj
       rw [List.getD_eq_getElem?_getD,List.getD_eq_getElem?_getD,List.getElem?_set_self l1,List.getElem?_set_self l2]
      ·rw [List.getD_eq_getElem?_getD,List.getD_eq_getElem?_getD,List.getElem?_set_ne hj,List.getElem?_set_ne hj,← List.getD_eq_getElem?_getD,← List.getD_eq_getElem?_getD]
       exact hsame
     | const v=>rfl
     | global g=>rfl
     | func f=>rfl
    ·rfl
   ·rfl
  ·rfl
 all_goals rfl
theorem opT_congr {o:Op} {id:Nat} (h:∀ x,x∈o.operands→bC s2 x=bC s x) (hm:s2.mem=s.mem):opT e H o id s2=opT e H o id s:=by
 unfold opT
 rw [opY_congr h hm,opT1_congr h hm]
theorem opY_pure {o:Op} (hp:aV o=true):opY e H o id s=none:=by
 cases o<;>first | rfl | (cases hp;done) | skip
 rename_i c
 obtain ⟨cl,args,tys⟩:=c
 cases cl with
 | builtin b=>cases b<;>first | rfl | (cases hp;done)
 | value f=>rfl
 | invoke _ _=>rfl
theorem opT_pure {o:Op} {id id2:Nat} {r:AV×aX} (hp:aV o=true) (hr:(opT e H o id s).run=some r) (h:∀ x,x∈o.operands→bC s2 x=bC s x) (hm:∀ b,b∈eN o s→aF s2.mem b=aF s.mem b) :
  (opT e H o id2 s2).run=some (r.1,s2.mem)∧r.2=s.mem:=by
 unfold opT at hr ⊢
 rw [opY_pure hp] at hr ⊢
 exact opT1_pure hp hr h hm
theorem opY_keep {o:Op} {t:Tr (AV×aX)} {r:AV×aX} (hp:aV o=false) (hx:opY e H o id s=some t) (hr:t.run=some r) {k:Nat} (hk:k∉cA o s id):aF r.2 k=aF s.mem k:=by
 have hk0:=hk
 unfold cA at hk
 rw [List.mem_append,not_or] at hk
 obtain ⟨hk1,hk2⟩:=hk
 have hid:=ids8 hk1
 have hop:∀ x,x∈o.operands→k∉av2 s.mem (bC s x):=fun x hx hh=>hk2 (List.mem_flatMap.2 ⟨x,by simpa using hx,hh⟩)
 cases o<;>first | (cases hp;done) | (cases hx;done) | skip
 case slice R x lo hi mx=>
  cases lo<;>cases hi<;>cases mx<;>first | (cases hx;done) | skip
  simp only [opY] at hx
  split at hx
  rotate_left
  ·cases hx
  cases hx
  split at hr
  rotate_left
  ·cases hr
  replace hr:=(aD hr).2
  replace hr:=(bG hr).2
  cases hr
  rfl
 case store E x y=>
  simp only [opY] at hx
  split at hx
  rotate_left
  ·cases hx
  rename_i b t' i off hv
  split at hx
  rotate_left
  ·cases hx
  rename_i E' d xs i2 off2 j hb
  cases hq:Nat.beq off2 off with
  | false=>rw [hq] at hx;cases hx
  | true=>
  rw [hq] at hx
  cases hx
  split at hr
  rotate_left
  ·cases hr
  rename_i c u hy hu
  replace hr:=(aD hr).2
  split at hr
  rotate_left
  ·cases hr
  rename_i z os hz
  replace hr:=(aD hr).2
  replace hr:=(bG hr).2
  cases hr
  have h1:=hop x (by simp [Op.operands])
  have h2:=hop y (by simp [Op.operands])
  rw [hv] at h1
  rw [hy] at h2
  rw [aG,if_neg (fun hh=>h1 (lR (by simp [dV,hh])))]
  exact gG fun hh=>h2 (dF (kQ hz k hh))
 case call c=>
  simp only [opY] at hx
  split at hx
  rotate_left
  ·cases hx
  rename_i k0 y hc hargs
  split at hx
  rotate_left
  ·cases hx
  rename_i b i off hk0'
  split at hx
  rotate_left
  ·cases hx
  rename_i m1 ht
  cases hx
  replace hr:=aD hr
  have hi:=hr.1
  replace hr:=hr.2
  have hnone:aF s.mem (id+1)=none:=by
   have:((aF s.mem id).isNone && fresh s.mem (id+1) 1)=true:=hi
   rw [Bool.and_eq_true] at this
   exact dR this.2
  obtain ⟨g1,g2⟩:=takeSub_keep ht
  have hops:c.operands.toList=[.tmp k0,y]:=by simp [Call.operands,hc,hargs]
  have hkid:k≠id+1:=by omega
  have hkb:k≠b:=fun hh=>by
   have:=hop (.tmp k0) (by show _∈c.operands;rw [← Array.mem_toList_iff,hops];simp)
   rw [show bC s (.tmp k0)=_ from hk0'] at this
   exact this (lR (by simp [dV,hh]))
  have hcv:∀ c,k∈cv2 m1 c→k∈cv2 s.mem c:=fun c hh=>by
   rcases List.mem_append.1 hh with hh | hh
   ·exact List.mem_append.2 (.inl hh)
   ·obtain ⟨b,hb,hkb⟩:=List.mem_flatMap.1 hh
    exact List.mem_append.2 (.inr (List.mem_flatMap.2 ⟨b,hb,(g2 b k hkb).resolve_left hkid⟩))
  rw [opT1_keep hp hr (k:=k) ?_]
  ·exact g1 k hkid hkb
  ·unfold cA
   rw [List.mem_append,not_or]
   refine ⟨hk1,fun hh=>?_⟩
   obtain ⟨x,hx,hh⟩:=List.mem_flatMap.1 hh
   have hx':x∈(Op.call c).operands:=Array.mem_toList_iff.1 hx
   have hxo:=hop x hx'
   by_cases hxk:bC ⟨s.slots.set k0 (.v (.one (.own (id+1)))),m1,s.next⟩ x=bC s x
   ·rw [hxk] at hh
    refine hxo ?_
    cases hq:bC s x with
    | tup l=>rw [hq] at hh;cases hh
    | v vl=>
     rw [hq] at hh
     obtain ⟨c',hc',hh⟩:=List.mem_flatMap.1 hh
     exact List.mem_flatMap.2 ⟨c',hc',hcv c' hh⟩
   ·have hown:bC ⟨s.slots.set k0 (.v (.one (.own (id+1)))),m1,s.next⟩ x= .v (.one (.own (id+1))):=by
     cases x with
     | tmp j=>
      by_cases hj:k0=j
      ·subst hj
       show List.getD _ _ _=_
       rw [List.getD_eq_getElem?_getD,List.getElem?_set_self (get_lt hk0' (by intro hh;cases hh))]
       rfl
      ·exfalso
       refine hxk ?_
       show List.getD _ _ _=List.getD _ _ _
       rw [List.getD_eq_getElem?_getD,List.getElem?_set_ne hj,← List.getD_eq_getElem?_getD]
     | const v=>exact absurd rfl hxk
     | global g=>exact absurd rfl hxk
     | func f=>exact absurd rfl hxk
    rw [hown] at hh
    obtain ⟨c',hc',hh⟩:=List.mem_flatMap.1 (show k∈[CV.own (id+1)].flatMap (cv2 m1) from hh)
    rw [List.mem_singleton.1 hc'] at hh
    rcases List.mem_append.1 hh with hh | hh
    ·exact hkid (List.mem_singleton.1 hh)
    ·obtain ⟨b',hb',hh⟩:=List.mem_flatMap.1 hh
     rw [List.mem_singleton.1 hb'] at hh
     rcases g2 _ _ hh with hh | hh
     ·exact hkid hh
     ·unfold dA at hh
      rw [hnone] at hh
      cases hh
theorem opT_keep {o:Op} {id:Nat} {r:AV×aX} (hp:aV o=false) (hr:(opT e H o id s).run=some r) {k:Nat} (hk:k∉cA o s id):aF r.2 k=aF s.mem k:=by
 unfold opT at hr
 split at hr
 ·rename_i t ht
  exact opY_keep hp ht hr hk
 ·exact opT1_keep hp hr hk
end Go.Ev
