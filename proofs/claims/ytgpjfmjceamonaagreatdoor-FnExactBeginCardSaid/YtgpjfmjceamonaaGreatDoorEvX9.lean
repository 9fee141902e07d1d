/-
 The abstract evaluator: rows that are owned all the way down: what an operation looks at, and what it may change.
-/
import Derived.Test.YtgpjfmjceamonaaGreatDoorEvD4
import Derived.Test.YtgpjfmjceamonaaGreatDoorEvX8
namespace Go.Ev
variable {e:Env} {H:Nat→Option FH} {s s2:St}
theorem opX_congr {o:Op} {id:Nat} (h:∀ x,x∈o.operands→bC s2 x=bC s x) (hm:s2.mem=s.mem):jO e H o id s2=jO e H o id s:=by
 cases o<;>simp only [Op.operands] at h
 case load E x=>simp only [jO,hm,h x (by simp)]
 case store E x y=>simp only [jO,hm,h x (by simp),h y (by simp)]
 case indexAddr R x i=>simp only [jO,hm,h x (by simp),h i (by simp)]
 case makeSlice R l c=>simp only [jO,hm,h l (by simp)]
 case buildSlice R n ps=>simp only [jO,hm,vals_congr (s2:=s2) (s:=s) (ps:=ps.toList) (fun x hx=>h x (by rw [List.mem_toArray];exact hx))]
 case convert S D x=>simp only [jO,hm,h x (by simp)]
 case call c=>
  obtain ⟨cl,args,tys⟩:=c
  cases cl with
  | builtin b=>
   have h':∀ x,x∈args.toList→bC s2 x=bC s x:=fun x hx=>h x (by simp [Call.operands];simpa using hx)
   cases b<;>first | rfl | skip
   ·simp only [jO,hm]
    generalize args.toList=l at h' ⊢
    generalize tys.toList=ts
    match l,h' with
    | [],_=>rfl
    | [_],_=>rfl
    | [x,y],h'=>
     match ts with
     | []=>rfl
     | [_]=>rfl
     | [T,T']=>simp only [h' x (by simp),h' y (by simp)]
     | _ ::_ ::_ ::_=>rfl
    | _ ::_ ::_ ::_,_=>rfl
   ·simp only [jO,hm]
    generalize args.toList=l at h' ⊢
    match l,h' with
    | [],_=>rfl
    | [x],h'=>simp only [h' x (by simp)]
    | _ ::_ ::_,_=>rfl
  | value f=>
   simp only [jO,hm,h f (by simp [Call.operands])]
   rw [iO (s2:=s2) (s:=s) fun x hx=>h x (by simp [Call.operands];exact .inr (by simpa using hx))]
  | invoke _ _=>rfl
 all_goals rfl
theorem opT1_congr {o:Op} {id:Nat} (h:∀ x,x∈o.operands→bC s2 x=bC s x) (hm:s2.mem=s.mem):kJ e H o id s2=kJ e H o id s:=by
 unfold kJ
 rw [opX_congr h hm,opT0_congr h hm]
theorem opX_pure {o:Op} {id id2:Nat} (hp:aV o=true) (h:∀ x,x∈o.operands→bC s2 x=bC s x) (hm:∀ b,b∈eN o s→aF s2.mem b=aF s.mem b) :
  (jO e H o id s=none→jO e H o id2 s2=none)∧∀ t,jO e H o id s=some t→∃ t2,jO e H o id2 s2=some t2∧∀ r,t.run=some r→t2.run=some (r.1,s2.mem)∧r.2=s.mem:=by
 have hm':∀ x b,x∈o.operands→b∈av1 (bC s x)→aF s2.mem b=aF s.mem b:=fun x b hx hb=>hm b (mem_reads hx hb)
 clear hm
 cases o<;>first | (cases hp;done) | skip
 case load E x=>
  have h1:=h x (by simp [Op.operands])
  simp only [jO,h1]
  split
  ·rename_i b t i off hv
   have hb:aF s2.mem b=aF s.mem b:=hm' x b (by simp [Op.operands]) (by rw [hv];simp [av1,Vl.cells,dV])
   rw [hb]
   split
   ·refine ⟨fun hh=>(by cases hh),fun t ht=>?_⟩
    cases ht
    refine ⟨_,rfl,fun r hr=>?_⟩
    split at hr
    ·replace hr:=aD hr
     have hq:=hr.1
     replace hr:=hr.2
     rw [hq]
     simp only [cond_true]
     split at hr
     ·split at hr
      ·cases hr
       exact ⟨rfl,rfl⟩
      ·cases hr
     ·cases hr
    ·cases hr
   ·exact ⟨fun _=>rfl,fun _ ht=>by cases ht⟩
  ·exact ⟨fun _=>rfl,fun _ ht=>by cases ht⟩
 case indexAddr R x i=>
  have h1:=h x (by simp [Op.operands])
  have h2:=h i (by simp [Op.operands])
  simp only [jO,h1,h2]
  split
  ·rename_i b hv
   have hb:aF s2.mem b=aF s.mem b:=hm' x b (by simp [Op.operands]) (by rw [hv];simp [av1,Vl.cells,dV])
   rw [hb]
   split
   ·refine ⟨fun hh=>(by cases hh),fun t ht=>?_⟩
    cases ht
    refine ⟨_,rfl,fun r hr=>?_⟩
    split at hr
    ·replace hr:=aD hr
     have hq:=hr.1
     replace hr:=hr.2
     rw [hq]
     simp only [cond_true]
     replace hr:=bG hr
     have hq:=hr.1
     replace hr:=hr.2
     rw [hq]
     cases hr
     exact ⟨rfl,rfl⟩
    ·cases hr
   ·exact ⟨fun _=>rfl,fun _ ht=>by cases ht⟩
  ·exact ⟨fun _=>rfl,fun _ ht=>by cases ht⟩
 case convert S D x=>
  have h1:=h x (by simp [Op.operands])
  simp only [jO,h1]
  split
  ·rename_i b hv
   have hb:aF s2.mem b=aF s.mem b:=hm' x b (by simp [Op.operands]) (by rw [hv];simp [av1,Vl.cells,dV])
   rw [hb]
   split
   ·refine ⟨fun hh=>(by cases hh),fun t ht=>?_⟩
    cases ht
    refine ⟨_,rfl,fun r hr=>?_⟩
    split at hr
    ·cases hr
     exact ⟨rfl,rfl⟩
    ·cases hr
   ·exact ⟨fun _=>rfl,fun _ ht=>by cases ht⟩
  ·exact ⟨fun _=>rfl,fun _ ht=>by cases ht⟩
 case call c=>
  obtain ⟨cl,args,tys⟩:=c
  cases cl with
  | value f=>cases hp
  | invoke _ _=>exact ⟨fun _=>rfl,fun _ ht=>by cases ht⟩
  | builtin bb=>
   have h':∀ x,x∈args.toList→bC s2 x=bC s x:=fun x hx=>h x (by simp [Op.operands,Call.operands];simpa using hx)
   have hm2:∀ x b,x∈args.toList→b∈av1 (bC s x)→aF s2.mem b=aF s.mem b:=fun x b hx hb=>hm' x b (by simp [Op.operands,Call.operands];simpa using hx) hb
   cases bb<;>first | (cases hp;done) | exact ⟨fun _=>rfl,fun _ ht=>by cases ht⟩ | skip
   simp only [jO]
   generalize args.toList=l at h' hm2 ⊢
   match l,h',hm2 with
   | [],_,_=>exact ⟨fun _=>rfl,fun _ ht=>by cases ht⟩
   | _ ::_ ::_,_,_=>exact ⟨fun _=>rfl,fun _ ht=>by cases ht⟩
   | [x],h',hm2=>
    simp only [h' x (by simp)]
    split
    ·rename_i b hv
     have hb:aF s2.mem b=aF s.mem b:=hm2 x b (by simp) (by rw [hv];simp [av1,Vl.cells,dV])
     rw [hb]
     split
     ·refine ⟨fun hh=>(by cases hh),fun t ht=>?_⟩
      cases ht
      refine ⟨_,rfl,fun r hr=>?_⟩
      split at hr
      ·split at hr
       ·cases hr
        exact ⟨rfl,rfl⟩
       ·cases hr
      ·cases hr
     ·exact ⟨fun _=>rfl,fun _ ht=>by cases ht⟩
    ·exact ⟨fun _=>rfl,fun _ ht=>by cases ht⟩
 all_goals exact ⟨fun _=>rfl,fun _ ht=>by cases ht⟩
theorem opT1_pure {o:Op} {id id2:Nat} {r:AV×aX} (hp:aV o=true) (hr:(kJ e H o id s).run=some r) (h:∀ x,x∈o.operands→bC s2 x=bC s x) (hm:∀ b,b∈eN o s→aF s2.mem b=aF s.mem b) :
  (kJ e H o id2 s2).run=some (r.1,s2.mem)∧r.2=s.mem:=by
 obtain ⟨h1,h2⟩:=opX_pure (e:=e) (H:=H) (id:=id) (id2:=id2) hp h hm
 unfold kJ at hr ⊢
 cases hx:jO e H o id s with
 | none=>
  rw [h1 hx]
  rw [hx] at hr
  exact opT0_pure hp hr h hm
 | some t=>
  obtain ⟨t2,g1,g2⟩:=h2 t hx
  rw [hx] at hr
  rw [g1]
  exact g2 r hr
end Go.Ev
namespace Go.Ev
variable {e:Env} {H:Nat→Option FH} {s s2:St}
theorem takeRow_ids {m:aX} {E:Nat} {d:DT} {c:CV} {xs:List d.ty.den} {os:List Nat} (h:takeRow m E d c=some (xs,os)):∀ o,o∈os→o∈dV c:=by
 cases d with
 | fl t=>exact kP h
 | st d=>exact gJ (d:= .st d) h
 | pair p q=>exact gJ (d:= .pair p q) h
 | row F d=>exact gJ (d:= .row F d) h
theorem kQ {m:aX} {fx:Bool}:∀ {d:DT} {x y:d.ty.den} {off:Nat} {cs:List CV} {os:List Nat},dput m fx d x off cs=some (y,os)→∀ o,o∈os→o∈cs.flatMap dV
 | .fl t,x,y,off,cs,os,h,o,ho=>by
  simp only [dput] at h
  split at h
  ·cases h;cases ho
  ·cases hq:Nat.ble (off+cs.length) t.sz with
   | false=>rw [hq] at h;cases h
   | true=>
    rw [hq] at h
    simp only [cond_true] at h
    split at h
    ·cases h;cases ho
    ·cases h
 | .st d,x,y,off,cs,os,h,o,ho=>kQ (d:=d) (x:=x) (y:=y) h o ho
 | .pair p q,x,y,off,cs,os,h,o,ho=>by
  simp only [dput] at h
  split at h
  ·rename_i y1 os1 h1
   split at h
   ·rename_i y2 os2 h2
    cases h
    rcases List.mem_append.1 ho with ho | ho
    ·obtain ⟨c,hc,hoc⟩:=List.mem_flatMap.1 (kQ h1 o ho)
     exact List.mem_flatMap.2 ⟨c,List.mem_of_mem_take hc,hoc⟩
    ·obtain ⟨c,hc,hoc⟩:=List.mem_flatMap.1 (kQ h2 o ho)
     exact List.mem_flatMap.2 ⟨c,List.mem_of_mem_drop hc,hoc⟩
   ·cases h
  ·cases h
 | .row E d,x,y,off,cs,os,h,o,ho=>by
  simp only [dput] at h
  split at h
  ·cases h;cases ho
  ·rename_i c
   cases fx with
   | true=>cases h
   | false=>
    simp only [cond_false] at h
    cases hq:Nat.beq off 0 with
    | false=>rw [hq] at h;cases h
    | true=>
     rw [hq] at h
     exact List.mem_flatMap.2 ⟨c,List.mem_singleton.2 rfl,takeRow_ids h o ho⟩
  ·cases h
theorem packDs_ids {m:aX} {d:DT}:∀ {l:List Vl} {xs:List d.ty.den} {os:List Nat},packDs m d l=some (xs,os)→∀ o,o∈os→o∈(l.flatMap Vl.cells).flatMap dV
 | [],_,_,h,o,ho=>by cases h;cases ho
 | x ::r,xs,os,h,o,ho=>by
  unfold packDs at h
  split at h
  ·rename_i y os1 h1
   split at h
   ·rename_i ys os2 h2
    cases h
    rw [List.flatMap_cons,List.flatMap_append]
    rcases List.mem_append.1 ho with ho | ho
    ·unfold packD at h1
     cases hq:(cU x.cells && Nat.beq x.cells.length d.ty.sz) with
     | false=>rw [hq] at h1;cases h1
     | true=>
      rw [hq] at h1
      exact List.mem_append.2 (.inl (kQ h1 o ho))
    ·exact List.mem_append.2 (.inr (packDs_ids h2 o ho))
   ·cases h
  ·cases h
theorem takeSub_keep {m m1:aX} {id o off:Nat} {i:Int} (h:eM m id o i off=some m1) :
  (∀ k,k≠id→k≠o→aF m1 k=aF m k)∧∀ b k,k∈dA m1 b→k=id∨k∈dA m b:=by
 unfold eM at h
 split at h
 rotate_left
 ·cases h
 rename_i E d xs hs hb
 cases hany:hs.any (fun p=>Nat.beq p.2.1 off) with
 | true=>rw [hany] at h;cases h
 | false=>
 rw [hany] at h
 simp only [cond_false] at h
 split at h
 rotate_left
 ·cases h
 rename_i bk hbk
 cases h
 refine ⟨fun k h1 h2=>by rw [aG,if_neg h1,aG,if_neg h2],fun b k hk=>?_⟩
 unfold dA at hk
 rw [aG] at hk
 by_cases h1:b=id
 ·rw [if_pos h1] at hk
  rcases iN hbk with ⟨E,t,xs,rfl⟩ | ⟨E,d,xs,rfl⟩<;>cases hk
 ·rw [if_neg h1,aG] at hk
  by_cases h2:b=o
  ·subst h2
   rw [if_pos rfl] at hk
   have hk':k∈id ::hs.map (fun p=>p.2.2):=hk
   rcases List.mem_cons.1 hk' with hk' | hk'
   ·exact .inl hk'
   ·refine .inr ?_
    unfold dA
    rw [hb]
    exact hk'
  ·rw [if_neg h2] at hk
   exact .inr hk
theorem splitL_keep {m m1:aX} {id:Nat}:∀ {l l':List Vl},fC m id l=some (l',some m1)→
  (∀ k,k≠id→k∉(l.flatMap Vl.cells).flatMap dV→aF m1 k=aF m k)∧(∀ b k,k∈dA m1 b→k=id∨k∈dA m b)∧∀ c,c∈l'.flatMap Vl.cells→c= .own id∨c∈l.flatMap Vl.cells
 | [],_,h=>by cases h
 | x ::rr,l',h=>by
  have hrec:(match fC m id rr with
   | some (l,m')=>some (x ::l,m')
   | none=>none)=some (l',some m1)→(∀ k,k≠id→k∉((x ::rr).flatMap Vl.cells).flatMap dV→aF m1 k=aF m k)∧(∀ b k,k∈dA m1 b→k=id∨k∈dA m b)∧∀ c,c∈l'.flatMap Vl.cells→c= .own id∨c∈(x ::rr).flatMap Vl.cells:=fun hq=>by
   split at hq
   ·rename_i l2 m2 h2
    cases hq
    obtain ⟨g1,g2,g3⟩:=splitL_keep h2
    refine ⟨fun k h1 h2=>g1 k h1 (fun hh=>h2 ?_),g2,fun c hc=>?_⟩
    ·rw [List.flatMap_cons,List.flatMap_append]
     exact List.mem_append.2 (.inr hh)
    ·rw [List.flatMap_cons] at hc ⊢
     rcases List.mem_append.1 hc with hc | hc
     ·exact .inr (List.mem_append.2 (.inl hc))
     ·exact (g3 c hc).imp (fun h=>h) (fun h=>List.mem_append.2 (.inr h))
   ·cases hq
  unfold fC at h
  split at h
  ·rename_i b i off
   have h1:=Option.some.inj h
   have h2:eM m id b i off=some m1:=(Prod.mk.inj h1).2
   have h3:=(Prod.mk.inj h1).1
   obtain ⟨g1,g2⟩:=takeSub_keep h2
   refine ⟨fun k hk hn=>g1 k hk (fun hh=>hn ?_),g2,fun c hc=>?_⟩
   ·rw [List.flatMap_cons,List.flatMap_append]
    exact List.mem_append.2 (.inl (by rw [hh];simp [Vl.cells,dV]))
   ·rw [← h3,List.flatMap_cons] at hc
    rcases List.mem_append.1 hc with hc | hc
    ·exact .inl (List.mem_singleton.1 hc)
    ·rw [List.flatMap_cons]
     exact .inr (List.mem_append.2 (.inr hc))
  ·exact hrec h
theorem opX_keep {o:Op} {id:Nat} {t:Tr (AV×aX)} {r:AV×aX} (hp:aV o=false) (hx:jO e H o id s=some t) (hr:t.run=some r) {k:Nat} (hk:k∉cA o s id):aF r.2 k=aF s.mem k:=by
 unfold cA at hk
 rw [List.mem_append,not_or] at hk
 obtain ⟨hk1,hk2⟩:=hk
 have hid:=ids8 hk1
 clear hk1
 have hop:∀ x,x∈o.operands→k∉av2 s.mem (bC s x):=fun x hx hh=>hk2 (List.mem_flatMap.2 ⟨x,by simpa using hx,hh⟩)
 cases o<;>first | (cases hp;done) | (cases hx;done) | skip
 case store E x y=>
  simp only [jO] at hx
  split at hx
  rotate_left
  ·cases hx
  rename_i b t' i off hv
  split at hx
  rotate_left
  ·cases hx
  cases hx
  split at hr
  rotate_left
  ·cases hr
  rename_i v u hy hu
  replace hr:=(aD hr).2
  split at hr
  rotate_left
  ·cases hr
  rename_i z os hz
  replace hr:=(aD hr).2
  cases hr
  have h1:=hop x (by simp [Op.operands])
  have h2:=hop y (by simp [Op.operands])
  rw [hv] at h1
  rw [hy] at h2
  rw [aG,if_neg (fun hh=>h1 (lR (by simp [dV,hh])))]
  exact gG fun hh=>h2 (dF (kQ hz k hh))
 case buildSlice R n ps=>
  simp only [jO] at hx
  split at hx
  rotate_left
  ·cases hx
  split at hx
  rotate_left
  ·cases hx
  cases hx
  split at hr
  rotate_left
  ·cases hr
  split at hr
  rotate_left
  ·cases hr
  rename_i l hl
  replace hr:=(aD hr).2
  split at hr
  rotate_left
  ·cases hr
  rename_i xs os hpk
  replace hr:=(aD hr).2
  cases hr
  rw [aG,if_neg (by omega)]
  refine gG fun hh=>hk2 ?_
  have:=vals_ids (m:=s.mem) hl (dF (packDs_ids hpk k hh))
  simpa [Op.operands] using this
 case makeSlice R l c=>
  simp only [jO] at hx
  split at hx
  rotate_left
  ·cases hx
  split at hx
  rotate_left
  ·cases hx
  cases hx
  replace hr:=(aD hr).2
  split at hr
  rotate_left
  ·cases hr
  split at hr
  rotate_left
  ·cases hr
  replace hr:=(aD hr).2
  replace hr:=(bG hr).2
  cases hr
  rw [aG,if_neg (by omega)]
 case call c=>
  obtain ⟨cl,args,tys⟩:=c
  cases cl with
  | invoke _ _=>cases hx
  | builtin bb=>
   cases bb<;>first | (cases hp;done) | (cases hx;done) | skip
   simp only [jO] at hx
   split at hx
   rotate_left
   ·cases hx
   rename_i x y T T' hargs hT
   split at hx
   rotate_left
   ·cases hx
   split at hx
   rotate_left
   ·cases hx
   cases hx
   split at hr
   rotate_left
   ·cases hr
   split at hr
   rotate_left
   ·cases hr
   rename_i ca cb hxa hya
   split at hr
   rotate_left
   ·cases hr
   rename_i xs os ys os' hxd hyd
   replace hr:=(aD hr).2
   replace hr:=(bG hr).2
   cases hr
   have hops:(Op.call { callee:= .builtin .append,args:=args,argTypes:=tys }).operands.toList=[x,y]:=by simp [Op.operands,Call.operands,hargs]
   have h1:=hop x (by rw [← Array.mem_toList_iff,hops];simp)
   have h2:=hop y (by rw [← Array.mem_toList_iff,hops];simp)
   rw [hxa] at h1
   rw [hya] at h2
   rw [aG,if_neg (by omega)]
   refine gG fun hh=>?_
   rcases List.mem_append.1 hh with hh | hh
   ·exact h1 (lR (gJ hxd k hh))
   ·exact h2 (lR (gJ hyd k hh))
  | value f=>
   simp only [jO] at hx
   split at hx
   rotate_left
   ·cases hx
   rename_i g caps hf
   split at hx
   rotate_left
   ·cases hx
   rename_i l hl
   split at hx
   rotate_left
   ·cases hx
   rename_i l' m' hs
   cases hx
   split at hr
   rotate_left
   ·cases hr
   rename_i m1 hg hHg
   have hq:=(aD hr).1
   replace hr:=(aD hr).2
   rw [Bool.and_eq_true] at hq
   have hnone:aF s.mem id=none:=dR (fresh_first hq.1)
   obtain ⟨g1,g2,g3⟩:=splitL_keep hs
   have hops:(Op.call { callee:= .value f,args:=args,argTypes:=tys }).operands.toList=f ::args.toList:=by simp [Op.operands,Call.operands]
   rw [hops,List.flatMap_cons] at hk2
   have hkf:k∉av2 s.mem (bC s f):=fun hh=>hk2 (List.mem_append.2 (.inl hh))
   have hkl:k∉(l.flatMap Vl.cells).flatMap (cv2 s.mem):=fun hh=>hk2 (List.mem_append.2 (.inr (avs_ids hl hh)))
   have hkid:k≠id:=by omega
   have hcv:∀ c,k∈cv2 m1 c→k∈cv2 s.mem c:=fun c hh=>by
    rcases List.mem_append.1 hh with hh | hh
    ·exact List.mem_append.2 (.inl hh)
    ·obtain ⟨b,hb,hkb⟩:=List.mem_flatMap.1 hh
     exact List.mem_append.2 (.inr (List.mem_flatMap.2 ⟨b,hb,(g2 b k hkb).resolve_left hkid⟩))
   have hm1:aF m1 k=aF s.mem k:=g1 k hkid (fun hh=>hkl (dF hh))
   rw [callL_keep hr (b:=k) (by omega) ?_,hm1]
   intro hh
   rw [List.flatMap_append,List.flatMap_append] at hh
   rcases List.mem_append.1 hh with hh | hh
   ·obtain ⟨c,hc,hkc⟩:=List.mem_flatMap.1 hh
    rcases g3 c hc with rfl | hc
    ·have:=hcv _ hkc
     rcases List.mem_append.1 this with h | h
     ·exact hkid (List.mem_singleton.1 h)
     ·obtain ⟨b',hb',h'⟩:=List.mem_flatMap.1 h
      rw [List.mem_singleton.1 hb'] at h'
      unfold dA at h'
      rw [hnone] at h'
      cases h'
    ·exact hkl (List.mem_flatMap.2 ⟨c,hc,hcv c hkc⟩)
   ·refine hkf ?_
    rw [hf]
    show k∈[CV.clo g caps].flatMap (cv2 s.mem)
    obtain ⟨c,hc,hkc⟩:=List.mem_flatMap.1 hh
    obtain ⟨v,hv,hcv'⟩:=List.mem_flatMap.1 hc
    obtain ⟨b,hb,rfl⟩:=List.mem_map.1 hv
    have:c= .pbox b 0:=List.mem_singleton.1 hcv'
    subst this
    rw [List.flatMap_cons,List.flatMap_nil,List.append_nil]
    show k∈caps ++caps.flatMap (dA s.mem)
    have hkc':k∈[b] ++[b].flatMap (dA s.mem):=hcv _ hkc
    rcases List.mem_append.1 hkc' with h | h
    ·rw [List.mem_singleton.1 h]
     exact List.mem_append.2 (.inl hb)
    ·obtain ⟨b',hb',h'⟩:=List.mem_flatMap.1 h
     rw [List.mem_singleton.1 hb'] at h'
     exact List.mem_append.2 (.inr (List.mem_flatMap.2 ⟨b,hb,h'⟩))
theorem opT1_keep {o:Op} {id:Nat} {r:AV×aX} (hp:aV o=false) (hr:(kJ e H o id s).run=some r) {k:Nat} (hk:k∉cA o s id):aF r.2 k=aF s.mem k:=by
 unfold kJ at hr
 split at hr
 ·rename_i t ht
  exact opX_keep hp ht hr hk
 ·exact opT0_keep hp hr hk
end Go.Ev
