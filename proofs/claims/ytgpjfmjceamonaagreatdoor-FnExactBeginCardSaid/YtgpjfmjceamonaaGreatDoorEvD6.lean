/-
 The abstract evaluator: whichever order a region draws, it comes to the same.
-/
import Derived.Test.YtgpjfmjceamonaaGreatDoorEvD5
namespace Go.Ev
variable {P:Program} {e:Env} {H:Nat→Option FH} {Γ:Actv} {C:Ctx} {s:St} {a:Act} {w:World}
theorem fB {ops:List Oper} {i:Nat} {o:Oper} {s':St} (h:(dY e H ops i o s).run=some s') :
  (dC ops s o=some true∧∃ r,(opT e H o.op (s.next+8*i) s).run=some r∧s'=s.put o.dst r)∨(dC ops s o=some false∧s'=s.put o.dst (jJ,s.mem)):=by
 unfold dY at h
 split at h
 ·cases h
 rename_i b hg
 cases b with
 | true=>
  simp only [Tr.run,cond_true] at h
  rw [Tr.run_bind] at h
  obtain ⟨r,hr,h⟩:=Option.bind_eq_some_iff.1 h
  cases h
  exact .inl ⟨hg,r,hr,rfl⟩
 | false=>
  simp only [Tr.run,cond_false] at h
  cases h
  exact .inr ⟨hg,rfl⟩
theorem put_len (s:St) (d:Option Nat) (r:AV×aX):(s.put d r).slots.length=s.slots.length:=by
 cases d with
 | none=>rfl
 | some d=>exact List.length_set
theorem put_other {s:St} {d:Option Nat} {r:AV×aX} {k:Nat} (h:d≠some k):(s.put d r).slots[k]?=s.slots[k]?:=by
 cases d with
 | none=>rfl
 | some d=>
  show (s.slots.set d r.1)[k]?=_
  rw [List.getElem?_set,if_neg (fun hh=>h (by rw [hh]))]
theorem put_same {s t:St} {d k:Nat} {r r':AV×aX} (hl:s.slots.length=t.slots.length) (hr:r.1=r'.1) (hk:d=k):(s.put (some d) r).slots[k]?=(t.put (some d) r').slots[k]?:=by
 subst hk
 show (s.slots.set d r.1)[d]?=(t.slots.set d r'.1)[d]?
 rw [List.getElem?_set,List.getElem?_set,hl,hr,if_pos rfl,if_pos rfl]
theorem step_put {ops:List Oper} {i:Nat} {o:Oper} {s':St} (h:(dY e H ops i o s).run=some s'):∃ r,s'=s.put o.dst r:=by
 rcases fB h with ⟨_,r,_,hs⟩ | ⟨_,hs⟩
 ·exact ⟨r,hs⟩
 ·exact ⟨_,hs⟩
section
variable {ops:List Oper} {anc:List Nat} {rd wr:List (Nat×List Nat)} {tr:Nat→St} {p:Nat}
theorem tr_next (ht:TraceOk e H ops anc 0 rd wr tr):∀ j,j≤ops.length→(tr j).next=(tr 0).next
 | 0,_=>rfl
 | j+1,hj=>by
  have hlt:j < ops.length:=by omega
  obtain ⟨r,hr⟩:=step_put (ht.step j ops[j] (Nat.zero_le _) (List.getElem?_eq_getElem hlt))
  rw [hr]
  exact tr_next ht j (by omega)
theorem tr_len (ht:TraceOk e H ops anc 0 rd wr tr):∀ j,j≤ops.length→(tr j).slots.length=(tr 0).slots.length
 | 0,_=>rfl
 | j+1,hj=>by
  have hlt:j < ops.length:=by omega
  obtain ⟨r,hr⟩:=step_put (ht.step j ops[j] (Nat.zero_le _) (List.getElem?_eq_getElem hlt))
  rw [hr,put_len]
  exact tr_len ht j (by omega)
theorem tr_slot (ht:TraceOk e H ops anc 0 rd wr tr) {a d:Nat}:∀ b,a≤b→b≤ops.length→(∀ (k:Nat) (o:Oper),a≤k→k < b→ops[k]?=some o→o.dst≠some d)→(tr b).slots[d]?=(tr a).slots[d]?
 | 0,hab,_,_=>by
  have:a=0:=by omega
  rw [this]
 | b+1,hab,hb,hno=>by
  by_cases h:a=b+1
  ·rw [h]
  ·have hlt:b < ops.length:=by omega
   obtain ⟨r,hr⟩:=step_put (ht.step b ops[b] (Nat.zero_le _) (List.getElem?_eq_getElem hlt))
   rw [hr,put_other (hno b ops[b] (by omega) (by omega) (List.getElem?_eq_getElem hlt))]
   exact tr_slot ht b (by omega) (by omega) fun k o h1 h2=>hno k o h1 (by omega)
theorem tr_blk0 {a x:Nat}:∀ b,a≤b→(∀ k,a≤k→k < b→aF (tr (k+1)).mem x=aF (tr k).mem x)→aF (tr b).mem x=aF (tr a).mem x
 | 0,hab,_=>by
  have:a=0:=by omega
  rw [this]
 | b+1,hab,hno=>by
  by_cases h:a=b+1
  ·rw [h]
  ·rw [hno b (by omega) (by omega)]
   exact tr_blk0 b (by omega) fun k h1 h2=>hno k h1 (by omega)
theorem tr_same (ht:TraceOk e H ops anc 0 rd wr tr) {k:Nat} {o:Oper} (ho:ops[k]?=some o) (hp:aV o.op=true):(tr (k+1)).mem=(tr k).mem:=by
 rcases fB (ht.step k o (Nat.zero_le _) ho) with ⟨_,r,hr,hs⟩ | ⟨_,hs⟩
 ·rw [hs]
  exact (opT_pure (id2:=0) hp hr (fun _ _=>rfl) (fun _ _=>rfl)).2
 ·rw [hs]
  rfl
theorem tr_keep (ht:TraceOk e H ops anc 0 rd wr tr) {k x:Nat} {o:Oper} (ho:ops[k]?=some o) (hx:aV o.op=false→x∉Wr tr k o):aF (tr (k+1)).mem x=aF (tr k).mem x:=by
 cases hp:aV o.op with
 | true=>rw [tr_same ht ho hp]
 | false=>
  rcases fB (ht.step k o (Nat.zero_le _) ho) with ⟨_,r,hr,hs⟩ | ⟨_,hs⟩
  ·rw [hs]
   exact opT_keep hp hr (hx hp)
  ·rw [hs]
   rfl
theorem tr_blk (ht:TraceOk e H ops anc 0 rd wr tr) {a x:Nat} (b:Nat) (hab:a≤b) (hb:b≤ops.length) (hno:∀ (k:Nat) (o:Oper),a≤k→k < b→ops[k]?=some o→aV o.op=false→x∉Wr tr k o):aF (tr b).mem x=aF (tr a).mem x:=
 tr_blk0 b hab fun k h1 h2=>by
  have hk:k < ops.length:=by omega
  exact tr_keep ht (List.getElem?_eq_getElem hk) (hno k ops[k] h1 h2 (List.getElem?_eq_getElem hk))
structure AllocAt (e:Env) (H:Nat→Option FH) (ops:List Oper) (tr:Nat→St) (p:Nat) (op:Oper) (B:Bk):Prop where
 mem:(tr (p+1)).mem=aI (tr p).mem ((tr 0).next+8*p) B
 free:aF (tr p).mem ((tr 0).next+8*p)=none
 run:∀ t:St,aF t.mem ((tr 0).next+8*p)=none→t.next=(tr 0).next→(dY e H ops p op t).run=some (t.put op.dst (.v (.one (.pbox ((tr 0).next+8*p) 0)),aI t.mem ((tr 0).next+8*p) B))
 put:∃ m',tr (p+1)=(tr p).put op.dst (.v (.one (.pbox ((tr 0).next+8*p) 0)),m')
theorem alloc_at (ht:TraceOk e H ops anc 0 rd wr tr) {p:Nat} {op:Oper} (hp:ops[p]?=some op) (hE:∃ E,op.op= .alloc E) (hg:op.guard=none):∃ B,AllocAt e H ops tr p op B:=by
 obtain ⟨E,hE⟩:=hE
 have hpl:p < ops.length:=(List.getElem?_eq_some_iff.1 hp).1
 have hn:=tr_next ht p (by omega)
 have key:∀ t:St,(dY e H ops p op t)=Tr.br true ((opT e H (.alloc E) (t.next+8*p) t).bind fun r=> .ret (t.put op.dst r)) (.ret (t.put op.dst (jJ,t.mem))):=fun t=>by
  unfold dY dC
  rw [hg,hE]
 have key2:∀ (t:St) (i:Nat),opT e H (.alloc E) i t=match e.ty E with
  | some t0=>bif fresh t.mem i 1 then .ret (.v (.one (.pbox i 0)),aI t.mem i (.box E t0.zcells)) else .fail
  | none=> .fail:=fun _ _=>rfl
 have hs:=ht.step p op (Nat.zero_le _) hp
 rw [key,key2,hn] at hs
 simp only [Tr.run,cond_true] at hs
 rw [Tr.run_bind] at hs
 obtain ⟨r,hr,hs⟩:=Option.bind_eq_some_iff.1 hs
 cases hty:e.ty E with
 | none=>rw [hty] at hr;cases hr
 | some t0=>
  rw [hty] at hr
  obtain ⟨hf,hr⟩:=aD hr
  cases hr
  have hs:=Option.some.inj hs
  refine ⟨.box E t0.zcells,by rw [← hs];rfl,dR hf,fun t hno htn=>?_,⟨_,hs.symm⟩⟩
  rw [key,key2,hty,htn]
  have:fresh t.mem ((tr 0).next+8*p) 1=true:=by
   show ((aF t.mem _).isNone && true)=true
   rw [hno]
   rfl
  simp only [this,cond_true]
  rfl
theorem tr_mem (ht:TraceOk e H ops anc 0 rd wr tr) {a:Nat}:∀ b,a≤b→b≤ops.length→(∀ (k:Nat) (o:Oper),a≤k→k < b→ops[k]?=some o→aV o.op=true)→(tr b).mem=(tr a).mem
 | 0,hab,_,_=>by
  have:a=0:=by omega
  rw [this]
 | b+1,hab,hb,hno=>by
  by_cases h:a=b+1
  ·rw [h]
  ·have hlt:b < ops.length:=by omega
   have ih:=tr_mem ht (a:=a) b (by omega) (by omega) fun k o h1 h2=>hno k o h1 (by omega)
   rw [← ih]
   have hp:=hno b ops[b] (by omega) (by omega) (List.getElem?_eq_getElem hlt)
   rcases fB (ht.step b ops[b] (Nat.zero_le _) (List.getElem?_eq_getElem hlt)) with ⟨_,r,hr,hs⟩ | ⟨_,hs⟩
   ·rw [hs]
    exact (opT_pure (id2:=0) hp hr (fun _ _=>rfl) (fun _ _=>rfl)).2
   ·rw [hs]
    rfl
structure Inv (e:Env) (H:Nat→Option FH) (ops:List Oper) (tr:Nat→St) (p:Nat) (L:Nat→Prop) (t:St):Prop where
 len:t.slots.length=(tr 0).slots.length
 next:t.next=(tr 0).next
 done:∀ (i:Nat) (o:Oper) (d:Nat),L i→ops[i]?=some o→o.dst=some d→t.slots[d]?=(tr ops.length).slots[d]?
 todo:∀ d:Nat,(∀ (i:Nat) (o:Oper),L i→ops[i]?=some o→o.dst≠some d)→t.slots[d]?=(tr 0).slots[d]?
 mark:∃ j,j≤ops.length∧(∀ (k:Nat) (o:Oper),ops[k]?=some o→aV o.op=false→k≠p→(L k↔k < j))∧
  ((t.mem=(tr j).mem∧∀ o,ops[p]?=some o→aV o.op=false→(L p↔p < j))∨
    (j≤p∧L p∧∃ o B,ops[p]?=some o∧AllocAt e H ops tr p o B∧t.mem=aI (tr j).mem ((tr 0).next+8*p) B))
def Down (ops:List Oper) (L:Nat→Prop):Prop:=∀ (i:Nat) (o:Oper),L i→ops[i]?=some o→∀ m,m∈eQ o→L m
theorem anc_down {L:Nat→Prop} (hord:OrdOk ops anc p) (hL:Down ops L):∀ (i:Nat) (o:Oper),ops[i]?=some o→(∀ m,m∈eQ o→L m)→∀ k,bZ anc i k=true→L k:=by
 intro i
 induction i using Nat.strongRecOn with
 | _ i ih=>
  intro o ho hp k hk
  obtain ⟨m,hm,hmk⟩:=hord.clo i o k ho hk
  rcases hmk with rfl | hmk
  ·exact hp m hm
  ·obtain ⟨ed,he,hon,hbd⟩:=mem_preds hm
   have hlt:m < i:=by rw [← hon];exact hord.lt i o ho ed he hbd
   have hil:i < ops.length:=(List.getElem?_eq_some_iff.1 ho).1
   have hml:m < ops.length:=by omega
   exact ih m hlt ops[m] (List.getElem?_eq_getElem hml) (hL m ops[m] (hp m hm) (List.getElem?_eq_getElem hml)) k hmk
theorem get_of {s t:St} {k:Nat} (h:t.slots[k]?=s.slots[k]?):t.get k=s.get k:=by
 unfold St.get
 rw [List.getD_eq_getElem?_getD,List.getD_eq_getElem?_getD,h]
theorem mem_tmps:∀ {l:List Operand} {t:Nat},Operand.tmp t∈l→t∈tmpsOf l
 | x ::r,t,h=>by
  rcases List.mem_cons.1 h with h | h
  ·subst h
   exact List.mem_cons_self
  ·have:=mem_tmps h
   cases x<;>first | exact List.mem_cons_of_mem _ this | exact this
theorem opd_of {s t:St} {o:Oper} (h:∀ x,x∈looks ops o→t.slots[x]?=s.slots[x]?):∀ x,x∈o.op.operands→bC t x=bC s x:=by
 intro x hx
 cases x with
 | tmp k=>exact get_of (h k (List.mem_append.2 (.inl (mem_tmps (by simpa using hx)))))
 | const v=>rfl
 | global g=>rfl
 | func f=>rfl
theorem guard_of {s t:St} {o:Oper} (h:∀ x,x∈looks ops o→t.slots[x]?=s.slots[x]?):dC ops t o=dC ops s o:=by
 unfold dC
 cases hg:o.guard with
 | none=>rfl
 | some p=>
  obtain ⟨j,want⟩:=p
  simp only
  cases ho:ops[j]? with
  | none=>rfl
  | some o'=>
   simp only
   cases hd:o'.dst with
   | none=>rfl
   | some d=>
    simp only
    rw [get_of (h d (List.mem_append.2 (.inr (by rw [hg];simp only [ho,hd];simp))))]
theorem inv_step {L:Nat→Prop} {t:St} {i:Nat} {o:Oper} (hord:OrdOk ops anc p) (ht:TraceOk e H ops anc 0 rd wr tr) (hinv:Inv e H ops tr p L t) (hL:Down ops L) (hLn:∀ k,L k→k < ops.length) (ho:ops[i]?=some o) (hi:¬ L i) (hready:∀ m,m∈eQ o→L m) :
  ∃ t',(dY e H ops i o t).run=some t'∧Inv e H ops tr p (fun k=>L k∨k=i) t':=by
 have hil:i < ops.length:=(List.getElem?_eq_some_iff.1 ho).1
 have hanci:∀ k,bZ anc i k=true→L k:=anc_down hord hL i o ho hready
 have hancL:∀ j k,L j→bZ anc j k=true→L k:=fun j k hj hk=>by
  have hjl:=hLn j hj
  exact anc_down hord hL j ops[j] (List.getElem?_eq_getElem hjl) (hL j ops[j] hj (List.getElem?_eq_getElem hjl)) k hk
 have hlook:∀ x,x∈looks ops o→t.slots[x]?=(tr i).slots[x]?:=by
  intro x hx
  by_cases hex:∃ j o',L j∧ops[j]?=some o'∧o'.dst=some x
  ·obtain ⟨j,o',hj,ho',hd⟩:=hex
   have hjl:=hLn j hj
   have hji:j < i:=by
    rcases Nat.lt_trichotomy j i with h | h | h
    ·exact h
    ·subst h;exact (hi hj).elim
    ·exact (hi (hancL j i hj (hord.look2 i j o o' x h ho ho' hd hx))).elim
   rw [hinv.done j o' x hj ho' hd]
   have h1:=tr_slot ht (a:=j+1) (d:=x) ops.length (by omega) (Nat.le_refl _) fun k ok h1 h2 hk=>hord.dst j k o' ok x (by omega) ho' hk hd
   have h2:=tr_slot ht (a:=j+1) (d:=x) i (by omega) (by omega) fun k ok h1 h2 hk=>hord.dst j k o' ok x (by omega) ho' hk hd
   rw [h1,h2]
  ·rw [hinv.todo x fun j o' hj ho' hd=>hex ⟨j,o',hj,ho',hd⟩]
   refine (tr_slot ht (a:=0) (d:=x) i (Nat.zero_le _) (by omega) fun k ok _ hk hok hd=>?_).symm
   exact hex ⟨k,ok,hanci k (hord.look1 k i ok o x hk hok ho hd hx),hok,hd⟩
 have hopd:=opd_of hlook
 have hguard:=guard_of hlook
 have hnext:t.next=(tr i).next:=by rw [hinv.next,tr_next ht i (by omega)]
 obtain ⟨mk,hmk,hmL,hcase⟩:=hinv.mark
 have hti:=ht.step i o (Nat.zero_le _) ho
 have hidp:∀ op,(tr 0).next+8*p∈Wr tr p op∨¬ p≤ops.length:=fun op=>by
  by_cases hpl:p≤ops.length
  ·left
   unfold Wr cA
   rw [tr_next ht p hpl]
   exact List.mem_append.2 (.inl List.mem_cons_self)
  ·exact .inr hpl
 have hbetw:aV o.op=false→∀ (k:Nat) (ok:Oper),mk≤k→k < i→ops[k]?=some ok→k≠p→i≠p→aV ok.op=true:=fun hp k ok h2 h3 hok hkp hip=>by
  cases hpk:aV ok.op with
  | true=>rfl
  | false=>
   rcases hord.imp k i ok o h3 hok ho hpk hp with hh | ⟨_,hh⟩
   ·have:=(hmL k ok hok hpk hkp).1 (hanci k hh)
    omega
   ·exact (hip hh).elim
 have hmki:aV o.op=false→i≠p→mk≤i:=fun hp hip=>by
  rcases Nat.lt_or_ge i mk with h | h
  ·exact (hi ((hmL i o ho hp hip).2 h)).elim
  ·exact h
 have hfree:∀ (a:Nat) (op:Oper) (B:Bk),ops[p]?=some op→AllocAt e H ops tr p op B→a≤p→(∀ (k:Nat) (ok:Oper),a≤k→k < p→ops[k]?=some ok→aV ok.op=false→bZ anc p k=false)→aF (tr a).mem ((tr 0).next+8*p)=none:=fun a op B hop hal hap hnk=>by
  rw [← hal.free]
  have hpl:p < ops.length:=(List.getElem?_eq_some_iff.1 hop).1
  obtain ⟨E,hE⟩:=(hord.pal op hop).1
  have hnp:aV op.op=false:=by rw [hE];rfl
  refine (tr_blk ht (a:=a) p hap (by omega) fun k ok h1 h2 hok hpk hbk=>?_).symm
  rcases ht.wrwr k p ok op (Nat.zero_le _) h2 hok hop hnp hpk with hh | hh
  ·rw [hnk k ok h1 h2 hok hpk] at hh
   cases hh
  ·exact hh _ ((hidp op).resolve_right (by omega)) hbk
 have hreads:aV o.op=true→∀ b,b∈eN o.op (tr i)→aF t.mem b=aF (tr i).mem b:=by
  intro hp b hb
  have hgen:∀ x,(∀ (op:Oper) (B:Bk),ops[p]?=some op→AllocAt e H ops tr p op B→(mk≤p∧p < i∨i≤p∧p < mk)→aF (tr (p+1)).mem x=aF (tr p).mem x)→x∈eN o.op (tr i)→aF (tr mk).mem x=aF (tr i).mem x:=by
   intro x hxp hx
   have hpstep:∀ op,ops[p]?=some op→(mk≤p∧p < i∨i≤p∧p < mk)→aF (tr (p+1)).mem x=aF (tr p).mem x:=fun op hop hh=>by
    obtain ⟨B,hB⟩:=alloc_at ht hop (hord.pal op hop).1 (hord.pal op hop).2
    exact hxp op B hop hB hh
   rcases Nat.le_total mk i with h | h
   ·refine (tr_blk0 i h fun k h1 h2=>?_).symm
    have hkl:k < ops.length:=by omega
    have hok:=List.getElem?_eq_getElem hkl
    by_cases hkp:k=p
    ·subst hkp
     exact hpstep _ hok (.inl ⟨h1,h2⟩)
    ·refine tr_keep ht hok fun hpk hbk=>?_
     rcases ht.rdwr k i _ o (Nat.zero_le _) h2 hok ho hp hpk with hh | hh
     ·exact absurd ((hmL k _ hok hpk hkp).1 (hanci k hh)) (by omega)
     ·exact hh x hx hbk
   ·refine tr_blk0 mk h fun k h1 h2=>?_
    have hkl:k < ops.length:=by omega
    have hok:=List.getElem?_eq_getElem hkl
    by_cases hkp:k=p
    ·subst hkp
     exact hpstep _ hok (.inr ⟨h1,h2⟩)
    ·refine tr_keep ht hok fun hpk hbk=>?_
     have hLk:=(hmL k _ hok hpk hkp).2 h2
     have hik:i < k:=by
      rcases Nat.eq_or_lt_of_le h1 with hh | hh
      ·subst hh;exact (hi hLk).elim
      ·exact hh
     rcases ht.wrrd i k o _ (Nat.zero_le _) hik ho hok hpk hp with hh | hh
     ·exact hi (hancL k i hLk hh)
     ·exact hh x hbk hx
  rcases hcase with ⟨hmem,hLp⟩ | ⟨hjp,hLp,op,B,hop,hal,hmem⟩
  ·rw [hmem]
   refine hgen b (fun op B hop hal hh=>?_) hb
   have hpl:p < ops.length:=(List.getElem?_eq_some_iff.1 hop).1
   obtain ⟨E,hE⟩:=(hord.pal op hop).1
   have hnp:aV op.op=false:=by rw [hE];rfl
   refine tr_keep ht hop fun _ hbk=>?_
   rcases hh with ⟨h1,h2⟩ | ⟨h1,h2⟩
   ·rcases ht.rdwr p i op o (Nat.zero_le _) h2 hop ho hp hnp with hh | hh
    ·have:=(hLp op hop hnp).1 (hanci p hh)
     omega
    ·exact hh b hb hbk
   ·have hLk:=(hLp op hop hnp).2 h2
    have hik:i < p:=by
     rcases Nat.eq_or_lt_of_le h1 with hh | hh
     ·subst hh;exact (hi hLk).elim
     ·exact hh
    rcases ht.wrrd i p o op (Nat.zero_le _) hik ho hop hnp hp with hh | hh
    ·exact hi (hancL p i hLk hh)
    ·exact hh b hbk hb
  ·have hpl:p < ops.length:=(List.getElem?_eq_some_iff.1 hop).1
   obtain ⟨E,hE⟩:=(hord.pal op hop).1
   have hnp:aV op.op=false:=by rw [hE];rfl
   rw [hmem,aG]
   by_cases hbp:b=(tr 0).next+8*p
   ·rw [if_pos hbp]
    have hw:=(hidp op).resolve_right (by omega)
    rw [← hbp] at hw
    rcases Nat.lt_trichotomy i p with h | h | h
    ·rcases ht.wrrd i p o op (Nat.zero_le _) h ho hop hnp hp with hh | hh
     ·exact (hi (hancL p i hLp hh)).elim
     ·exact (hh b hw hb).elim
    ·subst h
     exact (hi hLp).elim
    ·have h1:aF (tr i).mem b=aF (tr (p+1)).mem b:=by
      refine tr_blk ht (a:=p+1) i (by omega) (by omega) fun k ok h1 h2 hok hpk hbk=>?_
      rcases ht.rdwr k i ok o (Nat.zero_le _) h2 hok ho hp hpk with hh | hh
      ·have:=(hmL k ok hok hpk (by omega)).1 (hanci k hh)
       omega
      ·exact hh b hb hbk
     rw [h1,hal.mem,aG,if_pos hbp]
   ·rw [if_neg hbp]
    exact hgen b (fun op' B' hop' hal' _=>by rw [hal'.mem,aG,if_neg hbp]) hb
 have hplain:t.mem=(tr i).mem→aV o.op=false→∃ v,(dY e H ops i o t).run=some (t.put o.dst (v,(tr (i+1)).mem))∧∃ m',tr (i+1)=(tr i).put o.dst (v,m'):=fun hm hp=>by
  rcases fB hti with ⟨hg,r,hr,hs⟩ | ⟨hg,hs⟩
  ·have hgt:dC ops t o=some true:=by rw [hguard];exact hg
   refine ⟨r.1,?_,⟨r.2,hs⟩⟩
   unfold dY
   rw [hgt]
   simp only [Tr.run,cond_true]
   rw [Tr.run_bind,hnext,opT_congr hopd hm,hr,hs]
   rfl
  ·have hgt:dC ops t o=some false:=by rw [hguard];exact hg
   refine ⟨jJ,?_,⟨(tr i).mem,hs⟩⟩
   unfold dY
   rw [hgt,hs]
   show some (t.put o.dst (jJ,t.mem))=some (t.put o.dst (jJ,(tr i).mem))
   rw [hm]
 have hstep:∃ v m,(dY e H ops i o t).run=some (t.put o.dst (v,m))∧(∃ m',tr (i+1)=(tr i).put o.dst (v,m'))∧
   ∃ j,j≤ops.length∧(∀ (k:Nat) (ok:Oper),ops[k]?=some ok→aV ok.op=false→k≠p→((L k∨k=i)↔k < j))∧
    ((m=(tr j).mem∧∀ op,ops[p]?=some op→aV op.op=false→((L p∨p=i)↔p < j))∨
      (j≤p∧(L p∨p=i)∧∃ op B,ops[p]?=some op∧AllocAt e H ops tr p op B∧m=aI (tr j).mem ((tr 0).next+8*p) B)):=by
  cases hp:aV o.op with
  | true=>
   have hne:∀ (k:Nat) (ok:Oper),ops[k]?=some ok→aV ok.op=false→k≠i:=fun k ok hok hpk hh=>by
    subst hh
    rw [ho] at hok
    cases hok
    rw [hp] at hpk
    cases hpk
   have hmark:∀ m,m=t.mem→∃ j,j≤ops.length∧(∀ (k:Nat) (ok:Oper),ops[k]?=some ok→aV ok.op=false→k≠p→((L k∨k=i)↔k < j))∧
    ((m=(tr j).mem∧∀ op,ops[p]?=some op→aV op.op=false→((L p∨p=i)↔p < j))∨
      (j≤p∧(L p∨p=i)∧∃ op B,ops[p]?=some op∧AllocAt e H ops tr p op B∧m=aI (tr j).mem ((tr 0).next+8*p) B)):=fun m hm=>by
    subst hm
    refine ⟨mk,hmk,fun k ok hok hpk hkp=>⟨fun hh=>(hmL k ok hok hpk hkp).1 (hh.resolve_right (hne k ok hok hpk)),fun hh=> .inl ((hmL k ok hok hpk hkp).2 hh)⟩,?_⟩
    rcases hcase with ⟨hmem,hLp⟩ | ⟨hjp,hLp,hrest⟩
    ·exact .inl ⟨hmem,fun op hop hpp=>⟨fun hh=>(hLp op hop hpp).1 (hh.resolve_right (hne p op hop hpp)),fun hh=> .inl ((hLp op hop hpp).2 hh)⟩⟩
    ·exact .inr ⟨hjp, .inl hLp,hrest⟩
   rcases fB hti with ⟨hg,r,hr,hs⟩ | ⟨hg,hs⟩
   ·have hgt:dC ops t o=some true:=by rw [hguard];exact hg
    obtain ⟨h1,h2⟩:=opT_pure (id2:=t.next+8*i) hp hr hopd (hreads hp)
    refine ⟨r.1,t.mem,?_,⟨r.2,hs⟩,hmark _ rfl⟩
    unfold dY
    rw [hgt]
    simp only [Tr.run,cond_true]
    rw [Tr.run_bind,h1]
    rfl
   ·have hgt:dC ops t o=some false:=by rw [hguard];exact hg
    refine ⟨jJ,t.mem,?_,⟨(tr i).mem,hs⟩,hmark _ rfl⟩
    unfold dY
    rw [hgt]
    rfl
  | false=>
   have hnew:i≠p→∀ (k:Nat) (ok:Oper),ops[k]?=some ok→aV ok.op=false→k≠p→((L k∨k=i)↔k < i+1):=fun hip k ok hok hpk hkp=>by
    have hm:=hmki hp hip
    refine ⟨fun hh=>?_,fun hh=>?_⟩
    ·rcases hh with hh | rfl
     ·have:=(hmL k ok hok hpk hkp).1 hh
      omega
     ·omega
    ·rcases Nat.lt_or_ge k mk with h | h
     ·exact .inl ((hmL k ok hok hpk hkp).2 h)
     ·rcases Nat.eq_or_lt_of_le (Nat.le_of_lt_succ hh) with h' | h'
      ·exact .inr h'
      ·have:=hbetw hp k ok h h' hok hkp hip
       rw [this] at hpk
       cases hpk
   by_cases hip:i=p
   ·subst hip
    obtain ⟨B,hal⟩:=alloc_at ht ho (hord.pal o ho).1 (hord.pal o ho).2
    rcases hcase with ⟨hmem,hLp⟩ | ⟨_,hLp,_⟩
    ·have hji:mk≤i:=by
      rcases Nat.lt_or_ge i mk with h | h
      ·exact (hi ((hLp o ho hp).2 h)).elim
      ·exact h
     have hno:aF t.mem ((tr 0).next+8*i)=none:=by
      rw [hmem]
      refine hfree mk o B ho hal hji fun k ok h1 h2 hok hpk=>?_
      cases hh:bZ anc i k with
      | false=>rfl
      | true=>
       have:=(hmL k ok hok hpk (by omega)).1 (hanci k hh)
       omega
     refine ⟨_,_,hal.run t hno hinv.next,hal.put,mk,hmk,fun k ok hok hpk hkp=>⟨fun hh=>(hmL k ok hok hpk hkp).1 (hh.resolve_right hkp),fun hh=> .inl ((hmL k ok hok hpk hkp).2 hh)⟩, .inr ⟨hji, .inr rfl,o,B,ho,hal,by rw [hmem]⟩⟩
    ·exact (hi hLp).elim
   ·have hm:=hmki hp hip
    rcases hcase with ⟨hmem,hLp⟩ | ⟨hjp,hLp,op,B,hop,hal,hmem⟩
    ·have hpp:∀ op,ops[p]?=some op→aV op.op=false→¬ (mk≤p∧p < i):=fun op hop hnp hh=>by
      rcases hord.imp p i op o hh.2 hop ho hnp hp with h | ⟨_,h⟩
      ·have:=(hLp op hop hnp).1 (hanci p h)
       omega
      ·exact hip h
     have hmi:t.mem=(tr i).mem:=by
      rw [hmem]
      refine (tr_mem ht (a:=mk) i hm (by omega) fun k ok h2 h3 hok=>?_).symm
      cases hpk:aV ok.op with
      | true=>rfl
      | false=>
       by_cases hkp:k=p
       ·subst hkp
        exact (hpp ok hok hpk ⟨h2,h3⟩).elim
       ·rw [hbetw hp k ok h2 h3 hok hkp hip] at hpk
        cases hpk
     obtain ⟨v,h1,h2⟩:=hplain hmi hp
     refine ⟨v,_,h1,h2,i+1,by omega,hnew hip, .inl ⟨rfl,fun op hop hnp=>⟨fun hh=>?_,fun hh=>?_⟩⟩⟩
     ·have:=(hLp op hop hnp).1 (hh.resolve_right fun h=>hip h.symm)
      omega
     ·refine .inl ((hLp op hop hnp).2 ?_)
      have:=hpp op hop hnp
      omega
    ·have hpl:p < ops.length:=(List.getElem?_eq_some_iff.1 hop).1
     obtain ⟨E,hE⟩:=(hord.pal op hop).1
     have hnp:aV op.op=false:=by rw [hE];rfl
     rcases Nat.lt_or_gt_of_ne hip with hlt | hgt
     ·
      have hmi:(tr mk).mem=(tr i).mem:=(tr_mem ht (a:=mk) i hm (by omega) fun k ok h2 h3 hok=>hbetw hp k ok h2 h3 hok (by omega) hip).symm
      have hna:bZ anc p i=false:=by
       cases hh:bZ anc p i with
       | false=>rfl
       | true=>exact (hi (hancL p i hLp hh)).elim
      obtain ⟨⟨c,f,hc,hcf⟩,_⟩:=(hord.imp i p o op hlt ho hop hp hnp).resolve_left (by rw [hna];exact fun hh=>by cases hh)
      have hfr:aF (tr i).mem ((tr 0).next+8*p)=none:=hfree i op B hop hal (by omega) fun k ok h1 h2 hok hpk=>by
       cases hh:bZ anc p k with
       | false=>rfl
       | true=>
        have:=(hmL k ok hok hpk (by omega)).1 (hancL p k hLp hh)
        rcases Nat.eq_or_lt_of_le h1 with h | h
        ·subst h
         rw [hna] at hh
         cases hh
        ·omega
      have hdel:(tr 0).next+8*p∉cA o.op (tr i) ((tr i).next+8*i):=fun hh=>by
       rcases ht.wrwr i p o op (Nat.zero_le _) hlt ho hop hnp hp with h | h
       ·rw [hna] at h
        cases h
       ·exact h _ ((hidp op).resolve_right (by omega)) hh
      rw [hmi] at hmem
      rcases fB hti with ⟨hg,r,hr,hs⟩ | ⟨hg,hs⟩
      ·have hgt:dC ops t o=some true:=by rw [hguard];exact hg
       rw [hc] at hr hdel
       have h1:=opT_fr (bj:=B) hcf hfr hr hdel
       refine ⟨r.1,aI (tr (i+1)).mem ((tr 0).next+8*p) B,?_,⟨r.2,hs⟩,i+1,by omega,hnew hip, .inr ⟨by omega, .inl hLp,op,B,hop,hal,rfl⟩⟩
       unfold dY
       rw [hgt]
       simp only [Tr.run,cond_true]
       rw [Tr.run_bind,hnext,hc,opT_congr (s:=⟨(tr i).slots,aI (tr i).mem ((tr 0).next+8*p) B,(tr i).next⟩) (fun x hx=>(hopd x (by rw [hc];exact hx)).trans (by cases x<;>rfl)) hmem,h1,hs]
       rfl
      ·have hgt:dC ops t o=some false:=by rw [hguard];exact hg
       refine ⟨jJ,t.mem,?_,⟨(tr i).mem,hs⟩,i+1,by omega,hnew hip, .inr ⟨by omega, .inl hLp,op,B,hop,hal,by rw [hmem,hs];rfl⟩⟩
       unfold dY
       rw [hgt]
       rfl
     ·have h1:(tr p).mem=(tr mk).mem:=tr_mem ht (a:=mk) p hjp (by omega) fun k ok h2 h3 hok=>hbetw hp k ok h2 (by omega) hok (by omega) hip
      have h2:(tr i).mem=(tr (p+1)).mem:=tr_mem ht (a:=p+1) i (by omega) (by omega) fun k ok h2 h3 hok=>hbetw hp k ok (by omega) h3 hok (by omega) hip
      have hmi:t.mem=(tr i).mem:=by rw [hmem,h2,hal.mem,h1]
      obtain ⟨v,h3,h4⟩:=hplain hmi hp
      exact ⟨v,_,h3,h4,i+1,by omega,hnew hip, .inl ⟨rfl,fun _ _ _=>⟨fun _=>by omega,fun _=> .inl hLp⟩⟩⟩
 obtain ⟨v,m,hrun,⟨m',hs⟩,hm⟩:=hstep
 refine ⟨_,hrun,⟨by rw [put_len];exact hinv.len,hinv.next,fun j oj d hj hoj hd=>?_,fun d hno=>?_,hm⟩⟩
 ·rcases hj with hj | rfl
  ·have hne:o.dst≠some d:=by
    have hji:j≠i:=fun hh=>hi (hh ▸ hj)
    rcases Nat.lt_or_gt_of_ne hji with h | h
    ·exact hord.dst j i oj o d h hoj ho hd
    ·exact fun hh=>hord.dst i j o oj d h ho hoj hh hd
   rw [put_other hne]
   exact hinv.done j oj d hj hoj hd
  ·rw [ho] at hoj
   cases hoj
   have h1:=tr_slot ht (a:=j+1) (d:=d) ops.length (by omega) (Nat.le_refl _) fun k ok h1 h2 hk=>hord.dst j k o ok d (by omega) ho hk hd
   rw [h1,hs,hd]
   exact put_same (by rw [hinv.len,tr_len ht j (by omega)]) rfl rfl
 ·rw [put_other (hno i o (.inr rfl) ho)]
  exact hinv.todo d fun j oj hj=>hno j oj (.inl hj)
theorem inv_end {L:Nat→Prop} {t:St} (ht:TraceOk e H ops anc 0 rd wr tr) (hinv:Inv e H ops tr p L t) (hall:∀ k,k < ops.length→L k):t.slots=(tr ops.length).slots∧t.mem=(tr ops.length).mem:=by
 constructor
 ·apply List.ext_getElem?
  intro d
  by_cases hex:∃ j o',L j∧ops[j]?=some o'∧o'.dst=some d
  ·obtain ⟨j,o',hj,ho',hd⟩:=hex
   exact hinv.done j o' d hj ho' hd
  ·rw [hinv.todo d fun j o' hj ho' hd=>hex ⟨j,o',hj,ho',hd⟩]
   refine (tr_slot ht (a:=0) (d:=d) ops.length (Nat.zero_le _) (Nat.le_refl _) fun k ok _ hk hok hd=>?_).symm
   exact hex ⟨k,ok,hall k hk,hok,hd⟩
 ·obtain ⟨mk,hmk,hmL,hcase⟩:=hinv.mark
  have hpure:∀ (k:Nat) (ok:Oper),mk≤k→k < ops.length→ops[k]?=some ok→k≠p→aV ok.op=true:=fun k ok h2 h3 hok hkp=>by
   cases hpk:aV ok.op with
   | true=>rfl
   | false=>
    have:=(hmL k ok hok hpk hkp).1 (hall k h3)
    omega
  rcases hcase with ⟨hmem,hLp⟩ | ⟨hjp,hLp,op,B,hop,hal,hmem⟩
  ·rw [hmem]
   refine (tr_mem ht (a:=mk) ops.length hmk (Nat.le_refl _) fun k ok h2 h3 hok=>?_).symm
   by_cases hkp:k=p
   ·subst hkp
    cases hpk:aV ok.op with
    | true=>rfl
    | false=>
     have:=(hLp ok hok hpk).1 (hall k h3)
     omega
   ·exact hpure k ok h2 h3 hok hkp
  ·have hpl:p < ops.length:=(List.getElem?_eq_some_iff.1 hop).1
   have h1:(tr p).mem=(tr mk).mem:=tr_mem ht (a:=mk) p hjp (by omega) fun k ok h2 h3 hok=>hpure k ok h2 (by omega) hok (by omega)
   have h2:(tr ops.length).mem=(tr (p+1)).mem:=tr_mem ht (a:=p+1) ops.length (by omega) (Nat.le_refl _) fun k ok h2 h3 hok=>hpure k ok (by omega) h3 hok (by omega)
   rw [hmem,h2,hal.mem,h1]
end
def unl (listed:Array Bool) (n:Nat):Nat:=(List.range n).countP fun i=>!(listed.getD i true)
theorem countP_lt {p q:Nat→Bool} (h:∀ x,q x=true→p x=true):∀ (l:List Nat) (i:Nat),i∈l→p i=true→q i=false→l.countP q < l.countP p
 | x ::r,i,hi,hp,hq=>by
  have hle:∀ l:List Nat,l.countP q≤l.countP p:=fun l=>List.countP_mono_left fun x _ hx=>h x hx
  rcases List.mem_cons.1 hi with rfl | hi
  ·rw [List.countP_cons,List.countP_cons,hp,hq]
   have:=hle r
   simp
   omega
  ·have ih:=countP_lt h r i hi hp hq
   rw [List.countP_cons,List.countP_cons]
   cases hqx:q x with
   | true=>rw [h x hqx];simp;omega
   | false=>simp;split<;>omega
theorem bind_any {ed:Edge} (h:Region.binds .any ed=true) (md:Region.Mode):Region.binds md ed=true:=by
 unfold Region.binds at h ⊢
 split at h
 ·cases h
 ·cases h
 ·rfl
theorem any_sound {A:Array Oper} {anc:List Nat} {rd wr:List (Nat×List Nat)} {tr:Nat→St} {p:Nat} {md:Region.Mode} {Q:Exit→Act→World→Prop} (hok:EnvOk P e) (hH:∀ g h,H g=some h→jY P e g h) (hwr:wrOps Γ.np A.toList=true) (hord:OrdOk A.toList anc p)
  (ht:TraceOk e H A.toList anc 0 rd wr tr) (hQ:∀ t C a w,t.slots=(tr A.size).slots→t.mem=(tr A.size).mem→RelC e Γ C t a w→Q .normal a w) :
  ∀ (fuel:Nat) (listed:Array Bool) (t:St) (C:Ctx) (a:Act) (w:World),listed.size=A.size→unl listed A.size≤fuel→Down A.toList (fun i=>listed.getD i false=true)→Inv e H A.toList tr p (fun i=>listed.getD i false=true) t→RelC e Γ C t a w→wpAny P md A Q fuel listed a w:=by
 intro fuel
 have hsz:A.toList.length=A.size:=Array.length_toList
 have hLn:∀ listed:Array Bool,listed.size=A.size→∀ k,listed.getD k false=true→k < A.toList.length:=fun listed hl k hk=>by
  rcases Nat.lt_or_ge k listed.size with h | h
  ·omega
  ·rw [show listed.getD k false=false by simp [Array.getD,Nat.not_lt.2 h]] at hk
   cases hk
 have hsame:∀ listed:Array Bool,listed.size=A.size→∀ k,k < A.size→listed.getD k true=listed.getD k false:=fun listed hl k hk=>by simp [Array.getD,hl,hk]
 have hend:∀ (listed:Array Bool) (t:St) (C:Ctx) (a:Act) (w:World),listed.size=A.size→Inv e H A.toList tr p (fun i=>listed.getD i false=true) t→RelC e Γ C t a w→Region.ready md A listed=[]→Q .normal a w:=by
  intro listed t C a w hl hinv hR hr
  obtain ⟨rk,hrk⟩:=hord.rk md
  have hall':∀ n k,rk k=n→k < A.size→listed.getD k false=true:=by
   intro n
   induction n using Nat.strongRecOn with
   | _ n ih=>
    intro k hkn hk
    cases hb:listed.getD k false with
    | true=>rfl
    | false=>
     have hmem:k∈Region.ready md A listed:=mem_ready.2 ⟨by rw [hsame listed hl k hk];exact hb,A[k],Array.getElem?_eq_getElem hk,fun ed he hbd=>by
      obtain ⟨q1,q2⟩:=hrk k A[k] (by rw [Array.getElem?_toList];exact Array.getElem?_eq_getElem hk) ed he hbd
      exact ih (rk ed.on) (by omega) ed.on rfl (by omega)⟩
     rw [hr] at hmem
     cases hmem
  have hall:∀ k,k < A.size→listed.getD k false=true:=fun k hk=>hall' _ k rfl hk
  obtain ⟨h1,h2⟩:=inv_end ht hinv (fun k hk=>hall k (by omega))
  rw [hsz] at h1 h2
  exact hQ t C a w h1 h2 hR
 induction fuel with
 | zero=>
  intro listed t C a w hl hu hdn hinv hR
  have hr:Region.ready md A listed=[]:=by
   cases hrr:Region.ready md A listed with
   | nil=>rfl
   | cons i r=>
    have hi:i∈Region.ready md A listed:=by rw [hrr];exact List.mem_cons_self
    obtain ⟨h0,o,ho,_⟩:=mem_ready.1 hi
    have hil:i < A.size:=(Array.getElem?_eq_some_iff.1 ho).1
    have:0 < unl listed A.size:=by
     unfold unl
     exact List.countP_pos_iff.2 ⟨i,List.mem_range.2 hil,by rw [h0];rfl⟩
    omega
  exact ⟨hr,hend listed t C a w hl hinv hR hr⟩
 | succ fuel ih=>
  intro listed t C a w hl hu hdn hinv hR
  refine ⟨hend listed t C a w hl hinv hR,fun i hi=>?_⟩
  obtain ⟨h0,o,ho,hall⟩:=mem_ready.1 hi
  have hil:i < A.size:=(Array.getElem?_eq_some_iff.1 ho).1
  have ho':A.toList[i]?=some o:=by rw [Array.getElem?_toList];exact ho
  have hni:¬ listed.getD i false=true:=by rw [← hsame listed hl i hil,h0];exact fun hh=>by cases hh
  have hready:∀ m,m∈eQ o→listed.getD m false=true:=fun m hm=>by
   obtain ⟨ed,he,hon,hb⟩:=mem_preds hm
   rw [← hon]
   exact hall ed he (bind_any hb md)
  obtain ⟨t',hrun,hinv'⟩:=inv_step hord ht hinv hdn (hLn listed hl) ho' hni hready
  have hset:∀ k,(listed.setIfInBounds i true).getD k false=true↔(listed.getD k false=true∨k=i):=fun k=>by
   by_cases hk:k=i
   ·subst hk
    simp [Array.getD,hl,hil]
   ·rw [getD_set_ne false (Ne.symm hk)]
    simp [hk]
  refine jM hok hH ho (wrOps_get hwr ho') hrun hR fun _ C' a' w' hR'=>ih _ t' C' a' w' (by rw [Array.size_setIfInBounds];exact hl) ?_ (fun j oj hj hoj m hm=>?_) ?_ hR'
  ·have:unl (listed.setIfInBounds i true) A.size < unl listed A.size:=by
    unfold unl
    refine countP_lt (fun x hx=>?_) _ i (List.mem_range.2 hil) (by rw [h0];rfl) ?_
    ·by_cases hxi:x=i
     ·subst hxi
      rw [h0]
      rfl
     ·rw [getD_set_ne true (Ne.symm hxi)] at hx
      exact hx
    ·simp [Array.getD,hl,hil]
   omega
  ·refine (hset m).2 ?_
   rcases (hset j).1 hj with hj | rfl
   ·exact .inl (hdn j oj hj hoj m hm)
   ·rw [ho'] at hoj
    cases hoj
    exact .inl (hready m hm)
  ·have:(fun k=>listed.getD k false=true∨k=i)=fun k=>(listed.setIfInBounds i true).getD k false=true:=funext fun k=>propext (hset k).symm
   rw [← this]
   exact hinv'
theorem RelC.drawn (h:RelC e Γ C s a w) (n:Nat):RelC e Γ C s a { w with drawn:=n }:=by
 have hch:Ch w { w with drawn:=n } (fun _=>False):=⟨rfl,rfl,rfl,Nat.le_refl _,fun _ _ _=>rfl⟩
 exact ⟨h.defers,h.len,fun k x v hx hv=>ARel.move (w:=w) (w':={ w with drawn:=n }) (CLe.refl C) (fun _ _ _=>rfl) (h.slots k x v hx hv),h.par,h.mem.world hch (fun _ _ hh=>hh) rfl rfl rfl rfl (fun _ hk=>hk) (fun j c hj hl g hg=>⟨fun hh=>hh,((h.mem.blk j c hj).nf hl hg).1⟩),
  h.W.step (CLe.refl C) hch (fun _ _ hh=>hh.elim) (fun _ _ hh=>hh) (fun k hk=> .inl hk)⟩
theorem draw_sound {R:Type} {A:Array Oper} {id:Nat} {K:St→Option R} {r:R} {Q:Exit→Act→World→Prop} (hok:EnvOk P e) (hH:∀ g h,H g=some h→jY P e g h) (hwr:wrOps Γ.np A.toList=true) (hd:drawOk A.toList=true)
  (hr:evOpsD e H A.toList (iG A.toList []) 0 A.toList [] [] s K=some r) (h:RelC e Γ C s a w) (hQ:∀ s' C' a' w',s'.slots.length=s.slots.length→RelC e Γ C' s' a' w'→K s'=some r→Q .normal a' w'):(Code.region id A true).wp P Q a w:=by
 obtain ⟨tr,t0,ht,hK⟩:=evOpsD_tr A.toList 0 [] [] s (fun j=>by rw [Nat.zero_add]) hr
 have hsz:A.toList.length=A.size:=Array.length_toList
 rw [Nat.zero_add,hsz] at hK
 have hfin:∀ t C a w,t.slots=(tr A.size).slots→t.mem=(tr A.size).mem→RelC e Γ C t a w→Q .normal a w:=fun t C a w h1 h2 hR=>by
  refine hQ ⟨(tr A.size).slots,(tr A.size).mem,(tr A.size).next+8*A.size⟩ C a w ?_ ?_ hK
  ·rw [← t0]
   have:=tr_len ht A.size (by omega)
   exact this
  ·exact ⟨hR.defers,by rw [← h1];exact hR.len,by rw [← h1];exact hR.slots,hR.par,by rw [← h2];exact hR.mem,hR.W⟩
 have hget:∀ k d,(Array.replicate A.size false).getD k false=d→d=false:=fun k d hh=>by
  rw [← hh]
  by_cases hk:k < A.size<;>simp [Array.getD,hk]
 have hempty:∀ k,¬ (Array.replicate A.size false).getD k false=true:=fun k hh=>by
  have:=hget k true hh
  cases this
 have hstart:∀ md,wpAny P md A Q A.size (Array.replicate A.size false) a { w with drawn:=w.drawn+1 }:=fun md=>
  any_sound hok hH hwr (ord_of hd) ht hfin A.size _ s C a _ (by simp) (by unfold unl;exact Nat.le_trans List.countP_le_length (by simp)) (fun i _ hi=>(hempty i hi).elim)
   ⟨by rw [t0],by rw [t0],fun i _ _ hi=>(hempty i hi).elim,fun d _=>by rw [t0],⟨0,Nat.zero_le _,fun k _ _ _ _=>⟨fun hh=>(hempty k hh).elim,fun hh=>by omega⟩, .inl ⟨by rw [t0],fun _ _ _=>⟨fun hh=>(hempty _ hh).elim,fun hh=>by omega⟩⟩⟩⟩ (h.drawn _)
 refine wp_region_draw fun t=>?_
 unfold Region.schedule
 split
 ·exact wpAny_sound A.size t _ a _ (hstart .any)
 ·split
  ·exact wpAny_sound A.size (t / 2) _ a _ (hstart .text)
  ·exact wpAny_sound A.size (t / 2) _ a _ (hstart .gc)
end Go.Ev
