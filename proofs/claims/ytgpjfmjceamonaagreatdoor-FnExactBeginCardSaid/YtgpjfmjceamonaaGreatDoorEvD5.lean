/-
 The abstract evaluator: regions that draw their order.
-/
import Derived.Test.YtgpjfmjceamonaaGreatDoorEvR
import Derived.Test.YtgpjfmjceamonaaGreatDoorEvF
namespace Go.Ev
variable {P:Program} {e:Env} {H:Nat→Option FH} {Γ:Actv} {C:Ctx} {s:St} {a:Act} {w:World}
theorem anc_get:∀ (l:List Oper) (acc:List Nat) (i:Nat),i < acc.length→(iG l acc)[i]?=acc[i]?
 | [],_,_,_=>rfl
 | o ::r,acc,i,h=>by
  unfold iG
  rw [anc_get r _ i (by rw [List.length_append];omega),List.getElem?_append_left h]
theorem anc_at:∀ (l:List Oper) (acc:List Nat) (j:Nat) (o:Oper),l[j]?=some o→∃ acc',(iG l acc)[acc.length+j]?=some (kA acc' (eQ o))∧∀ m,m < acc.length+j→acc'.getD m 0=(iG l acc).getD m 0:=by
 intro l
 induction l with
 | nil=>intro acc j o h;cases h
 | cons o' r ih=>
  intro acc j o h
  cases j with
  | zero=>
   rw [List.getElem?_cons_zero] at h
   have ho:=Option.some.inj h
   rw [← ho]
   refine ⟨acc,?_,fun m hm=>?_⟩
   ·rw [show iG (o' ::r) acc=iG r (acc ++[kA acc (eQ o')]) from rfl,Nat.add_zero,anc_get r _ _ (by rw [List.length_append];simp),List.getElem?_append_right (Nat.le_refl _),Nat.sub_self]
    rfl
   ·rw [Nat.add_zero] at hm
    rw [show iG (o' ::r) acc=iG r (acc ++[kA acc (eQ o')]) from rfl,List.getD_eq_getElem?_getD,List.getD_eq_getElem?_getD,anc_get r _ m (by rw [List.length_append];omega),List.getElem?_append_left hm]
  | succ j=>
   rw [List.getElem?_cons_succ] at h
   obtain ⟨acc',h1,h2⟩:=ih (acc ++[kA acc (eQ o')]) j o h
   rw [List.length_append,List.length_cons,List.length_nil] at h1 h2
   rw [show iG (o' ::r) acc=iG r (acc ++[kA acc (eQ o')]) from rfl]
   exact ⟨acc',by rw [← h1];congr 1;omega,fun m hm=>h2 m (by omega)⟩
theorem mask_of {acc:List Nat} {k:Nat}:∀ {ps:List Nat},Nat.testBit (kA acc ps) k=true→∃ m,m∈ps∧(m=k∨Nat.testBit (acc.getD m 0) k=true)
 | [],h=>by unfold kA at h;simp at h
 | j ::r,h=>by
  unfold kA at h
  rw [Nat.testBit_or,Nat.testBit_or,Bool.or_eq_true,Bool.or_eq_true] at h
  rcases h with (h | h) | h
  ·refine ⟨j,List.mem_cons_self, .inl ?_⟩
   rw [Nat.testBit_two_pow] at h
   exact of_decide_eq_true h
  ·exact ⟨j,List.mem_cons_self, .inr h⟩
  ·obtain ⟨m,hm,hk⟩:=mask_of h
   exact ⟨m,List.mem_cons_of_mem _ hm,hk⟩
theorem edgesLt_of {md:Region.Mode}:∀ {l:List Oper} {i:Nat},edgesLt md i l=true→∀ (j:Nat) (o:Oper),l[j]?=some o→∀ ed:Edge,ed∈o.after→Region.binds md ed=true→ed.on < i+j:=by
 intro l
 induction l with
 | nil=>intro i _ j o hj;cases hj
 | cons o' r ih=>
  intro i h j o hj ed he hb
  have h':(o'.after.toList.all (fun e=>!(Region.binds md e) || Nat.blt e.on i) && edgesLt md (i+1) r)=true:=h
  rw [Bool.and_eq_true] at h'
  cases j with
  | zero=>
   rw [List.getElem?_cons_zero] at hj
   cases hj
   have:=List.all_eq_true.1 h'.1 ed (by simpa using he)
   rw [hb] at this
   have this:Nat.blt ed.on i=true:=this
   exact Nat.le_of_ble_eq_true this
  | succ j=>
   rw [List.getElem?_cons_succ] at hj
   have:=ih h'.2 j o hj ed he hb
   omega
theorem rankOk_of {md:Region.Mode} {n:Nat} {rk:List Nat}:∀ {l:List Oper} {i:Nat},rankOk md n rk i l=true→∀ (j:Nat) (o:Oper),l[j]?=some o→∀ ed:Edge,ed∈o.after→Region.binds md ed=true→rk.getD ed.on 0 < rk.getD (i+j) 0∧ed.on < n:=by
 intro l
 induction l with
 | nil=>intro i _ j o hj;cases hj
 | cons o' r ih=>
  intro i h j o hj ed he hb
  have h':(o'.after.toList.all (fun e=>!(Region.binds md e) || (Nat.blt (rk.getD e.on 0) (rk.getD i 0) && Nat.blt e.on n)) && rankOk md n rk (i+1) r)=true:=h
  rw [Bool.and_eq_true] at h'
  cases j with
  | zero=>
   rw [List.getElem?_cons_zero] at hj
   cases hj
   have:=List.all_eq_true.1 h'.1 ed (by simpa using he)
   rw [hb] at this
   have h2:(Nat.blt (rk.getD ed.on 0) (rk.getD i 0) && Nat.blt ed.on n)=true:=this
   rw [Bool.and_eq_true] at h2
   exact ⟨Nat.le_of_ble_eq_true h2.1,Nat.le_of_ble_eq_true h2.2⟩
  | succ j=>
   rw [List.getElem?_cons_succ] at hj
   have:=ih h'.2 j o hj ed he hb
   rw [show i+(j+1)=i+1+j by omega]
   exact this
theorem binds_of {md:Region.Mode} {ed:Edge} (h:Region.binds .any ed=true):Region.binds md ed=true:=by
 unfold Region.binds at h ⊢
 split at h
 ·cases h
 ·cases h
 ·rfl
theorem laterOk_of {ops:List Oper} {anc:List Nat} {i:Nat} {oi:Oper}:∀ {l:List Oper} {j:Nat},laterOk ops anc i oi j l=true→∀ (k:Nat) (o:Oper),l[k]?=some o→pairOk ops (bZ anc (j+k) i) oi o=true:=by
 intro l
 induction l with
 | nil=>intro j _ k o h;cases h
 | cons o' r ih=>
  intro j h k o hk
  have h':(pairOk ops (bZ anc j i) oi o' && laterOk ops anc i oi (j+1) r)=true:=h
  rw [Bool.and_eq_true] at h'
  cases k with
  | zero=>
   rw [List.getElem?_cons_zero] at hk
   have ho:=Option.some.inj hk
   rw [← ho]
   exact h'.1
  | succ k=>
   rw [List.getElem?_cons_succ] at hk
   have:=ih h'.2 k o hk
   rw [show j+(k+1)=j+1+k by omega]
   exact this
theorem pairsOk_of {ops:List Oper} {anc:List Nat}:∀ {l:List Oper} {i:Nat},pairsOk ops anc i l=true→∀ (j k:Nat) (oj ok:Oper),j < k→l[j]?=some oj→l[k]?=some ok→pairOk ops (bZ anc (i+k) (i+j)) oj ok=true:=by
 intro l
 induction l with
 | nil=>intro i _ j k oj ok _ h;cases h
 | cons o' r ih=>
  intro i h j k oj ok hjk hj hk
  have h':(laterOk ops anc i o' (i+1) r && pairsOk ops anc (i+1) r)=true:=h
  rw [Bool.and_eq_true] at h'
  cases k with
  | zero=>omega
  | succ k=>
   rw [List.getElem?_cons_succ] at hk
   cases j with
   | zero=>
    rw [List.getElem?_cons_zero] at hj
    have ho:=Option.some.inj hj
    rw [← ho]
    have:=laterOk_of h'.1 k ok hk
    rw [show i+(k+1)=i+1+k by omega]
    exact this
   | succ j=>
    rw [List.getElem?_cons_succ] at hj
    have:=ih h'.2 j k oj ok (by omega) hj hk
    rw [show i+(k+1)=i+1+k by omega,show i+(j+1)=i+1+j by omega]
    exact this
theorem has_iff {d:Nat} {l:List Nat}:has d l=true↔d∈l:=by
 unfold has
 rw [List.any_eq_true]
 constructor
 ·rintro ⟨x,hx,h⟩
  rw [Nat.eq_of_beq_eq_true h]
  exact hx
 ·exact fun h=>⟨d,h,Nat.beq_refl d⟩
structure OrdOk (ops:List Oper) (anc:List Nat) (p:Nat):Prop where
 lt:∀ (i:Nat) (o:Oper),ops[i]?=some o→∀ ed:Edge,ed∈o.after→Region.binds .any ed=true→ed.on < i
 rk:∀ md:Region.Mode,∃ r:Nat→Nat,∀ (i:Nat) (o:Oper),ops[i]?=some o→∀ ed:Edge,ed∈o.after→Region.binds md ed=true→r ed.on < r i∧ed.on < ops.length
 clo:∀ (i:Nat) (o:Oper) (k:Nat),ops[i]?=some o→bZ anc i k=true→∃ m,m∈eQ o∧(m=k∨bZ anc m k=true)
 dst:∀ (i j:Nat) (oi oj:Oper) (d:Nat),i < j→ops[i]?=some oi→ops[j]?=some oj→oi.dst=some d→oj.dst≠some d
 look1:∀ (i j:Nat) (oi oj:Oper) (d:Nat),i < j→ops[i]?=some oi→ops[j]?=some oj→oi.dst=some d→d∈looks ops oj→bZ anc j i=true
 look2:∀ (i j:Nat) (oi oj:Oper) (d:Nat),i < j→ops[i]?=some oi→ops[j]?=some oj→oj.dst=some d→d∈looks ops oi→bZ anc j i=true
 imp:∀ (i j:Nat) (oi oj:Oper),i < j→ops[i]?=some oi→ops[j]?=some oj→aV oi.op=false→aV oj.op=false→bZ anc j i=true∨((∃ c f,oi.op= .call c∧c.callee= .value f)∧j=p)
 pal:∀ o,ops[p]?=some o→(∃ E,o.op= .alloc E)∧o.guard=none
theorem mem_preds {o:Oper} {m:Nat} (h:m∈eQ o):∃ ed,ed∈o.after∧ed.on=m∧Region.binds .any ed=true:=by
 unfold eQ at h
 obtain ⟨ed,h1,h2⟩:=List.mem_map.1 h
 obtain ⟨h3,h4⟩:=List.mem_filter.1 h1
 exact ⟨ed,by simpa using h3,h2,h4⟩
theorem isAlloc_of {o:Op} (h:gV o=true):∃ E,o= .alloc E:=by
 cases o<;>first | exact ⟨_,rfl⟩ | (cases h;done)
theorem isCallV_of {o:Op} (h:isCallV o=true):∃ c f,o= .call c∧c.callee= .value f:=by
 cases o<;>first | (cases h;done) | skip
 rename_i c
 obtain ⟨cl,args,tys⟩:=c
 cases cl<;>first | (cases h;done) | exact ⟨_,_,rfl,rfl⟩
theorem loose_cons {ops:List Oper} {anc:List Nat} {j:Nat} {o:Oper} {r:List Oper}:kL ops anc j (o ::r)=bif (gV o.op && o.guard.isNone) && looseAt ops anc j then j ::kL ops anc (j+1) r else kL ops anc (j+1) r:=rfl
theorem loose_mem {ops:List Oper} {anc:List Nat}:∀ (l:List Oper) (j k:Nat) (o:Oper),l[k]?=some o→gV o.op=true→o.guard=none→looseAt ops anc (j+k)=true→(j+k)∈kL ops anc j l:=by
 intro l
 induction l with
 | nil=>intro j k o h;cases h
 | cons o' r ih=>
  intro j k o h h1 h2 h3
  rw [loose_cons]
  cases k with
  | zero=>
   rw [List.getElem?_cons_zero] at h
   cases h
   rw [Nat.add_zero] at h3 ⊢
   rw [h1,h2,h3]
   exact List.mem_cons_self
  | succ k=>
   rw [List.getElem?_cons_succ] at h
   have:=ih (j+1) k o h h1 h2 (by rw [show j+1+k=j+(k+1) by omega];exact h3)
   rw [show j+1+k=j+(k+1) by omega] at this
   cases ((gV o'.op && o'.guard.isNone) && looseAt ops anc j) with
   | true=>exact List.mem_cons_of_mem _ this
   | false=>exact this
theorem looseAt_of {ops:List Oper} {anc:List Nat} {i j:Nat} {oi:Oper} (h3:i < j) (h4:ops[i]?=some oi) (h5:aV oi.op=false) (h6:bZ anc j i=false):looseAt ops anc j=true:=by
 refine List.any_eq_true.2 ⟨i,List.mem_range.2 h3,?_⟩
 unfold impAt
 rw [h6,h4]
 simp only [h5]
 rfl
theorem loose_at {ops:List Oper} {anc:List Nat}:∀ {l:List Oper} {j x:Nat},x∈kL ops anc j l→∃ k o,x=j+k∧l[k]?=some o∧gV o.op=true∧o.guard=none
 | [],_,_,h=>by cases h
 | o' ::r,j,x,h=>by
  have rest:x∈kL ops anc (j+1) r→∃ k o,x=j+k∧(o' ::r)[k]?=some o∧gV o.op=true∧o.guard=none:=fun hh=>by
   obtain ⟨k,o,h1,h2,h3⟩:=loose_at hh
   exact ⟨k+1,o,by omega,h2,h3⟩
  unfold kL at h
  cases hq:(gV o'.op && o'.guard.isNone) with
  | false=>rw [hq] at h;exact rest h
  | true=>
   rw [hq] at h
   rw [Bool.and_eq_true] at hq
   cases hb:looseAt ops anc j with
   | false=>rw [hb] at h;exact rest h
   | true=>
    rw [hb] at h
    rcases List.mem_cons.1 h with h | h
    ·exact ⟨0,o',h,rfl,hq.1,Option.isNone_iff_eq_none.1 hq.2⟩
    ·exact rest h
def looseP (ops:List Oper):Nat:=(kL ops (iG ops []) 0 ops).headD ops.length
theorem ord_of {ops:List Oper} (h:drawOk ops=true):OrdOk ops (iG ops []) (looseP ops):=by
 unfold drawOk at h
 rw [Bool.and_eq_true] at h
 obtain ⟨h,hone⟩:=h
 rw [Bool.and_eq_true] at h
 obtain ⟨h1,h2⟩:=h
 rw [Bool.and_eq_true] at h1
 obtain ⟨h1,hgc⟩:=h1
 have hp:∀ (i j:Nat) (oi oj:Oper),i < j→ops[i]?=some oi→ops[j]?=some oj→pairOk ops (bZ (iG ops []) j i) oi oj=true:=fun i j oi oj hij hi hj=>by
  have:=pairsOk_of h2 i j oi oj hij hi hj
  rw [Nat.zero_add,Nat.zero_add] at this
  exact this
 have hlt:∀ (i:Nat) (o:Oper),ops[i]?=some o→∀ ed:Edge,ed∈o.after→Region.binds .any ed=true→ed.on < i:=fun i o hi ed he hb=>by
  have:=edgesLt_of h1 i o hi ed he (binds_of hb)
  omega
 have hid:∀ md:Region.Mode,edgesLt md 0 ops=true→∃ r:Nat→Nat,∀ (i:Nat) (o:Oper),ops[i]?=some o→∀ ed:Edge,ed∈o.after→Region.binds md ed=true→r ed.on < r i∧ed.on < ops.length:=fun md hm=>by
  refine ⟨fun k=>k,fun i o hi ed he hb=>?_⟩
  have:=edgesLt_of hm i o hi ed he hb
  rw [Nat.zero_add] at this
  have hil:i < ops.length:=(List.getElem?_eq_some_iff.1 hi).1
  exact ⟨this,by omega⟩
 have hrk:∀ md:Region.Mode,∃ r:Nat→Nat,∀ (i:Nat) (o:Oper),ops[i]?=some o→∀ ed:Edge,ed∈o.after→Region.binds md ed=true→r ed.on < r i∧ed.on < ops.length:=fun md=>by
  cases md with
  | any=>
   obtain ⟨r,hr⟩:=hid .text h1
   exact ⟨r,fun i o hi ed he hb=>hr i o hi ed he (binds_of hb)⟩
  | text=>exact hid .text h1
  | gc=>
   unfold modeOk at hgc
   rw [Bool.or_eq_true] at hgc
   rcases hgc with hgc | hgc
   ·exact hid .gc hgc
   ·refine ⟨fun k=>(ranks .gc ops ops.length []).getD k 0,fun i o hi ed he hb=>?_⟩
    have:=rankOk_of hgc i o hi ed he hb
    rw [Nat.zero_add] at this
    exact this
 refine ⟨hlt,hrk,fun i o k hi hk=>?_,fun i j oi oj d hij hi hj hd hd'=>?_,fun i j oi oj d hij hi hj hd hl=>?_,fun i j oi oj d hij hi hj hd hl=>?_,fun i j oi oj hij hi hj h3 h4=>?_,fun o ho=>?_⟩
 rotate_right
 ·unfold looseP at ho
  cases hl:kL ops (iG ops []) 0 ops with
  | nil=>
   rw [hl] at ho
   have:ops[ops.length]?=some o:=ho
   rw [List.getElem?_eq_none (Nat.le_refl _)] at this
   cases this
  | cons x r=>
   rw [hl] at ho
   obtain ⟨k,o',e1,e2,e3,e4⟩:=loose_at (l:=ops) (j:=0) (x:=x) (by rw [hl];exact List.mem_cons_self)
   have e5:x=k:=by omega
   subst e5
   have:ops[x]?=some o:=ho
   rw [e2] at this
   cases this
   exact ⟨isAlloc_of e3,e4⟩
 ·obtain ⟨acc',q1,q2⟩:=anc_at ops [] i o hi
  rw [List.length_nil,Nat.zero_add] at q1 q2
  unfold bZ at hk
  rw [List.getD_eq_getElem?_getD,q1,Option.getD_some] at hk
  obtain ⟨m,hm,hmk⟩:=mask_of hk
  refine ⟨m,hm,hmk.imp id fun hb=>?_⟩
  obtain ⟨ed,he,hon,hbd⟩:=mem_preds hm
  unfold bZ
  rw [← q2 m (hon ▸ hlt i o hi ed he hbd)]
  exact hb
 all_goals
  have:=hp i j oi oj hij hi hj
  unfold pairOk at this
  simp only [Bool.and_eq_true] at this
  obtain ⟨p1,p2,p3,p4⟩:=this
 ·rw [hd,hd'] at p3
  have p3':(!(Nat.beq d d))=true:=p3
  rw [show Nat.beq d d=true from Nat.beq_refl d] at p3'
  cases p3'
 ·rw [hd] at p1
  have p1':(bZ (iG ops []) j i || !(has d (looks ops oj)))=true:=p1
  rw [has_iff.2 hl] at p1'
  simpa using p1'
 ·rw [hd] at p2
  have p2':(bZ (iG ops []) j i || !(has d (looks ops oi)))=true:=p2
  rw [has_iff.2 hl] at p2'
  simpa using p2'
 ·rw [h3,h4] at p4
  have p4':(bZ (iG ops []) j i || looseOk oi oj)=true:=p4
  cases ha:bZ (iG ops []) j i with
  | true=>exact .inl rfl
  | false=>
   rw [ha] at p4'
   have p5:(isCallV oi.op && (gV oj.op && oj.guard.isNone))=true:=p4'
   simp only [Bool.and_eq_true] at p5
   obtain ⟨q1,q2,q3⟩:=p5
   refine .inr ⟨isCallV_of q1,?_⟩
   have hm:=loose_mem (ops:=ops) (anc:=iG ops []) ops 0 j oj hj q2 (Option.isNone_iff_eq_none.1 q3) (by rw [Nat.zero_add];exact looseAt_of hij hi h3 ha)
   rw [Nat.zero_add] at hm
   unfold looseP
   have hle:=Nat.le_of_ble_eq_true hone
   match hl:kL ops (iG ops []) 0 ops with
   | []=>rw [hl] at hm;cases hm
   | [x]=>
    rw [hl] at hm
    exact List.mem_singleton.1 hm
   | _ ::_ ::_=>rw [hl] at hle;simp at hle
def disj (X Y:List Nat):Prop:=∀ x,x∈X→x∉Y
theorem clash_of {anc:List Nat} {i:Nat} {X:List Nat} {l:List (Nat×List Nat)} (h:clash anc i X l=false):∀ p,p∈l→bZ anc i p.1=true∨disj X p.2:=fun p hp=>by
 cases ha:bZ anc i p.1 with
 | true=>exact .inl rfl
 | false=>
  refine .inr fun x hx hy=>?_
  have:clash anc i X l=true:=List.any_eq_true.2 ⟨p,hp,by rw [ha];exact List.any_eq_true.2 ⟨x,hx,has_iff.2 hy⟩⟩
  rw [h] at this
  cases this
def Rd (tr:Nat→St) (i:Nat) (o:Oper):List Nat:=eN o.op (tr i)
def Wr (tr:Nat→St) (i:Nat) (o:Oper):List Nat:=cA o.op (tr i) ((tr i).next+8*i)
structure TraceOk (e:Env) (H:Nat→Option FH) (ops:List Oper) (anc:List Nat) (i0:Nat) (rd wr:List (Nat×List Nat)) (tr:Nat→St):Prop where
 step:∀ (j:Nat) (o:Oper),i0≤j→ops[j]?=some o→(dY e H ops j o (tr j)).run=some (tr (j+1))
 fr:∀ (j:Nat) (o:Oper),i0≤j→ops[j]?=some o→aV o.op=true→∀ p:Nat×List Nat,p∈wr→bZ anc j p.1=true∨disj (Rd tr j o) p.2
 fw:∀ (j:Nat) (o:Oper),i0≤j→ops[j]?=some o→aV o.op=false→∀ p:Nat×List Nat,p∈rd→bZ anc j p.1=true∨disj (Wr tr j o) p.2
 fww:∀ (j:Nat) (o:Oper),i0≤j→ops[j]?=some o→aV o.op=false→∀ p:Nat×List Nat,p∈wr→bZ anc j p.1=true∨disj (Wr tr j o) p.2
 wrwr:∀ (k j:Nat) (ok oj:Oper),i0≤k→k < j→ops[k]?=some ok→ops[j]?=some oj→aV oj.op=false→aV ok.op=false→bZ anc j k=true∨disj (Wr tr j oj) (Wr tr k ok)
 rdwr:∀ (k j:Nat) (ok oj:Oper),i0≤k→k < j→ops[k]?=some ok→ops[j]?=some oj→aV oj.op=true→aV ok.op=false→bZ anc j k=true∨disj (Rd tr j oj) (Wr tr k ok)
 wrrd:∀ (k j:Nat) (ok oj:Oper),i0≤k→k < j→ops[k]?=some ok→ops[j]?=some oj→aV oj.op=false→aV ok.op=true→bZ anc j k=true∨disj (Wr tr j oj) (Rd tr k ok)
theorem evOpsD_tr {R:Type} {ops:List Oper} {anc:List Nat} {K:St→Option R} {r:R}:∀ (l:List Oper) (i:Nat) (rd wr:List (Nat×List Nat)) (s:St),(∀ j,ops[i+j]?=l[j]?)→evOpsD e H ops anc i l rd wr s K=some r→
  ∃ tr:Nat→St,tr i=s∧TraceOk e H ops anc i rd wr tr∧K ⟨(tr (i+l.length)).slots,(tr (i+l.length)).mem,(tr (i+l.length)).next+8*(i+l.length)⟩=some r
 | [],i,rd,wr,s,hl,hr=>by
  have hno:∀ j o,i≤j→ops[j]?=some o→False:=fun j o hij hj=>by
   have:=hl (j - i)
   rw [show i+(j - i)=j by omega,hj] at this
   cases this
  exact ⟨fun _=>s,rfl,⟨fun j o hij hj=>(hno j o hij hj).elim,fun j o hij hj=>(hno j o hij hj).elim,fun j o hij hj=>(hno j o hij hj).elim,fun j o hij hj=>(hno j o hij hj).elim,fun k j ok oj hik hkj hk=>(hno k ok hik hk).elim,fun k j ok oj hik hkj hk=>(hno k ok hik hk).elim,fun k j ok oj hik hkj hk=>(hno k ok hik hk).elim⟩,hr⟩
 | o ::l,i,rd,wr,s,hl,hr=>by
  have hi:ops[i]?=some o:=by have:=hl 0;simpa using this
  have hl':∀ j,ops[i+1+j]?=l[j]?:=fun j=>by
   have:=hl (j+1)
   rw [show i+(j+1)=i+1+j by omega] at this
   simpa using this
  have main:∀ (rd' wr':List (Nat×List Nat)) (s1:St),(dY e H ops i o s).run=some s1→evOpsD e H ops anc (i+1) l rd' wr' s1 K=some r→(∀ p,p∈rd→p∈rd')→(∀ p,p∈wr→p∈wr')→
    (aV o.op=true→(i,eN o.op s)∈rd'∧∀ p,p∈wr→bZ anc i p.1=true∨disj (eN o.op s) p.2)→(aV o.op=false→(i,cA o.op s (s.next+8*i))∈wr'∧(∀ p,p∈rd→bZ anc i p.1=true∨disj (cA o.op s (s.next+8*i)) p.2)∧∀ p,p∈wr→bZ anc i p.1=true∨disj (cA o.op s (s.next+8*i)) p.2)→
    ∃ tr:Nat→St,tr i=s∧TraceOk e H ops anc i rd wr tr∧K ⟨(tr (i+(o ::l).length)).slots,(tr (i+(o ::l).length)).mem,(tr (i+(o ::l).length)).next+8*(i+(o ::l).length)⟩=some r:=by
   intro rd' wr' s1 hs1 hr1 hrd hwr hp hq
   obtain ⟨tr,t1,t2,t3⟩:=evOpsD_tr l (i+1) rd' wr' s1 hl' hr1
   let tr':Nat→St:=fun j=>if j=i then s else tr j
   have e0:tr' i=s:=if_pos rfl
   have e1:∀ j,i+1≤j→tr' j=tr j:=fun j hj=>if_neg (by omega)
   have eo:∀ j o',j=i→ops[j]?=some o'→o'=o:=fun j o' hj hj'=>by
    subst hj
    rw [hi] at hj'
    exact (Option.some.inj hj').symm
   refine ⟨tr',e0,⟨fun j o' hij hj=>?_,fun j o' hij hj hpj p hpm=>?_,fun j o' hij hj hpj p hpm=>?_,fun j o' hij hj hpj p hpm=>?_,fun k j ok oj hik hkj hk hj p1 p2=>?_,fun k j ok oj hik hkj hk hj p1 p2=>?_,fun k j ok oj hik hkj hk hj p1 p2=>?_⟩,?_⟩
   ·rcases Nat.eq_or_lt_of_le hij with hh | hh
    ·subst hh
     rw [eo _ _ rfl hj,e0,e1 _ (Nat.le_refl _),t1]
     exact hs1
    ·rw [e1 j hh,e1 (j+1) (by omega)]
     exact t2.step j o' hh hj
   ·rcases Nat.eq_or_lt_of_le hij with hh | hh
    ·subst hh
     have:=eo _ _ rfl hj
     subst this
     unfold Rd
     rw [e0]
     exact (hp hpj).2 p hpm
    ·unfold Rd
     rw [e1 j hh]
     exact t2.fr j o' hh hj hpj p (hwr p hpm)
   ·rcases Nat.eq_or_lt_of_le hij with hh | hh
    ·subst hh
     have:=eo _ _ rfl hj
     subst this
     unfold Wr
     rw [e0]
     exact (hq hpj).2.1 p hpm
    ·unfold Wr
     rw [e1 j hh]
     exact t2.fw j o' hh hj hpj p (hrd p hpm)
   ·rcases Nat.eq_or_lt_of_le hij with hh | hh
    ·subst hh
     have:=eo _ _ rfl hj
     subst this
     unfold Wr
     rw [e0]
     exact (hq hpj).2.2 p hpm
    ·unfold Wr
     rw [e1 j hh]
     exact t2.fww j o' hh hj hpj p (hwr p hpm)
   ·rcases Nat.eq_or_lt_of_le hik with hh | hh
    ·subst hh
     have:=eo _ _ rfl hk
     subst this
     unfold Wr
     rw [e0,e1 j hkj]
     exact t2.fww j oj hkj hj p1 _ (hq p2).1
    ·unfold Wr
     rw [e1 j (by omega),e1 k hh]
     exact t2.wrwr k j ok oj hh hkj hk hj p1 p2
   ·rcases Nat.eq_or_lt_of_le hik with hh | hh
    ·subst hh
     have:=eo _ _ rfl hk
     subst this
     unfold Rd Wr
     rw [e0,e1 j hkj]
     exact t2.fr j oj hkj hj p1 _ (hq p2).1
    ·unfold Rd Wr
     rw [e1 j (by omega),e1 k hh]
     exact t2.rdwr k j ok oj hh hkj hk hj p1 p2
   ·rcases Nat.eq_or_lt_of_le hik with hh | hh
    ·subst hh
     have:=eo _ _ rfl hk
     subst this
     unfold Rd Wr
     rw [e0,e1 j hkj]
     exact t2.fw j oj hkj hj p1 _ (hp p2).1
    ·unfold Rd Wr
     rw [e1 j (by omega),e1 k hh]
     exact t2.wrrd k j ok oj hh hkj hk hj p1 p2
   ·rw [List.length_cons,show i+(l.length+1)=i+1+l.length by omega,e1 _ (by omega)]
    exact t3
  unfold evOpsD at hr
  cases hp:aV o.op with
  | true=>
   rw [hp] at hr
   simp only [cond_true] at hr
   cases hc:clash anc i (eN o.op s) wr with
   | true=>rw [hc] at hr;cases hr
   | false=>
    rw [hc] at hr
    simp only [cond_false] at hr
    rw [Tr.cps_run] at hr
    obtain ⟨⟨s1,kn1⟩,hs0,hr⟩:=Option.bind_eq_some_iff.1 hr
    have hs1:=(stepG_ok (KnOk.nil s) hs0).1
    exact main _ _ s1 hs1 hr (fun p h=>List.mem_cons_of_mem _ h) (fun p h=>h) (fun _=>⟨List.mem_cons_self,clash_of hc⟩) (fun hh=>by rw [hp] at hh;cases hh)
  | false=>
   rw [hp] at hr
   simp only [cond_false] at hr
   cases hc0:(clash anc i (cA o.op s (s.next+8*i)) rd || clash anc i (cA o.op s (s.next+8*i)) wr) with
   | true=>rw [hc0] at hr;cases hr
   | false=>
    rw [hc0] at hr
    rw [Bool.or_eq_false_iff] at hc0
    obtain ⟨hc,hc'⟩:=hc0
    simp only [cond_false] at hr
    rw [Tr.cps_run] at hr
    obtain ⟨⟨s1,kn1⟩,hs0,hr⟩:=Option.bind_eq_some_iff.1 hr
    have hs1:=(stepG_ok (KnOk.nil s) hs0).1
    exact main _ _ s1 hs1 hr (fun p h=>h) (fun p h=>List.mem_cons_of_mem _ h) (fun hh=>by rw [hp] at hh;cases hh) (fun _=>⟨List.mem_cons_self,clash_of hc,clash_of hc'⟩)
end Go.Ev
