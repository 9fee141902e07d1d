/-
 The abstract evaluator: regions whose order is given.
-/
import Derived.Test.YtgpjfmjceamonaaGreatDoorEvY
namespace Go.Ev
variable {P:Program} {e:Env} {H:Nat→Option FH} {Γ:Actv} {C:Ctx} {s:St} {a:Act} {w:World}
def wr1 (np:Nat):Option Nat→Bool
 | some d=>Nat.ble np d
 | none=>true
def wrOps (np:Nat):List Oper→Bool
 | []=>true
 | o ::r=>wr1 np o.dst && wrOps np r
def fA (np:Nat):Code→Bool
 | .region _ ops _=>wrOps np ops.toList
 | .seq a b=>fA np a && fA np b
 | .cond _ a b=>fA np a && fA np b
 | .block _ c=>fA np c
 | .loop c=>fA np c
 | _=>true
theorem wrOps_get {np:Nat}:∀ {l:List Oper} {i:Nat} {o:Oper},wrOps np l=true→l[i]?=some o→∀ k,o.dst=some k→np≤k:=by
 intro l
 induction l with
 | nil=>intro i o _ hi;cases hi
 | cons o' r ih=>
  intro i o h hi k hk
  have h':(wr1 np o'.dst && wrOps np r)=true:=h
  rw [Bool.and_eq_true] at h'
  cases i with
  | zero=>
   rw [List.getElem?_cons_zero] at hi
   have ho:=Option.some.inj hi
   rw [ho,hk] at h'
   exact Nat.le_of_ble_eq_true h'.1
  | succ i=>exact ih h'.2 (by rw [List.getElem?_cons_succ] at hi;exact hi) k hk
theorem guard_rel {ops:Array Oper} {o:Oper} {b:Bool} (h:RelC e Γ C s a w) (hg:dC ops.toList s o=some b):Region.wanted o (yielded ops a.tmps)=b:=by
 unfold dC at hg
 unfold Region.wanted
 split at hg
 ·rename_i hn
  cases hg
  rw [hn]
 ·rename_i j want hn
  rw [hn]
  split at hg
  ·rename_i o' ho'
   split at hg
   ·rename_i d hd
    split at hg
    ·rename_i bv hbv
     cases hg
     have ho'':ops[j]?=some o':=by rw [← Array.getElem?_toList];exact ho'
     have hlt:d < s.slots.length:=by
      rcases Nat.lt_or_ge d s.slots.length with hh | hh
      ·exact hh
      ·unfold St.get at hbv
       rw [List.getD_eq_getElem?_getD,List.getElem?_eq_none hh] at hbv
       cases hbv
     have hv:=fW h d
     rw [hbv] at hv
     have hv':a.tmps.getD d undef= .bool bv:=hv
     have hlt':d < a.tmps.size:=by rw [← h.len];exact hlt
     have hy:yielded ops a.tmps j=some bv:=by
      unfold yielded
      rw [ho'']
      simp only [Option.bind_some,hd]
      rw [Array.getElem?_eq_getElem hlt']
      have:a.tmps[d]= .bool bv:=by simpa [Array.getD,hlt'] using hv'
      rw [this]
     show (yielded ops a.tmps j==some want)=_
     rw [hy]
     cases want<;>cases bv<;>rfl
    ·rename_i xs hbv
     cases hg
     have ho'':ops[j]?=some o':=by rw [← Array.getElem?_toList];exact ho'
     have hv:=fW h d
     rw [hbv] at hv
     obtain ⟨arr,hv',_⟩:=hv
     have hy:yielded ops a.tmps j=none:=by
      unfold yielded
      rw [ho'']
      simp only [Option.bind_some,hd]
      cases hq:a.tmps[d]? with
      | none=>rfl
      | some q=>
       have:q= .tuple arr:=by
        rw [← hv']
        simp [Array.getD_eq_getD_getElem?,hq]
       rw [this]
     show (yielded ops a.tmps j==some want)=_
     rw [hy]
     cases want<;>rfl
    ·cases hg
   ·cases hg
  ·cases hg
theorem jM {ops:Array Oper} {i:Nat} {o:Oper} {s':St} {Q:Exit→Act→World→Prop} {K:Act→World→Prop} (hok:EnvOk P e) (hH:∀ g h,H g=some h→jY P e g h) (hi:ops[i]?=some o) (hwr:∀ k,o.dst=some k→Γ.np≤k)
  (hs:(dY e H ops.toList i o s).run=some s') (h:RelC e Γ C s a w) (hK:s'.slots.length=s.slots.length→∀ C' a' w',RelC e Γ C' s' a' w'→K a' w'):wpOp P ops Q i K a w:=by
 unfold dY at hs
 split at hs
 ·cases hs
 rename_i b hg
 have hw:=guard_rel h hg
 unfold wpOp
 simp only [hi]
 rw [hw]
 have hlen:∀ (r:AV×aX),(s.put o.dst r).slots.length=s.slots.length:=fun r=>by
  unfold St.put
  split
  ·exact List.length_set
  ·rfl
 cases b with
 | false=>
  simp only [Tr.run,cond_false] at hs
  cases hs
  exact hK (hlen _) C _ w (put_rel h (Post.same (x:=jJ) (v:=undef) h ⟨#[],rfl,trivial⟩) o.dst hwr)
 | true=>
  simp only [Tr.run,cond_true] at hs
  rw [Tr.run_bind] at hs
  obtain ⟨r,hr,hs⟩:=Option.bind_eq_some_iff.1 hs
  cases hs
  refine .inl ?_
  unfold Oper.wp
  rcases opT_rel hok hH h hr with ⟨v,w',C',h1,h2⟩ | ⟨w',C',h1,h2⟩ | ⟨f,args,h1,h2⟩
  ·rw [h1]
   exact hK (hlen _) C' _ w' (put_rel h h2 o.dst hwr)
  ·rw [h1]
   exact hK (hlen _) C' _ w' (put_rel h h2 o.dst hwr)
  ·rw [h1]
   refine Calls.mono h2 fun en w' hh=>?_
   obtain ⟨v,C',rfl,hp⟩:=hh
   exact hK (hlen _) C' _ w' (put_rel h hp o.dst hwr)
def KnOk (kn:Kn) (s:St):Prop:=∀ d b,bL kn d=some b→s.get d= .v (.one (.bool b))
theorem KnOk.nil (s:St):KnOk [] s:=fun _ _ h=>by cases h
theorem look_cons {kn:Kn} {d k:Nat} {b x:Bool} (h:bL ((d,b) ::kn) k=some x):(d=k∧b=x)∨bL kn k=some x:=by
 unfold bL at h
 cases hq:Nat.beq d k with
 | true=>rw [hq] at h;exact .inl ⟨Nat.eq_of_beq_eq_true hq,Option.some.inj h⟩
 | false=>rw [hq] at h;exact .inr h
theorem look_filter {d k:Nat} {x:Bool}:∀ {kn:Kn},bL (kn.filter fun p=>!(Nat.beq p.1 d)) k=some x→k≠d∧bL kn k=some x
 | [],h=>by cases h
 | (j,b) ::r,h=>by
  rw [List.filter_cons] at h
  cases hj:Nat.beq j d with
  | true=>
   rw [show (!(Nat.beq (j,b).1 d))=false by rw [hj];rfl] at h
   obtain ⟨h1,h2⟩:=look_filter (kn:=r) (by simpa using h)
   refine ⟨h1,?_⟩
   unfold bL
   cases hq:Nat.beq j k with
   | false=>exact h2
   | true=>
    have e1:=Nat.eq_of_beq_eq_true hj
    have e2:=Nat.eq_of_beq_eq_true hq
    exact absurd (e2.symm.trans e1) h1
  | false=>
   rw [show (!(Nat.beq (j,b).1 d))=true by rw [hj];rfl] at h
   have h':bL ((j,b) ::r.filter fun p=>!(Nat.beq p.1 d)) k=some x:=by simpa using h
   cases hq:Nat.beq j k with
   | true=>
    unfold bL at h' ⊢
    rw [hq] at h' ⊢
    refine ⟨fun hh=>?_,h'⟩
    have e2:=Nat.eq_of_beq_eq_true hq
    rw [e2,hh,show Nat.beq d d=true from Nat.beq_refl d] at hj
    cases hj
   | false=>
    unfold bL at h' ⊢
    rw [hq] at h' ⊢
    exact look_filter (kn:=r) h'
theorem look_drop {d k:Nat} {x:Bool} {kn:Kn} (h:bL (dropK kn (some d)) k=some x):k≠d∧bL kn k=some x:=look_filter h
theorem get_put_ne {s:St} {d:Nat} {r:AV×aX} {k:Nat} (h:k≠d):(s.put (some d) r).get k=s.get k:=by
 unfold St.get St.put
 simp only [List.getD_eq_getElem?_getD]
 rw [List.getElem?_set,if_neg (fun hh=>h hh.symm)]
theorem KnOk.put {kn:Kn} {s:St} (h:KnOk kn s) (d:Option Nat) (r:AV×aX):KnOk (dropK kn d) (s.put d r):=fun k b hk=>by
 cases d with
 | none=>exact h k b hk
 | some d=>
  obtain ⟨h1,h2⟩:=look_drop hk
  rw [get_put_ne h1]
  exact h k b h2
theorem litOf_ok {kn:Kn} {s:St} (h:KnOk kn s) {x:Operand} {b:Bool} (hx:litOf kn x=some b):bC s x= .v (.one (.bool b)):=by
 unfold litOf at hx
 split at hx
 ·exact h _ _ hx
 ·cases hx;rfl
 ·cases hx
theorem get_put_eq {s:St} {d:Nat} {r:AV×aX} (hd:d < s.slots.length):(s.put (some d) r).get d=r.1:=by
 unfold St.get St.put
 simp only [List.getD_eq_getElem?_getD]
 rw [List.getElem?_set,if_pos rfl,if_pos hd]
 rfl
theorem handsOn_ok {kn:Kn} {s:St} (h:KnOk kn s) {o:Op} {id:Nat} {x:Operand} (hx:handsOn kn o=some x):(opT e H o id s).run=some (bC s x,s.mem):=by
 unfold handsOn at hx
 split at hx
 ·cases hx;rfl
 ·cases hx;rfl
 ·rename_i t p q
  have:∀ c,bL kn t=some c→bC s (.tmp t)= .v (.one (.bool c)):=fun c hc=>h t c hc
  split at hx
  ·rename_i hc
   cases hx
   simp only [opT,opY,kJ,jO,bA,this true hc]
   rfl
  ·rename_i hc
   cases hx
   simp only [opT,opY,kJ,jO,bA,this false hc]
   rfl
  ·cases hx
 ·cases hx
theorem opK_run {kn:Kn} {s:St} (h:KnOk kn s) {o:Op} {id:Nat}:(opK e H kn o id s).run=(opT e H o id s).run:=by
 unfold opK
 split
 ·rename_i x hx
  rw [handsOn_ok h hx]
  rfl
 ·rfl
theorem runG_ok {kn:Kn} {s:St} {i:Nat} {o:Oper} {p:St×Kn} (h:KnOk kn s) (hr:(runG e H kn i o s).run=some p):((opT e H o.op (s.next+8*i) s).bind fun r=> .ret (s.put o.dst r)).run=some p.1∧((∀ d,o.dst=some d→d < s.slots.length)→KnOk p.2 p.1):=by
 unfold runG at hr
 rw [Tr.run_bind,opK_run h] at hr
 obtain ⟨r,hr1,hr2⟩:=Option.bind_eq_some_iff.1 hr
 cases hr2
 refine ⟨by rw [Tr.run_bind,hr1];rfl,fun hd=>?_⟩
 unfold knNew
 split
 ·rename_i x d hx hdd
  split
  ·rename_i b hb
   intro k c hk
   rcases look_cons hk with ⟨rfl,rfl⟩ | hk
   ·rw [handsOn_ok h hx] at hr1
    cases hr1
    rw [hdd,get_put_eq (hd _ hdd)]
    exact litOf_ok h hb
   ·exact h.put _ _ k c hk
  ·exact h.put _ _
 ·exact h.put _ _
theorem KnOk.lit {kn:Kn} {s:St} (h:KnOk kn s) {d:Nat} {b:Bool} (hd:s.get d= .v (.one (.bool b))):KnOk ((d,b) ::kn) s:=fun k c hk=>by
 rcases look_cons hk with ⟨rfl,rfl⟩ | hk
 ·exact hd
 ·exact h k c hk
theorem stepG_ok {kn:Kn} {ops:List Oper} {i:Nat} {o:Oper} {s:St} {p:St×Kn} (h:KnOk kn s) (hr:(stepG e H ops kn i o s).run=some p):(dY e H ops i o s).run=some p.1∧((∀ d,o.dst=some d→d < s.slots.length)→KnOk p.2 p.1):=by
 unfold stepG at hr
 unfold dY dC
 unfold guardSl at hr
 cases hg:o.guard with
 | none=>
  rw [hg] at hr
  exact runG_ok h hr
 | some g=>
  obtain ⟨j,want⟩:=g
  rw [hg] at hr
  simp only at hr ⊢
  cases ho:ops[j]? with
  | none=>rw [ho] at hr;cases hr
  | some o'=>
   rw [ho] at hr
   simp only at hr ⊢
   cases hdd:o'.dst with
   | none=>rw [hdd] at hr;cases hr
   | some d=>
    rw [hdd] at hr
    simp only at hr ⊢
    cases hl:bL kn d with
    | some b=>
     rw [hl] at hr
     have hv:=h d b hl
     rw [hv]
     simp only at hr ⊢
     cases want<;>cases b<;>simp only at hr
     ·exact runG_ok h hr
     ·cases hr;exact ⟨rfl,fun _=>h.put _ _⟩
     ·cases hr;exact ⟨rfl,fun _=>h.put _ _⟩
     ·exact runG_ok h hr
    | none=>
     rw [hl] at hr
     simp only at hr
     cases hv:s.get d with
     | tup l=>
      rw [hv] at hr
      cases hr
      exact ⟨rfl,fun _=>h.put _ _⟩
     | v x=>
      rw [hv] at hr
      cases x with
      | agg l=>cases hr
      | one c=>
       cases c with
       | bool b=>
        simp only at hr ⊢
        cases want<;>cases b<;>simp only [Tr.run,cond_true,cond_false] at hr
        ·rw [St.lit_same hv] at hr
         exact runG_ok (h.lit hv) hr
        ·rw [St.lit_same hv] at hr
         cases hr
         exact ⟨rfl,fun _=>(h.lit hv).put _ _⟩
        ·rw [St.lit_same hv] at hr
         cases hr
         exact ⟨rfl,fun _=>(h.lit hv).put _ _⟩
        ·rw [St.lit_same hv] at hr
         exact runG_ok (h.lit hv) hr
       | _=>cases hr
theorem put_len' (s:St) (d:Option Nat) (r:AV×aX):(s.put d r).slots.length=s.slots.length:=by
 cases d with
 | none=>rfl
 | some d=>exact List.length_set
theorem exV_val {m:aX} {v:VS} {l:Vl} {x:v.den} {fs os:List Nat} (hv:isVal v=true) (h:exV m v l=some (x,fs,os)):os=[]:=by
 cases v with
 | val t=>
  have h':(match fS m t l with
   | some (y,fs)=>some (y,fs,[])
   | none=>none)=some (x,fs,os):=h
  split at h'
  ·cases h'
   rfl
  ·cases h'
 | own E t=>cases hv
 | eat E t=>cases hv
 | box T cs off=>cases hv
 | mp=>cases hv
 | rc cs=>cases hv
 | deep E d fx=>cases hv
 | lent cs=>cases hv
theorem exVs_val {m:aX}:∀ {vs:List VS} {l:List Vl} {x:VS.dens vs} {fs os:List Nat},vs.all isVal=true→exVs m vs l=some (x,fs,os)→os=[]
 | [],[],_,_,_,_,h=>by cases h;rfl
 | [],_ ::_,_,_,_,_,h=>by cases h
 | v ::r,[],_,_,_,_,h=>by cases h
 | v ::r,a ::l,x,fs,os,hv,h=>by
  rw [List.all_cons,Bool.and_eq_true] at hv
  unfold exVs at h
  split at h
  ·rename_i y f1 o1 h1
   split at h
   ·rename_i z f2 o2 h2
    cases h
    rw [exV_val hv.1 h1,exVs_val hv.2 h2]
    rfl
   ·cases h
  ·cases h
theorem backs_val:∀ {ps:List VS},ps.all isVal=true→bR ps=[]
 | [],_=>rfl
 | .val _ ::r,h=>by
  rw [List.all_cons,Bool.and_eq_true] at h
  exact backs_val (ps:=r) h.2
 | .own _ _ ::r,h=>by cases h
 | .eat _ _ ::r,h=>by cases h
 | .box _ _ _ ::r,h=>by cases h
 | .mp ::r,h=>by cases h
 | .rc _ ::r,h=>by cases h
theorem putBacks_val:∀ {ps:List VS} {m:aX} {n:Nat} {l:List Vl} {x:VS.dens (bR ps)} {y:aX×Nat},ps.all isVal=true→bE m n ps l x=some y→y=(m,n)
 | [],_,_,[],_,_,_,h=>by cases h;rfl
 | [],_,_,_ ::_,_,_,_,h=>by cases h
 | .val _ ::r,_,_,[],_,_,_,h=>by cases h
 | .val _ ::r,m,n,_ ::l,x,y,hv,h=>by
  rw [List.all_cons,Bool.and_eq_true] at hv
  exact putBacks_val (ps:=r) (l:=l) (x:=x) hv.2 h
 | .own _ _ ::r,_,_,_,_,_,hv,_=>by cases hv
 | .eat _ _ ::r,_,_,_,_,_,hv,_=>by cases hv
 | .box _ _ _ ::r,_,_,_,_,_,hv,_=>by cases hv
 | .mp ::r,_,_,_,_,_,hv,_=>by cases hv
 | .rc _ ::r,_,_,_,_,_,hv,_=>by cases hv
theorem mkVs_val:∀ {vs:List VS} {x:VS.dens vs} {m:aX} {n:Nat},vs.all isVal=true→(eB vs x m n).2.1=m
 | [],_,_,_,_=>rfl
 | .val t ::r,x,m,n,hv=>by
  rw [List.all_cons,Bool.and_eq_true] at hv
  exact mkVs_val (vs:=r) (x:=x.2) (m:=m) (n:=n) hv.2
 | .own _ _ ::r,_,_,_,hv=>by cases hv
 | .eat _ _ ::r,_,_,_,hv=>by cases hv
 | .box _ _ _ ::r,_,_,_,hv=>by cases hv
 | .mp ::r,_,_,_,hv=>by cases hv
 | .rc _ ::r,_,_,_,hv=>by cases hv
theorem callT_quiet {h:FH} {l:List Vl} {m:aX} {id:Nat} {r:AV×aX} (h1:h.ps.all isVal=true) (h2:h.rs.all isVal=true) (h3:h.rs.all eG=true) (hr:(callT h l m id).run=some r):r.2=m:=by
 unfold callT callL at hr
 split at hr
 ·rename_i x fs os hx
  have hos:=exVs_val h1 hx
  subst hos
  have hb:(bR h.ps).all eG=true:=by rw [backs_val h1];rfl
  rw [h3,hb] at hr
  cases hc:(sep fs [] && fresh m id 8) with
  | false=>rw [hc] at hr;cases hr
  | true=>
   rw [hc] at hr
   simp only [cond_true,Tr.run] at hr
   obtain ⟨y,_,hr⟩:=Option.bind_eq_some_iff.1 hr
   split at hr
   ·rename_i m' n hp
    have hp':=putBacks_val h1 hp
    cases hp'
    have hm:=mkVs_val (x:=y.1) (m:=(dG (bif true && true then m else bU m fs) [])) (n:=id) h2
    revert hr
    generalize eB h.rs y.1 (dG (bif true && true then m else bU m fs) []) id=q at hm
    obtain ⟨l2,m2,n2⟩:=q
    intro hr
    simp only at hr
    cases hn:Nat.ble n2 (id+8) with
    | false=>rw [hn] at hr;cases hr
    | true=>
     rw [hn] at hr
     cases hr
     exact hm
   ·cases hr
 ·cases hr
theorem quiet_mem {o:Op} {id:Nat} {r:AV×aX} (hq:eO H o=true) (hr:(opT e H o id s).run=some r):r.2=s.mem:=by
 unfold eO at hq
 cases hp:aV o with
 | true=>
  have:=(opT_pure (s2:=s) (id2:=id) hp hr (fun _ _=>rfl) (fun _ _=>rfl)).1
  rw [hr] at this
  exact congrArg Prod.snd (Option.some.inj this)
 | false=>
  rw [hp,Bool.false_or] at hq
  split at hq
  ·rename_i c
   split at hq
   ·rename_i g hc
    split at hq
    ·rename_i h hh
     rw [Bool.and_eq_true,Bool.and_eq_true] at hq
     have hy:opY e H (.call c) id s=none:=by simp only [opY,hc]
     unfold opT at hr
     rw [hy] at hr
     replace hr:(kJ e H (.call c) id s).run=some r:=hr
     unfold kJ at hr
     split at hr
     ·rename_i t ht
      simp only [jO,hc] at ht
      split at ht
      rotate_left
      ·cases ht
      rename_i g' caps hg
      have hg':(AV.v (Vl.one (CV.clo g [])))= .v (.one (.clo g' caps)):=hg
      cases hg'
      split at ht
      rotate_left
      ·cases ht
      split at ht
      rotate_left
      ·cases ht
      cases ht
      split at hr
      rotate_left
      ·cases hr
      rename_i h2 hH2 _
      have he:h2=h:=Option.some.inj (hH2.symm.trans hh)
      subst he
      have:=(aD hr).1
      rw [hq.1,Bool.and_eq_true] at this
      cases this.2
     ·unfold bA at hr
      simp only [hc] at hr
      split at hr
      ·rename_i g' caps l hg hl
       have hg':(AV.v (Vl.one (CV.clo g [])))= .v (.one (.clo g' caps)):=hg
       cases hg'
       rw [hh] at hr
       exact callT_quiet hq.1 hq.2.1 hq.2.2 hr
      ·cases hr
    ·cases hq
   ·cases hq
  ·cases hq
theorem hO:∀ {l:List Oper} {sl:List AV} {k:Nat},k∉cJ l→(iI sl l)[k]?=sl[k]?
 | [],_,_,_=>rfl
 | o ::r,sl,k,h=>by
  unfold iI
  unfold cJ at h
  cases hd:o.dst with
  | none=>
   rw [hd] at h
   exact hO (l:=r) h
  | some d=>
   rw [hd] at h
   simp only [List.mem_cons,not_or] at h
   simp only
   rw [hO (l:=r) h.2,List.getElem?_set,if_neg (fun hh=>h.1 hh.symm)]
theorem lH:∀ {l:List Oper} {sl:List AV} {k:Nat} {x:AV},k∈cJ l→(iI sl l)[k]?=some x→x=AV.junk
 | [],_,_,_,h,_=>by cases h
 | o ::r,sl,k,x,h,hx=>by
  unfold iI at hx
  unfold cJ at h
  by_cases hk:k∈cJ r
  ·cases hd:o.dst with
   | none=>
    rw [hd] at hx
    exact lH (l:=r) hk hx
   | some d=>
    rw [hd] at hx
    exact lH (l:=r) hk hx
  ·cases hd:o.dst with
   | none=>
    rw [hd] at h
    exact absurd h hk
   | some d=>
    rw [hd] at h hx
    simp only [List.mem_cons] at h
    rcases h with h | h
    ·subst h
     simp only at hx
     rw [hO (l:=r) hk,List.getElem?_set,if_pos rfl] at hx
     split at hx
     ·exact (Option.some.inj hx).symm
     ·cases hx
    ·exact absurd h hk
theorem hG:∀ {l:List Oper} {sl:List AV},(iI sl l).length=sl.length
 | [],_=>rfl
 | o ::r,sl=>by
  unfold iI
  cases hd:o.dst with
  | none=>exact hG (l:=r)
  | some d=>
   simp only
   rw [hG (l:=r),List.length_set]
structure Left (l:List Oper) (d:Nat) (b:Bool) (s s':St):Prop where
 len:s'.slots.length=s.slots.length
 mem:s'.mem=s.mem
 keep:∀ k,k∉cJ l→s'.slots[k]?=s.slots[k]?
 res:s'.get d= .v (.one (.bool b))
theorem merged_rel {l:List Oper} {d:Nat} {b:Bool} {s':St} (hl:Left l d b s s') (h:RelC e Γ C s' a w):RelC e Γ C (s.merged l d b) a w:=by
 have hlen:(s.merged l d b).slots.length=s.slots.length:=by
  unfold St.merged
  rw [List.length_set,hG]
 refine ⟨h.defers,by rw [hlen,← hl.len];exact h.len,fun k x v hx hv=>?_,h.par,by have:=h.mem;rw [hl.mem] at this;exact this,h.W⟩
 unfold St.merged at hx
 rw [List.getElem?_set] at hx
 split at hx
 ·rename_i hk
  subst hk
  split at hx
  ·have hx':=Option.some.inj hx
   have hr:=hl.res
   unfold St.get at hr
   rw [List.getD_eq_getElem?_getD] at hr
   cases hq:s'.slots[d]? with
   | none=>
    rw [hq] at hr
    cases hr
   | some y=>
    rw [hq] at hr
    have:y= .v (.one (.bool b)):=hr
    rw [← hx',← this]
    exact h.slots d y v hq hv
  ·cases hx
 ·by_cases hk:k∈cJ l
  ·rw [lH hk hx]
   exact trivial
  ·rw [hO hk] at hx
   exact h.slots k x v (by rw [hl.keep k hk];exact hx) hv
theorem stepT_quiet {ops:List Oper} {i:Nat} {o:Oper} {s':St} (hq:eO H o.op=true) (hs:(dY e H ops i o s).run=some s'):s'.mem=s.mem∧s'.slots.length=s.slots.length∧∀ k,o.dst≠some k→s'.slots[k]?=s.slots[k]?:=by
 have key:∀ (r:AV×aX) (k:Nat),o.dst≠some k→(s.put o.dst r).slots[k]?=s.slots[k]?:=fun r k hk=>by
  unfold St.put
  split
  ·rename_i d hd
   rw [List.getElem?_set,if_neg (fun hh=>hk (by rw [hd,hh]))]
  ·rfl
 unfold dY at hs
 split at hs
 ·cases hs
 rename_i b hg
 cases b with
 | false=>
  simp only [Tr.run,cond_false] at hs
  cases hs
  exact ⟨rfl,put_len' _ _ _,key _⟩
 | true=>
  simp only [Tr.run,cond_true] at hs
  rw [Tr.run_bind] at hs
  obtain ⟨r,hr,hs⟩:=Option.bind_eq_some_iff.1 hs
  cases hs
  exact ⟨quiet_mem hq hr,put_len' _ _ _,key _⟩
theorem grp_sound {ops:Array Oper} {Q:Exit→Act→World→Prop} {d:Nat} {b:Bool} (hok:EnvOk P e) (hH:∀ g h,H g=some h→jY P e g h) (hwr:wrOps Γ.np ops.toList=true) :
  ∀ (l:List Oper) (i m:Nat) (kn:Kn) (s:St) (C:Ctx) (a:Act) (w:World),(∀ j o,l[j]?=some o→ops[i+j]?=some o)→l.all (fun o=>eO H o.op)=true→KnOk kn s→(∀ o,o∈l→∀ d,o.dst=some d→d < s.slots.length)→(grp e H ops.toList d i l kn s).run=some b→RelC e Γ C s a w→
  (∀ s' C' a' w',Left l d b s s'→RelC e Γ C' s' a' w'→wpOps P ops Q (List.range' (i+l.length) m) a' w')→wpOps P ops Q (List.range' i (l.length+m)) a w
 | [],i,m,kn,s,C,a,w,_,_,_,_,hr,h,hQ=>by
  unfold grp at hr
  rw [List.length_nil,Nat.zero_add]
  refine hQ s C a w ⟨rfl,rfl,fun _ _=>rfl,?_⟩ h
  split at hr
  ·rename_i b' hb
   cases hr
   exact hb
  ·cases hr
 | o ::l,i,m,kn,s,C,a,w,hl,hq,hkn,hds,hr,h,hQ=>by
  unfold grp at hr
  rw [Tr.run_bind] at hr
  obtain ⟨⟨s1,kn1⟩,hs0,hr⟩:=Option.bind_eq_some_iff.1 hr
  obtain ⟨hs1,hkn1⟩:=stepG_ok hkn hs0
  have hkn1:=hkn1 (hds o List.mem_cons_self)
  have hlen1:s1.slots.length=s.slots.length:=(stepT_quiet (List.all_eq_true.1 hq o List.mem_cons_self) hs1).2.1
  rw [List.all_cons,Bool.and_eq_true] at hq
  have hi:ops[i]?=some o:=hl 0 o rfl
  rw [List.length_cons,show l.length+1+m=(l.length+m)+1 by omega,List.range'_succ,wpOps_cons]
  refine jM hok hH hi (wrOps_get hwr (by rw [Array.getElem?_toList];exact hi)) hs1 h fun hlen C' a' w' h'=>?_
  refine grp_sound hok hH hwr l (i+1) m kn1 s1 C' a' w' (fun j o' hj=>?_) hq.2 hkn1 (fun o' ho' d hd=>by rw [hlen1];exact hds o' (List.mem_cons_of_mem _ ho') d hd) hr h' fun s' C2 a2 w2 h1 h2=>?_
  ·have:=hl (j+1) o' (by simpa using hj)
   rw [← this]
   congr 1
   omega
  ·obtain ⟨g1,g2,g3⟩:=stepT_quiet hq.1 hs1
   have:=hQ s' C2 a2 w2 ⟨h1.len.trans g2,h1.mem.trans g1,fun k hk=>?_,h1.res⟩ h2
   ·rw [List.length_cons,show i+(l.length+1)=i+1+l.length by omega] at this
    exact this
   ·unfold cJ at hk
    cases hd:o.dst with
    | none=>
     rw [hd] at hk
     rw [h1.keep k hk,g3 k (by rw [hd];intro hh;cases hh)]
    | some d'=>
     rw [hd] at hk
     simp only [List.mem_cons,not_or] at hk
     rw [h1.keep k hk.2,g3 k (by rw [hd];intro hh;exact hk.1 (Option.some.inj hh).symm)]
structure Keep (l:List Oper) (s s':St):Prop where
 len:s'.slots.length=s.slots.length
 mem:s'.mem=s.mem
 keep:∀ k,k∉cJ l→s'.slots[k]?=s.slots[k]?
theorem Keep.refl (l:List Oper) (s:St):Keep l s s:=⟨rfl,rfl,fun _ _=>rfl⟩
theorem gW:∀ {l l':List Oper},cJ (l ++l')=cJ l ++cJ l'
 | [],_=>rfl
 | o ::r,l'=>by
  rw [List.cons_append]
  have ih:=gW (l:=r) (l':=l')
  simp only [cJ,ih]
  cases o.dst<;>rfl
theorem Keep.trans {l l':List Oper} {s s1 s2:St} (h:Keep l s s1) (h':Keep l' s1 s2):Keep (l ++l') s s2:=
 ⟨h'.len.trans h.len,h'.mem.trans h.mem,fun k hk=>by
  rw [gW,List.mem_append,not_or] at hk
  rw [h'.keep k hk.2,h.keep k hk.1]⟩
theorem grpLen_le:∀ {l:List Oper} {n d:Nat},grpLen l=some (n,d)→n+1≤l.length
 | [],_,_,h=>by cases h
 | o ::r,n,d,h=>by
  unfold grpLen at h
  split at h
  ·split at h
   ·rename_i n' d' h'
    cases h
    have:=grpLen_le h'
    rw [List.length_cons]
    omega
   ·cases h
  ·rw [List.length_cons]
   split at h
   ·split at h
    ·cases h
     omega
    ·cases h
   ·cases h
theorem grpAt_of {o:Oper} {r:List Oper} {n d:Nat} (h:grpAt H o r=some (n,d)):n≤r.length∧(o ::r.take n).all (fun o=>eO H o.op)=true:=by
 unfold grpAt at h
 split at h
 ·cases h
 ·split at h
  ·rename_i n' d' h'
   cases hc:(eO H o.op && (r.take (n'+1)).all (fun o=>eO H o.op)) with
   | false=>rw [hc] at h;cases h
   | true=>
    rw [hc] at h
    cases h
    exact ⟨grpLen_le h',by rw [List.all_cons];exact hc⟩
  ·cases h
theorem dstsLt_of {n:Nat}:∀ {l:List Oper},dstsLt n l=true→∀ o,o∈l→∀ d,o.dst=some d→d < n
 | [],_,_,h,_,_=>by cases h
 | o ::r,h,o',ho',d,hd=>by
  unfold dstsLt cJ at h
  rcases List.mem_cons.1 ho' with rfl | ho'
  ·rw [hd] at h
   rw [List.all_cons,Bool.and_eq_true] at h
   exact Nat.le_of_ble_eq_true h.1
  ·refine dstsLt_of (l:=r) ?_ o' ho' d hd
   cases ho:o.dst with
   | none=>rw [ho] at h;exact h
   | some k=>
    rw [ho] at h
    rw [List.all_cons,Bool.and_eq_true] at h
    exact h.2
theorem jU {R:Type} {ops:Array Oper} {Q:Exit→Act→World→Prop} {K:St→Option R} {r:R} (hok:EnvOk P e) (hH:∀ g h,H g=some h→jY P e g h) (hwr:wrOps Γ.np ops.toList=true) :
  ∀ (l:List Oper) (i k:Nat) (s:St) (C:Ctx) (a:Act) (w:World),k≤l.length→(∀ j o,l[j]?=some o→ops[i+j]?=some o)→evOps e H ops.toList i k l s K=some r→RelC e Γ C s a w→
  (∀ s' C' a' w',s'.slots.length=s.slots.length→RelC e Γ C' s' a' w'→K s'=some r→Q .normal a' w')→wpOps P ops Q (List.range' (i+k) (l.length - k)) a w
 | [],i,k,s,C,a,w,hk,_,hr,h,hQ=>by
  have:k=0:=by simpa using hk
  subst this
  unfold evOps at hr
  exact hQ ⟨s.slots,s.mem,s.next+8*i⟩ C a w rfl ⟨h.defers,h.len,h.slots,h.par,h.mem,h.W⟩ hr
 | o ::l,i,k+1,s,C,a,w,hk,hl,hr,h,hQ=>by
  unfold evOps at hr
  rw [List.length_cons] at hk ⊢
  rw [show i+(k+1)=i+1+k by omega,show l.length+1 - (k+1)=l.length - k by omega]
  refine jU hok hH hwr l (i+1) k s C a w (by omega) (fun j o' hj=>?_) hr h hQ
  have:=hl (j+1) o' (by simpa using hj)
  rw [← this]
  congr 1
  omega
 | o ::l,i,0,s,C,a,w,hk,hl,hr,h,hQ=>by
  have hi:ops[i]?=some o:=hl 0 o rfl
  have hl':∀ j o',l[j]?=some o'→ops[i+1+j]?=some o':=fun j o' hj=>by
   have:=hl (j+1) o' (by simpa using hj)
   rw [← this]
   congr 1
   omega
  unfold evOps at hr
  rw [Nat.add_zero,Nat.sub_zero]
  split at hr
  ·rename_i n d hg
   obtain ⟨hn,hq⟩:=grpAt_of hg
   cases hdl:dstsLt s.slots.length (o ::l.take n) with
   | false=>rw [hdl] at hr;cases hr
   | true=>
   rw [hdl] at hr
   obtain ⟨b,hb,hr⟩:=Option.bind_eq_some_iff.1 hr
   rw [Tr.runJ_eq] at hb
   have hlen:(o ::l.take n).length=n+1:=by rw [List.length_cons,List.length_take,Nat.min_eq_left hn]
   have:=grp_sound (Q:=Q) hok hH hwr (o ::l.take n) i (l.length - n) [] s C a w (fun j o' hj=>?_) hq (KnOk.nil s) (dstsLt_of hdl) hb h fun s' C' a' w' h1 h2=>?_
   ·rw [hlen,show n+1+(l.length - n)=(o ::l).length by rw [List.length_cons];omega] at this
    exact this
   ·cases j with
    | zero=>
     have:o=o':=by simpa using hj
     subst this
     exact hi
    | succ j=>
     have hj':(l.take n)[j]?=some o':=by simpa using hj
     rw [List.getElem?_take] at hj'
     split at hj'
     ·have:=hl' j o' hj'
      rw [← this]
      congr 1
      omega
     ·cases hj'
   ·rw [hlen,show i+(n+1)=i+1+n by omega]
    have hmlen:(s.merged (o ::l.take n) d b).slots.length=s.slots.length:=by
     unfold St.merged
     rw [List.length_set,hG]
    exact jU hok hH hwr l (i+1) n _ C' a' w' hn hl' hr (merged_rel h1 h2) fun s2 C2 a2 w2 q1 q2 q3=>hQ s2 C2 a2 w2 (q1.trans hmlen) q2 q3
  ·rw [Tr.cps_run] at hr
   obtain ⟨⟨s1,kn1⟩,hs0,hr⟩:=Option.bind_eq_some_iff.1 hr
   have hs1:=(stepG_ok (KnOk.nil s) hs0).1
   rw [List.length_cons,List.range'_succ,wpOps_cons]
   refine jM hok hH hi (wrOps_get hwr (by rw [Array.getElem?_toList];exact hi)) hs1 h fun hlen C' a' w' h'=>?_
   have:=jU hok hH hwr l (i+1) 0 s1 C' a' w' (Nat.zero_le _) hl' hr h' fun s' C2 a2 w2 h1 h2 h3=>hQ s' C2 a2 w2 (h1.trans hlen) h2 h3
   rw [Nat.add_zero,Nat.sub_zero] at this
   exact this
theorem bif_opt {α:Type} {b:Bool} {x:Option α} {z:α} (h:(bif b then x else none)=some z):b=true∧x=some z:=by
 cases b with
 | true=>exact ⟨rfl,h⟩
 | false=>cases h
theorem Tr.pureB_run:∀ {t:Tr Bool} {b:Bool},t.pureB=some b→t.run=some b:=by
 intro t
 induction t with
 | ret a=>intro b h;exact h
 | fail=>intro b h;cases h
 | call o k ih=>intro b h;cases h
 | br c x y ihx ihy=>
  intro b h
  unfold Tr.pureB at h
  split at h
  ·rename_i u v hu hv
   cases h
   unfold Tr.run
   rw [ihx hu,ihy hv]
   cases c<;>rfl
  ·cases h
theorem grpLen_dst:∀ {l:List Oper} {n d:Nat},grpLen l=some (n,d)→d∈cJ (l.take (n+1))
 | [],_,_,h=>by cases h
 | o ::r,n,d,h=>by
  unfold grpLen at h
  rw [List.take_succ_cons]
  split at h
  ·split at h
   ·rename_i n' d' h'
    cases h
    have:=grpLen_dst h'
    unfold cJ
    cases o.dst with
    | none=>exact this
    | some _=>exact List.mem_cons_of_mem _ this
   ·cases h
  ·split at h
   ·split at h
    ·rename_i d' hd
     cases h
     unfold cJ
     rw [hd]
     exact List.mem_cons_self
    ·cases h
   ·cases h
theorem grpAt_dst {o:Oper} {r:List Oper} {n d:Nat} (h:grpAt H o r=some (n,d)):d∈cJ (o ::r.take n):=by
 unfold grpAt at h
 split at h
 ·cases h
 ·split at h
  ·rename_i n' d' h'
   cases hc:(eO H o.op && (r.take (n'+1)).all (fun o=>eO H o.op)) with
   | false=>rw [hc] at h;cases h
   | true=>
    rw [hc] at h
    cases h
    have:=grpLen_dst h'
    unfold cJ
    cases o.dst with
    | none=>exact this
    | some _=>exact List.mem_cons_of_mem _ this
  ·cases h
theorem merged_keep {l:List Oper} {d:Nat} {b:Bool} (hd:d∈cJ l):Keep l s (s.merged l d b):=by
 refine ⟨?_,rfl,fun k hk=>?_⟩
 ·unfold St.merged
  rw [List.length_set,hG]
 ·unfold St.merged
  rw [List.getElem?_set,if_neg (fun hh:d=k=>hk (hh ▸ hd)),hO hk]
theorem lB {ops:Array Oper} {Q:Exit→Act→World→Prop} {s2:St} (hok:EnvOk P e) (hH:∀ g h,H g=some h→jY P e g h) (hwr:wrOps Γ.np ops.toList=true) :
  ∀ (l:List Oper) (i k:Nat) (s:St) (C:Ctx) (a:Act) (w:World),k≤l.length→(∀ j o,l[j]?=some o→ops[i+j]?=some o)→l.all (fun o=>eO H o.op)=true→opsM e H ops.toList i k l s=some s2→RelC e Γ C s a w→
  (∀ C' a' w',Keep (l.drop k) s s2→RelC e Γ C' s2 a' w'→Q .normal a' w')→wpOps P ops Q (List.range' (i+k) (l.length - k)) a w
 | [],i,k,s,C,a,w,hk,_,_,hr,h,hQ=>by
  have:k=0:=by simpa using hk
  subst this
  cases hr
  exact hQ C a w (Keep.refl _ _) h
 | o ::l,i,k+1,s,C,a,w,hk,hl,hq,hr,h,hQ=>by
  unfold opsM at hr
  rw [List.length_cons] at hk ⊢
  rw [List.all_cons,Bool.and_eq_true] at hq
  rw [show i+(k+1)=i+1+k by omega,show l.length+1 - (k+1)=l.length - k by omega]
  refine lB hok hH hwr l (i+1) k s C a w (by omega) (fun j o' hj=>?_) hq.2 hr h hQ
  have:=hl (j+1) o' (by simpa using hj)
  rw [← this]
  congr 1
  omega
 | o ::l,i,0,s,C,a,w,hk,hl,hq,hr,h,hQ=>by
  have hi:ops[i]?=some o:=hl 0 o rfl
  have hl':∀ j o',l[j]?=some o'→ops[i+1+j]?=some o':=fun j o' hj=>by
   have:=hl (j+1) o' (by simpa using hj)
   rw [← this]
   congr 1
   omega
  rw [List.all_cons,Bool.and_eq_true] at hq
  unfold opsM at hr
  rw [Nat.add_zero,Nat.sub_zero]
  rw [List.drop_zero] at hQ
  split at hr
  ·rename_i n d hg
   obtain ⟨hn,hqg⟩:=grpAt_of hg
   have hdm:=grpAt_dst hg
   split at hr
   ·rename_i b hb
    cases hdl:dstsLt s.slots.length (o ::l.take n) with
    | false=>rw [hdl] at hb;cases hb
    | true=>
    rw [hdl] at hb
    have hb:=Tr.pureB_run hb
    have hlen:(o ::l.take n).length=n+1:=by rw [List.length_cons,List.length_take,Nat.min_eq_left hn]
    have:=grp_sound (Q:=Q) hok hH hwr (o ::l.take n) i (l.length - n) [] s C a w (fun j o' hj=>?_) hqg (KnOk.nil s) (dstsLt_of hdl) hb h fun s' C' a' w' h1 h2=>?_
    ·rw [hlen,show n+1+(l.length - n)=(o ::l).length by rw [List.length_cons];omega] at this
     exact this
    ·cases j with
     | zero=>
      have:o=o':=by simpa using hj
      subst this
      exact hi
     | succ j=>
      have hj':(l.take n)[j]?=some o':=by simpa using hj
      rw [List.getElem?_take] at hj'
      split at hj'
      ·have:=hl' j o' hj'
       rw [← this]
       congr 1
       omega
      ·cases hj'
    ·rw [hlen,show i+(n+1)=i+1+n by omega]
     refine lB hok hH hwr l (i+1) n _ C' a' w' hn hl' hq.2 hr (merged_rel h1 h2) fun C2 a2 w2 q1 q2=>hQ C2 a2 w2 ?_ q2
     have:=(merged_keep (s:=s) (b:=b) hdm).trans q1
     rw [List.cons_append,List.take_append_drop] at this
     exact this
   ·cases hr
  ·split at hr
   ·rename_i p hs1
    obtain ⟨s1,kn1⟩:=p
    have hs1':(dY e H ops.toList i o s).run=some s1:=(stepG_ok (KnOk.nil s) (by rw [hs1];rfl)).1
    rw [List.length_cons,List.range'_succ,wpOps_cons]
    refine jM hok hH hi (wrOps_get hwr (by rw [Array.getElem?_toList];exact hi)) hs1' h fun hlen C' a' w' h'=>?_
    have:=lB (Q:=Q) hok hH hwr l (i+1) 0 s1 C' a' w' (Nat.zero_le _) hl' hq.2 hr h' fun C2 a2 w2 h1 h2=>hQ C2 a2 w2 ?_ h2
    ·rw [Nat.add_zero,Nat.sub_zero] at this
     exact this
    ·rw [List.drop_zero] at h1
     obtain ⟨g1,g2,g3⟩:=stepT_quiet hq.1 hs1'
     refine ⟨h1.len.trans g2,h1.mem.trans g1,fun k hk=>?_⟩
     unfold cJ at hk
     cases hd:o.dst with
     | none=>
      rw [hd] at hk
      rw [h1.keep k hk,g3 k (by rw [hd];intro hh;cases hh)]
     | some d'=>
      rw [hd] at hk
      simp only [List.mem_cons,not_or] at hk
      rw [h1.keep k hk.2,g3 k (by rw [hd];intro hh;exact hk.1 (Option.some.inj hh).symm)]
   ·cases hr
theorem mergeC_true {x y z:CV} {v:Value} (hm:mergeC true x y=some z) (h:CRel C w x v):CRel C w z v:=by
 unfold mergeC at hm
 split at hm<;>first | (cases hm;exact h) | skip
 all_goals first
  | (obtain ⟨_,hm⟩:=bif_opt hm;cases hm;exact h)
  | (split at hm
     ·cases hm;exact h
     ·cases hm)
  | (cases hm)
theorem mergeC_false {x y z:CV} {v:Value} (hm:mergeC false x y=some z) (h:CRel C w y v):CRel C w z v:=by
 unfold mergeC at hm
 split at hm<;>first | (cases hm;exact h) | skip
 all_goals first
  | (obtain ⟨hb,hm⟩:=bif_opt hm;cases hm;rw [IK.eq_of_beq hb];exact h)
  | (obtain ⟨hb,hm⟩:=bif_opt hm;cases hm;rw [Nat.eq_of_beq_eq_true hb];exact h)
  | (obtain ⟨hb,hm⟩:=bif_opt hm;cases hm;rw [Bool.and_eq_true] at hb;rw [Nat.eq_of_beq_eq_true hb.1,Nat.eq_of_beq_eq_true hb.2];exact h)
  | (split at hm
     ·rename_i zs hz
      cases hm
      unfold jC at hz
      split at hz
      ·rename_i hb
       have he:=Ty.eq_of_beq hb
       subst he
       cases hz
       exact h
      ·cases hz
     ·cases hm)
  | (cases hm)
theorem mergeCs_true:∀ {l l' z:List CV} {vs:List Value},lG.mergeCs true l l'=some z→All2 (CRel C w) l vs→All2 (CRel C w) z vs
 | [],[],_,_,h,hv=>by cases h;exact hv
 | [],_ ::_,_,_,h,_=>by cases h
 | _ ::_,[],_,_,h,_=>by cases h
 | a ::l,b ::l',z,[],h,hv=>hv.elim
 | a ::l,b ::l',z,v ::vs,h,hv=>by
  unfold lG.mergeCs at h
  split at h
  ·rename_i y hy
   split at h
   ·rename_i r hr
    cases h
    exact ⟨mergeC_true hy hv.1,mergeCs_true hr hv.2⟩
   ·cases h
  ·cases h
theorem mergeCs_false:∀ {l l' z:List CV} {vs:List Value},lG.mergeCs false l l'=some z→All2 (CRel C w) l' vs→All2 (CRel C w) z vs
 | [],[],_,_,h,hv=>by cases h;exact hv
 | [],_ ::_,_,_,h,_=>by cases h
 | _ ::_,[],_,_,h,_=>by cases h
 | a ::l,b ::l',z,[],h,hv=>hv.elim
 | a ::l,b ::l',z,v ::vs,h,hv=>by
  unfold lG.mergeCs at h
  split at h
  ·rename_i y hy
   split at h
   ·rename_i r hr
    cases h
    exact ⟨mergeC_false hy hv.1,mergeCs_false hr hv.2⟩
   ·cases h
  ·cases h
theorem mergeAV_rel {c:Bool} {x y z:AV} {v:Value} (hm:lG c x y=some z) (h:ARel C w (bif c then x else y) v):ARel C w z v:=by
 unfold lG at hm
 cases hj:(x.isJunk || y.isJunk) with
 | true=>
  rw [hj] at hm
  cases hm
  exact trivial
 | false=>
  rw [hj] at hm
  simp only [cond_false] at hm
  split at hm
  ·rename_i a b
   split at hm
   ·rename_i z' hz
    cases hm
    cases c with
    | true=>exact mergeC_true hz h
    | false=>exact mergeC_false hz h
   ·cases hm
  ·rename_i l l'
   split at hm
   ·rename_i z' hz
    cases hm
    cases c with
    | true=>
     obtain ⟨arr,h1,h2⟩:=h
     exact ⟨arr,h1,mergeCs_true hz h2⟩
    | false=>
     obtain ⟨arr,h1,h2⟩:=h
     exact ⟨arr,h1,mergeCs_false hz h2⟩
   ·cases hm
  ·cases hm
theorem mergeSl_len {c:Bool} {s1 s2:St}:∀ {ds:List Nat} {l0 l:List AV},jQ c s1 s2 l0 ds=some l→l.length=l0.length
 | [],_,_,h=>by cases h;rfl
 | d ::r,l0,l,h=>by
  unfold jQ at h
  split at h
  ·have:=mergeSl_len h
   rw [List.length_set] at this
   exact this
  ·cases h
theorem mergeSl_keep {c:Bool} {s1 s2:St}:∀ {ds:List Nat} {l0 l:List AV} {k:Nat},jQ c s1 s2 l0 ds=some l→k∉ds→l[k]?=l0[k]?
 | [],_,_,_,h,_=>by cases h;rfl
 | d ::r,l0,l,k,h,hk=>by
  unfold jQ at h
  simp only [List.mem_cons,not_or] at hk
  split at h
  ·rw [mergeSl_keep h hk.2,List.getElem?_set,if_neg (fun hh:d=k=>hk.1 hh.symm)]
  ·cases h
theorem mergeSl_rel {c:Bool} {s1 s2:St} (hs:RelC e Γ C (bif c then s1 else s2) a w):∀ {ds:List Nat} {l0 l:List AV},jQ c s1 s2 l0 ds=some l→
  (∀ (k:Nat) (x:AV) (v:Value),k∉ds→l0[k]?=some x→a.tmps[k]?=some v→ARel C w x v)→∀ (k:Nat) (x:AV) (v:Value),l[k]?=some x→a.tmps[k]?=some v→ARel C w x v
 | [],_,_,h,hl,k,x,v,hx,hv=>by
  cases h
  exact hl k x v (fun hh=>by cases hh) hx hv
 | d ::r,l0,l,h,hl,k,x,v,hx,hv=>by
  unfold jQ at h
  split at h
  ·rename_i z hz
   refine mergeSl_rel hs h (fun k' x' v' hk' hx' hv'=>?_) k x v hx hv
   rw [List.getElem?_set] at hx'
   by_cases hd:d=k'
   ·rw [if_pos hd] at hx'
    split at hx'
    ·cases hx'
     have hg:=fW hs d
     have hlt:k' < a.tmps.size:=(Array.getElem?_eq_some_iff.1 hv').1
     have hv2:a.tmps.getD d undef=v':=by
      rw [hd]
      rw [Array.getElem?_eq_getElem hlt] at hv'
      cases hv'
      simp [Array.getD,hlt]
     rw [hv2] at hg
     refine mergeAV_rel hz ?_
     cases c with
     | true=>exact hg
     | false=>exact hg
    ·cases hx'
   ·rw [if_neg hd] at hx'
    exact hl k' x' v' (by simp only [List.mem_cons,not_or];exact ⟨fun hh=>hd hh.symm,hk'⟩) hx' hv'
  ·cases h
end Go.Ev
