/-
 The abstract evaluator: each plain operation does to the machine what it does to the abstract state.
-/
import Derived.Test.YtgpjfmjceamonaaGreatDoorEv6
import Derived.Laws.Small
import Derived.Laws.Pointers
namespace Go.Ev
variable {P:Program} {e:Env} {Γ:Actv} {C:Ctx} {s:St} {a:Act} {w:World}
def OpDone (P:Program) (e:Env) (Γ:Actv) (C:Ctx) (o:Oper) (a:Act) (w:World) (r:AV×aX):Prop:=
 (∃ v w' C',(execOp a.eval o).run P w= .ok (.value v) w'∧Post e Γ C w r v w' C')∨
 (∃ w' C',(execOp a.eval o).run P w= .ok .skip w'∧Post e Γ C w r undef w' C')∨
 (∃ f args,(execOp a.eval o).run P w= .ok (.enter f args) w∧Calls P f args w fun en w'=>∃ v C',en= .returned v∧Post e Γ C w r v w' C')
theorem bM {o:Oper} {X:Sem Value} {r:AV×aX} {v:Value} {w':World} {C':Ctx} (ho:execOp a.eval o=(do pure (.value (← X)))) (hx:X.run P w= .ok v w') (hp:Post e Γ C w r v w' C'):OpDone P e Γ C o a w r:=
 .inl ⟨v,w',C',by rw [ho,Sem.run_bind,hx];rfl,hp⟩
theorem done_p {o:Oper} {r:AV×aX} {v:Value} {C':Ctx} (ho:execOp a.eval o=pure (.value v)) (hp:Post e Γ C w r v w C'):OpDone P e Γ C o a w r:=
 .inl ⟨v,w,C',by rw [ho];rfl,hp⟩
theorem done_u {o:Oper} {X:Sem Unit} {r:AV×aX} {w':World} {C':Ctx} (ho:execOp a.eval o=(do X;pure .skip)) (hx:X.run P w= .ok () w') (hp:Post e Γ C w r undef w' C'):OpDone P e Γ C o a w r:=
 .inr (.inl ⟨w',C',by rw [ho,Sem.run_bind,hx];rfl,hp⟩)
theorem bG {α:Type} {b:Bool} {x:Tr α} {r:α} (h:(Tr.need b x).run=some r):b=true∧x.run=some r:=by
 cases b with
 | true=>exact ⟨rfl,h⟩
 | false=>cases h
variable {H:Nat→Option FH} {o:Oper} {id:Nat} {r:AV×aX}
theorem op_move {x:Operand} (h:RelC e Γ C s a w) (ho:o.op= .move x∨o.op= .assign x):OpDone P e Γ C o a w (bC s x,s.mem):=by
 refine done_p (v:=a.eval x) ?_ (Post.same h (opd_rel h x))
 rcases ho with ho | ho<;>(unfold execOp;rw [ho])
theorem op_pick {c x y:Operand} (h:RelC e Γ C s a w) (ho:o.op= .pick c x y) {t:Bool} (hc:bC s c= .v (.one (.bool t))):OpDone P e Γ C o a w (bif t then bC s x else bC s y,s.mem):=by
 have h1:a.eval c= .bool t:=aU h hc
 refine .inl ⟨if t then a.eval x else a.eval y,w,C,?_,Post.same h ?_⟩
 ·unfold execOp
  rw [ho]
  simp [h1,asBool]
 ·cases t
  ·exact opd_rel h y
  ·exact opd_rel h x
theorem op_alloc (hok:EnvOk P e) {E:Nat} {t:Ty} (h:RelC e Γ C s a w) (ho:o.op= .alloc E) (ht:e.ty E=some t) (hi:fresh s.mem id 1=true) :
  OpDone P e Γ C o a w (.v (.one (.pbox id 0)),aI s.mem id (.box E t.zcells)):=by
 obtain ⟨i,hi',rfl⟩:=cR ht
 obtain ⟨inf,d,z,q1,q2,q3,q4,q5,q6,q7,q8⟩:=(hok.ty E i hi').out
 refine bM (X:=Instr.alloc E true (.tuple #[])) (by unfold execOp;rw [ho]) (v:= .pointer (some ⟨w.heap.size,0,none⟩)) (w':=w.alloc (.cells z.cells E)) ?_ (post_box h hi (by rw [q7];exact gD i.t))
 simp [Instr.alloc,zeroValue,typeInfo,q1,q6,newVar,newRow]
theorem op_box {E:Nat} {x:Operand} {t:Ty} {c:Vl} (h:RelC e Γ C s a w) (ho:o.op= .box E x) (hx:bC s x= .v c) (hj:cU c.cells=true) (hi:fresh s.mem id 1=true) (_ht:e.ty E=some t) :
  OpDone P e Γ C o a w (.v (.one (.pbox id 0)),aI s.mem id (.box E c.cells)):=by
 obtain ⟨h1,h2⟩:=VRel.cells h.mem (opd_v h hx) hj
 refine bM (X:=Instr.box E (a.eval x)) (by unfold execOp;rw [ho]) (v:= .pointer (some ⟨w.heap.size,0,none⟩)) (w':=w.alloc (.cells (a.eval x).cells E)) ?_ (post_box h hi h1)
 simp [Instr.box,newVar,newRow]
theorem op_load (hok:EnvOk P e) {E:Nat} {x:Operand} {c:CV} {t:Ty} {cs:List CV} {v:Vl} (h:RelC e Γ C s a w) (ho:o.op= .load E x) (hx:bC s x= .v (.one c)) (ht:e.ty E=some t) (hr:jZ s.mem t.sz c=some cs) (hv:asVl t.isSt cs=some v) :
  OpDone P e Γ C o a w (.v v,s.mem):=by
 obtain ⟨ad,vs,e1,hl,hc,hat⟩:=readAt_rel h.mem hr (aU h hx)
 have hlen:t.isSt=false→vs.length=1:=fun hs=>by
  rw [hs] at hv
  rw [← hc.length]
  exact asVl_one hv
 have hrun:=run_loadVar (P:=P) hok ht hl hat hlen
 refine bM (X:=Instr.loadAt E (a.eval x)) (by unfold execOp;rw [ho]) (by rw [e1];simp only [Instr.loadAt,Instr.sureAddr,Sem.run_bind,Sem.run_pure,Result.andThen_ok];exact hrun) (Post.same h ?_)
 exact asVl_rel hv hc
theorem op_loadg {E g:Nat} {x:Operand} {tbl:List (Int×List Int)} (h:RelC e Γ C s a w) (hok:EnvOk P e) (ho:o.op= .load E x) (hx:bC s x= .v (.one (.glob g))) (hg:bL e.globs g=some tbl) (hm:e.maps.any (Nat.beq E)=true) :
  OpDone P e Γ C o a w (.v (.one (.gmap g)),s.mem):=by
 have h1:a.eval x= .pointer (some ⟨g,0,none⟩):=aU h hx
 obtain ⟨hf,rr,ents,ck,q1,q2,q3,q4⟩:=h.W.glob g tbl hg
 obtain ⟨K,V,inf,u1,u2,u3⟩:=hok.mp E hm
 refine bM (X:=Instr.loadAt E (a.eval x)) (by unfold execOp;rw [ho]) (v:= .map (some rr)) (w':=w) ?_ (Post.same h ⟨rr,rfl,q1,hf⟩)
 rw [h1]
 simp [Instr.loadAt,Instr.sureAddr,loadVar,iL u1,aggD,q1]
theorem op_store (hok:EnvOk P e) {E:Nat} {x y:Operand} {c:CV} {v:Vl} {t:Ty} {m:aX} (h:RelC e Γ C s a w) (ho:o.op= .store E x y) (hx:bC s x= .v (.one c)) (hy:bC s y= .v v) (ht:e.ty E=some t)
  (hl:v.cells.length=t.sz) (hj:cU v.cells=true) (hw:writeAt s.mem v.cells c=some m):OpDone P e Γ C o a w (jJ,m):=by
 obtain ⟨h1,h2⟩:=VRel.cells h.mem (opd_v h hy) hj
 obtain ⟨w',C',hrun,hp⟩:=writeAt_rel hok h ht hw (aU h hx) h1 h2 hl
 exact done_u (X:=Instr.storeAt E (a.eval x) (a.eval y)) (by unfold execOp;rw [ho]) hrun hp
theorem op_nilCheck {x:Operand} {b off:Nat} (h:RelC e Γ C s a w) (ho:o.op= .nilCheck x) (hx:bC s x= .v (.one (.pbox b off))):OpDone P e Γ C o a w (.v (.one (.pbox b off)),s.mem):=by
 have h0:=aU h hx
 obtain ⟨hd,g,hg,h1⟩:=h0
 refine done_p (v:= .pointer (some ⟨g,off,none⟩)) (by unfold execOp;rw [ho];simp only [h1]) (Post.same h ⟨hd,g,hg,rfl⟩)
theorem op_nilCheckP {x:Operand} {b off:Nat} {t:Ty} {i:Int} (h:RelC e Γ C s a w) (ho:o.op= .nilCheck x) (hx:bC s x= .v (.one (.pel b t i off))):OpDone P e Γ C o a w (.v (.one (.pel b t i off)),s.mem):=by
 have h0:=aU h hx
 have hk:=h0
 obtain ⟨hd,ad,l,c,h1,h2,h3,h4⟩:=h0
 refine done_p (v:= .pointer (some (ad.add (i.toNat*t.sz+off)))) (by unfold execOp;rw [ho];simp only [h4]) (Post.same h (h4 ▸ hk))
theorem fld_some (hok:EnvOk P e) {S f off n:Nat} {ag:Bool} (h:fld e S f=some (off,n,ag)) :
  ∃ fs:Array Field,P.underlying S=some (.struct fs)∧∃ fd,fs[f]?=some fd∧fd.offset=off∧n≠0∧∃ inf d,P.info? fd.type=some inf∧inf.size=n∧P.underlying fd.type=some d∧aggD d=ag:=by
 unfold fld at h
 split at h
 ·rename_i l hl
  obtain ⟨fs,h1,h2⟩:=hok.fld S l hl
  obtain ⟨fd,h3,h4,h5,inf,d,h6,h7,h8,h9⟩:=h2.get_left f _ h
  exact ⟨fs,h1,fd,by simpa using h3,h4,h5,inf,d,h6,h7,h8,h9⟩
 ·cases h
theorem op_fieldAddr (hok:EnvOk P e) {S f off n:Nat} {ag:Bool} {x:Operand} {c c':CV} (h:RelC e Γ C s a w) (ho:o.op= .fieldAddr S x f) (hx:bC s x= .v (.one c)) (hf:fld e S f=some (off,n,ag)) (hc:addOff off c=some c') :
  OpDone P e Γ C o a w (.v (.one c'),s.mem):=by
 obtain ⟨fs,u1,fd,u2,u3,u4,inf,d,u5,u6,u7,u8⟩:=fld_some hok hf
 have h0:=aU h hx
 have hrun:∀ ad:Addr,(Instr.fieldAt S (.pointer (some ad)) f).run P w= .ok (.pointer (some (ad.add off))) w:=fun ad=>by
  simp [Instr.fieldAt,run_underlying u1,u2,Instr.sureAddr,fieldPlace,sizeOf,typeInfo,u5,u6,u4,u3]
 have hgo:∀ ad:Addr,a.eval x= .pointer (some ad)→CRel C w c' (.pointer (some (ad.add off)))→OpDone P e Γ C o a w (.v (.one c'),s.mem):=fun ad hv hp=>
  bM (X:=Instr.fieldAt S (a.eval x) f) (by unfold execOp;rw [ho]) (by rw [hv];exact hrun ad) (Post.same h hp)
 unfold addOff at hc
 split at hc
 ·rename_i b k
  cases hc
  obtain ⟨hd,g,hg,hv⟩:=h0
  exact hgo _ hv ⟨hd,g,hg,by rw [add_lit']⟩
 ·rename_i b t i k
  cases hc
  obtain ⟨hd,ad,l,cp,hs,q1,q2,hv⟩:=h0
  exact hgo _ hv ⟨hd,ad,l,cp,hs,q1,q2,by rw [add_add,Nat.add_assoc]⟩
 ·rename_i t y k
  cases hc
  obtain ⟨ad,cs,hv,hfz,hk,hat⟩:=h0
  refine hgo _ hv ⟨_,cs,rfl,by rw [iP];exact hfz,hk,fun j u hj=>?_⟩
  rw [add_add]
  refine hat _ u ?_
  rw [← Nat.add_assoc]
  exact hj
 ·cases hc
theorem op_field (hok:EnvOk P e) {S f off n:Nat} {ag:Bool} {x:Operand} {cs l:List CV} {v:Vl} (h:RelC e Γ C s a w) (ho:o.op= .field S x f) (hx:bC s x= .v (.agg cs)) (hf:fld e S f=some (off,n,ag)) (hl:takeN n (cs.drop off)=some l) (hv:asVl ag l=some v) :
  OpDone P e Γ C o a w (.v v,s.mem):=by
 obtain ⟨fs,u1,fd,u2,u3,u4,inf,d,u5,u6,u7,u8⟩:=fld_some hok hf
 obtain ⟨arr,e1,hall⟩:=opd_v h hx
 obtain ⟨rfl,hln⟩:=kG hl
 have hpart:=(hall.drop off).take n
 refine bM (X:=Instr.field S (a.eval x) f) (by unfold execOp;rw [ho]) (v:=if ag=true then .agg ((arr.toList.drop off).take n).toArray else ((arr.toList.drop off).take n).headD undef) (w':=w) ?_ (Post.same h (asVl_rel hv hpart))
 rw [e1]
 cases ag with
 | true=>
  have he:arr.extract off (off+n)=((arr.toList.drop off).take n).toArray:=by
   apply Array.ext'
   rw [Array.toList_extract,List.extract_eq_take_drop,Nat.add_sub_cancel_left]
  simp [Instr.field,run_underlying u1,u2,part,iL u7,u8,asAgg,sizeOf,typeInfo,u5,u6,u3,he]
 | false=>
  have h1:=asVl_one hv
  have hn:n=1:=by omega
  subst hn
  have hlt:off < arr.size:=by
   have:=hpart.length
   rw [hln,List.length_take,List.length_drop,Array.length_toList] at this
   omega
  have hg:arr[off]?=some (((arr.toList.drop off).take 1).headD undef):=by
   rw [← Array.getElem?_toList]
   have hlt':off < arr.toList.length:=by rw [Array.length_toList];exact hlt
   rw [List.getElem?_eq_getElem hlt',List.drop_eq_getElem_cons hlt']
   rfl
  simp only [Bool.false_eq_true,if_false]
  simp [Instr.field,run_underlying u1,u2,part,iL u7,u8,asAgg,u3,hg]
theorem op_unOp {op:UnOp} {T:Nat} {x:Operand} {v:AV} (h:RelC e Γ C s a w) (ho:o.op= .unOp op T x) (hv:unV op (bC s x)=some v):OpDone P e Γ C o a w (v,s.mem):=by
 unfold unV at hv
 split at hv
 ·rename_i b hb
  have h1:a.eval x= .bool b:=aU h hb
  split at hv
  ·cases hv
   exact bM (X:=Op.unary .not (a.eval x)) (by unfold execOp;rw [ho]) (by rw [h1];rfl) (Post.same h rfl)
  ·cases hv
 ·rename_i k n hb
  have h1:a.eval x= .int k n:=aU h hb
  split at hv
  ·cases hv
   exact bM (X:=Op.unary .neg (a.eval x)) (by unfold execOp;rw [ho]) (by rw [h1];rfl) (Post.same h rfl)
  ·cases hv
 ·cases hv
theorem op_convert (hok:EnvOk P e) {S D:Nat} {x:Operand} {t:Ty} {c c':CV} (h:RelC e Γ C s a w) (ho:o.op= .convert S D x) (hS:(e.ty S).isSome=true) (hD:e.ty D=some t) (hx:bC s x= .v (.one c))
  (hc:(∃ k j n,t= .int k∧c= .int j n∧c'= .int k (k.wrap n))∨(∃ b,t= .flt∧c= .flt b∧c'= .flt b)∨(∃ j n,t= .flt∧c= .int j n∧c'= .flt (FloatKind.f64.nearest n))) :
  OpDone P e Γ C o a w (.v (.one c'),s.mem):=by
 obtain ⟨tS,hS⟩:=Option.isSome_iff_exists.1 hS
 obtain ⟨iS,hiS,rfl⟩:=cR hS
 obtain ⟨infS,dS,zS,_,p2,p3,_⟩:=(hok.ty S iS hiS).out
 obtain ⟨iD,hiD,rfl⟩:=cR hD
 obtain ⟨infD,dD,zD,_,q2,q3,_⟩:=(hok.ty D iD hiD).out
 have h0:=aU h hx
 have hex:execOp a.eval o=(do pure (.value (← convert S D (a.eval x)))):=by unfold execOp;rw [ho]
 rcases hc with ⟨k,j,n,ht,rfl,rfl⟩ | ⟨b,ht,rfl,rfl⟩ | ⟨j,n,ht,rfl,rfl⟩
 ·have h1:a.eval x= .int j n:=h0
  rw [ht] at q3
  have hd:dD= .int k:=by
   cases dD<;>first | (cases q3;done) | skip
   ·rw [IK.eq_of_beq (show IK.beq _ k=true from q3)]
  subst hd
  refine bM hex (v:= .int k (k.wrap n)) (w':=w) ?_ (Post.same h rfl)
  rw [h1]
  simp [convert,run_underlying p2,run_underlying q2,Conv.intToInt]
 ·have h1:a.eval x= .float .f64 b:=h0
  rw [ht] at q3
  have hd:dD= .float .f64:=by
   cases dD<;>first | (simp [descOk] at q3;done) | skip
   rename_i k;cases k
   ·cases q3
   ·rfl
  subst hd
  refine bM hex (v:= .float .f64 b) (w':=w) ?_ (Post.same h rfl)
  rw [h1]
  simp [convert,run_underlying p2,run_underlying q2,Conv.floatToFloat]
 ·have h1:a.eval x= .int j n:=h0
  rw [ht] at q3
  have hd:dD= .float .f64:=by
   cases dD<;>first | (simp [descOk] at q3;done) | skip
   rename_i k;cases k
   ·cases q3
   ·rfl
  subst hd
  refine bM hex (v:= .float .f64 (FloatKind.f64.nearest n)) (w':=w) ?_ (Post.same h rfl)
  rw [h1]
  simp [convert,run_underlying p2,run_underlying q2,Conv.intToFloat]
theorem op_extract {x:Operand} {i:Nat} {l:List Vl} {v:Vl} (h:RelC e Γ C s a w) (ho:o.op= .extract x i) (hx:bC s x= .tup l) (hv:l[i]?=some v):OpDone P e Γ C o a w (.v v,s.mem):=by
 have h0:=opd_rel h x
 rw [hx] at h0
 obtain ⟨arr,e1,hall⟩:=h0
 obtain ⟨u,hu,hr⟩:=hall.get_left i v hv
 refine bM (X:=Instr.extract (a.eval x) i) (by unfold execOp;rw [ho]) (v:=u) (w':=w) ?_ (Post.same h hr)
 rw [e1]
 have:arr[i]?=some u:=by simpa using hu
 simp [Instr.extract,this]
theorem lC (hok:EnvOk P e) {T E:Nat} {x i:Operand} {c c':CV} {k:IntKind} {n:Int} (h:RelC e Γ C s a w) (ho:o.op= .indexAddr T x i) (hT:bL e.els T=some E) (hx:bC s x= .v (.one c)) (hi:bC s i= .v (.one (.int k n)))
  (hn0:0≤n) {t:Ty} (ht:e.ty E=some t)
  (hc:(∃ b,c= .own b∧c'= .pel b t n 0∧((∃ E' xs,aF s.mem b=some (.row E' t xs)∧n < (xs.length:Int))∨∃ xs,aF s.mem b=some (.frz t xs)∧n < (xs.length:Int)))∨
   (∃ xs,c= .fz t xs∧n < (xs.length:Int)∧c'= .pfz t (xs.getD n.toNat t.zero) 0)):OpDone P e Γ C o a w (.v (.one c'),s.mem):=by
 have hu:=hok.el T E hT
 obtain ⟨inf,hinf,rfl⟩:=cR ht
 obtain ⟨it,d,z,t1,_,_,t4,_⟩:=(hok.ty E inf hinf).out
 have h1:a.eval i= .int k n:=aU h hi
 have h0:=aU h hx
 have hrun:∀ (ad:Addr) (l cp:Nat),n < (l:Int)→(Instr.indexAt T (.slice (some ad) l cp) (.int k n)).run P w= .ok (.pointer (some (ad.add (n.toNat*inf.t.sz)))) w:=fun ad l cp hl=>by
  simp [Instr.indexAt,asIntOf,run_underlying hu,hn0,hl,sizeOf,typeInfo,t1,t4]
 have hgo:∀ (ad:Addr) (l cp:Nat),n < (l:Int)→a.eval x= .slice (some ad) l cp→CRel C w c' (.pointer (some (ad.add (n.toNat*inf.t.sz))))→OpDone P e Γ C o a w (.v (.one c'),s.mem):=fun ad l cp hl hv hp=>
  bM (X:=Instr.indexAt T (a.eval x) (a.eval i)) (by unfold execOp;rw [ho]) (by rw [hv,h1];exact hrun ad l cp hl) (Post.same h hp)
 rcases hc with ⟨b,rfl,rfl,hb⟩ | ⟨xs,rfl,hl,rfl⟩
 ·obtain ⟨hd,hv⟩:=h0
  rcases hb with ⟨E',xs,hm,hl⟩ | ⟨xs,hm,hl⟩
  ·obtain ⟨⟨cells,hown,_,_⟩,_⟩:=h.mem.blk b _ hm
   rcases hown.2 with ⟨hs,hn⟩ | ⟨g,cap,cur,hs,_⟩
   ·omega
   ·exact hgo _ _ _ hl (by rw [hv,hs]) ⟨hd,_,_,_,hs,hn0,by omega,by rw [Nat.add_zero]⟩
  ·obtain ⟨A,cp,hs,hlc,hz,hel⟩:=h.mem.blk b _ hm
   simp only [List.cons.injEq,and_true] at hs
   obtain ⟨ad,es,e1,_⟩:=hel n.toNat _ (getD_some (d:=inf.t.zero) (by omega))
   subst e1
   exact hgo _ _ _ hl (by rw [hv,hs]) ⟨hd,_,_,_,hs,hn0,by omega,by rw [Nat.add_zero]⟩
 ·obtain ⟨A,cp,hs,hlc,hz,hel⟩:=h0
  simp only [List.cons.injEq,and_true] at hs
  obtain ⟨ad,es,e1,hf,hk,hat⟩:=hel n.toNat _ (getD_some (d:=inf.t.zero) (by omega))
  subst e1
  exact hgo _ _ _ hl hs ⟨_,es,rfl,by rw [iP];exact hf,hk,fun j u hj=>by rw [add_add];exact hat j u (by rwa [Nat.zero_add] at hj)⟩
theorem jN (hok:EnvOk P e) {R b off j:Nat} {x i:Operand} {k:IntKind} (h:RelC e Γ C s a w) (ho:o.op= .indexAddr R x i) (hR:e.arrs.any (Nat.beq R)=true) (hx:bC s x= .v (.one (.pbox b off))) (hi:bC s i= .v (.one (.int k (j:Int))))
  (hj:j < 4):OpDone P e Γ C o a w (.v (.one (.pbox b (off+j))),s.mem):=by
 obtain ⟨E,inf,hu,hE,hinf,hsz⟩:=hok.arr R hR
 have h1:a.eval i= .int k (j:Int):=aU h hi
 obtain ⟨hd,g,hs,hv⟩:=aU h hx
 refine bM (X:=Instr.indexAt R (a.eval x) (a.eval i)) (by unfold execOp;rw [ho]) (v:= .pointer (some ⟨g,off+j,none⟩)) (w':=w) ?_ (Post.same h ⟨hd,g,hs,rfl⟩)
 rw [hv,h1]
 simp [Instr.indexAt,asIntOf,run_underlying hu,Instr.sureAddr,sizeOf,typeInfo,hinf,hsz,add_lit']
 intro hh
 omega
end Go.Ev
namespace Go.Ev
variable {P:Program} {e:Env} {Γ:Actv} {C:Ctx} {s:St} {a:Act} {w:World}
variable {H:Nat→Option FH} {o:Oper} {id:Nat} {r:AV×aX}
theorem op_index {T:Nat} {x i:Operand} {cs:List CV} {l:List Int} {k:IntKind} {n:Int} (hok:EnvOk P e) (h:RelC e Γ C s a w) (ho:o.op= .index T x i) (hT:e.arrs.any (Nat.beq T)=true) (hx:bC s x= .v (.agg cs)) (hi:bC s i= .v (.one (.int k n)))
  (hl:arrInts cs=some l) (h0:0≤n) (h1:n < 4) (h4:l.length=4) :
  OpDone P e Γ C o a w (.v (.one (.int .i64 (l.getD n.toNat 0))),s.mem):=by
 obtain ⟨arr,e1,hall⟩:=opd_v h hx
 have e2:a.eval i= .int k n:=aU h hi
 have hcs:∀ (cs:List CV) (l:List Int) (vs:List Value),arrInts cs=some l→All2 (CRel C w) cs vs→vs=l.map (Value.int .i64):=by
  intro cs
  induction cs with
  | nil=>
   intro l vs hl hv
   cases hl
   cases vs with
   | nil=>rfl
   | cons _ _=>exact hv.elim
  | cons c cs ih=>
   intro l vs hl hv
   cases vs with
   | nil=>exact hv.elim
   | cons v vs=>
    unfold arrInts at hl
    split at hl
    ·rename_i he;cases he
    ·rename_i n' r' he
     cases he
     split at hl
     ·rename_i l' hl'
      cases hl
      rw [ih l' vs hl' hv.2,show v=_ from hv.1]
      rfl
     ·cases hl
    ·cases hl
 have harr:=hcs cs l arr.toList hl hall
 have hlt:n.toNat < l.length:=by omega
 obtain ⟨E,inf,hu,hE,hinf,hsz⟩:=hok.arr T hT
 have hg:arr[n.toNat]?=some (.int .i64 (l.getD n.toNat 0)):=by
  rw [← Array.getElem?_toList,harr,List.getElem?_map,getD_some (d:=0) hlt]
  rfl
 refine bM (X:=Instr.index T (a.eval x) (a.eval i)) (by unfold execOp;rw [ho]) (v:= .int .i64 (l.getD n.toNat 0)) (w':=w) ?_ (Post.same h rfl)
 rw [e1,e2]
 simp [Instr.index,asIntOf,run_underlying hu,h0,h1,sizeOf,typeInfo,hinf,hsz,part,iL hE,aggD,hg]
theorem op_len (hok:EnvOk P e) {x:Operand} {T:Nat} {t:Ty} {n:Nat} {A:Option Addr} {c:Nat} (h:RelC e Γ C s a w) (ho:o.op= .call { callee:= .builtin .len,args:=#[x],argTypes:=#[T] }) (hT:e.ty T=some t)
  (hv:(∃ b,t= .str∧a.eval x= .string b∧b.size=n)∨(∃ t',t= .row t'∧a.eval x= .slice A n c)):OpDone P e Γ C o a w (.v (.one (.int .i64 n)),s.mem):=by
 obtain ⟨i,hi,rfl⟩:=cR hT
 obtain ⟨inf,d,z,_,q2,q3,_⟩:=(hok.ty T i hi).out
 refine .inl ⟨.int .i64 n,w,C,?_,Post.same h rfl⟩
 unfold execOp
 rw [ho]
 rcases hv with ⟨b,ht,hb,rfl⟩ | ⟨t',ht,hb⟩
 ·rw [ht] at q3
  have hd:d= .string:=by cases d<;>first | rfl | (cases q3;done)
  subst hd
  simp [resolve,invoke,builtin,Builtin.len_,hb,run_underlying q2,goInt]
 ·rw [ht] at q3
  have hd:∃ el,d= .slice el:=by cases d<;>first | exact ⟨_,rfl⟩ | (cases q3;done)
  obtain ⟨el,rfl⟩:=hd
  simp [resolve,invoke,builtin,Builtin.len_,hb,run_underlying q2,goInt]
theorem op_min {x y:Operand} {tys:Array Nat} {k:IntKind} {n m:Int} (h:RelC e Γ C s a w) (ho:o.op= .call { callee:= .builtin .min,args:=#[x,y],argTypes:=tys }) (hx:bC s x= .v (.one (.int k n))) (hy:bC s y= .v (.one (.int k m))) :
  OpDone P e Γ C o a w (.v (.one (.int k (if m < n then m else n))),s.mem):=by
 have h1:a.eval x= .int k n:=aU h hx
 have h2:a.eval y= .int k m:=aU h hy
 refine .inl ⟨.int k (if m < n then m else n),w,C,?_,Post.same h rfl⟩
 unfold execOp
 rw [ho]
 simp [resolve,invoke,builtin,h1,h2,run_min_int2]
theorem eqGuard_v {op:BinOp} {T:Nat} {p q:Operand} {x y:Value} (hx:x.oneCell'=true) (hn:x≠ .nilIface):(eqGuard op T p q x y).run P w= .ok () w:=by
 cases x<;>first | (simp [Value.oneCell'] at hx;done) | (exact absurd rfl hn) | (cases op<;>simp [eqGuard])
theorem np_of (hok:EnvOk P e) {T:Nat} (hT:e.ty T=some .np):P.underlying T=some (.pointer (P.pointee T)):=by
 obtain ⟨i,hi,hit⟩:=cR hT
 obtain ⟨inf,d,z,_,p2,p3,_⟩:=(hok.ty T i hi).out
 rw [hit] at p3
 have hd:∃ q,d= .pointer q:=by cases d<;>first | exact ⟨_,rfl⟩ | (cases p3;done)
 obtain ⟨q,rfl⟩:=hd
 unfold Program.pointee
 rw [p2]
theorem op_binC (hok:EnvOk P e) {op:BinOp} {T T':Nat} {x y:Operand} {c c' cr:CV} (h:RelC e Γ C s a w) (ho:o.op= .binOp op T x y T') (hx:bC s x= .v (.one c)) (hy:bC s y= .v (.one c')) (hr:(binC e T op c c').run=some cr) :
  OpDone P e Γ C o a w (.v (.one cr),s.mem):=by
 have q1:=aU h hx
 have q2:=aU h hy
 have hex:execOp a.eval o=(do pure (.value (← (do eqGuard op T x y (a.eval x) (a.eval y);binOp op T (a.eval x) (a.eval y))))):=by unfold execOp;rw [ho]
 have fin:∀ v,(binOp op T (a.eval x) (a.eval y)).run P w= .ok v w→(a.eval x).oneCell'=true→a.eval x≠ .nilIface→CRel C w cr v→OpDone P e Γ C o a w (.v (.one cr),s.mem):=fun v hb h1 hn hc=>
  bM hex (by rw [Sem.run_bind,eqGuard_v h1 hn];exact hb) (Post.same h hc)
 unfold binC at hr
 split at hr
 ·rename_i k n k' m
  have e1:a.eval x= .int k n:=q1
  have e2:a.eval y= .int k' m:=q2
  cases hk:IK.beq k k' with
  | false=>rw [hk] at hr;cases hr
  | true=>
   rw [hk] at hr
   have:=IK.eq_of_beq hk
   subst this
   simp only [cond_true] at hr
   have fin':∀ v,(binOp op T (.int k n) (.int k m)).run P w= .ok v w→CRel C w cr v→OpDone P e Γ C o a w (.v (.one cr),s.mem):=fun v hb hc=>
    fin v (by rw [e1,e2];exact hb) (by rw [e1];rfl) (by rw [e1];intro hh;cases hh) hc
   split at hr
   ·cases hr;exact fin' (.int k (k.wrap (n+m))) (by simp [binOp,Op.intArith]) rfl
   ·cases hr;exact fin' (.int k (k.wrap (n - m))) (by simp [binOp,Op.intArith]) rfl
   ·cases hr;exact fin' (.int k (k.wrap (n*m))) (by simp [binOp,Op.intArith]) rfl
   ·by_cases hz:m=0
    ·simp [Tr.run,hz] at hr
    ·simp only [Tr.run,decide_eq_false hz,cond_false] at hr
     cases hr;exact fin' (.int k (k.wrap (n.tdiv m))) (by simp [binOp,Op.intDiv,hz]) rfl
   ·by_cases hz:m=0
    ·simp [Tr.run,hz] at hr
    ·simp only [Tr.run,decide_eq_false hz,cond_false] at hr
     cases hr;exact fin' (.int k (n.tmod m)) (by simp [binOp,Op.intDiv,hz]) rfl
   ·cases hr;exact fin' (.bool (n==m)) (by simp [binOp,Op.intCmp]) rfl
   ·cases hr;exact fin' (.bool (n !=m)) (by simp [binOp,Op.intCmp]) rfl
   ·cases hr;exact fin' (.bool (decide (n < m))) (by simp [binOp,Op.intCmp]) rfl
   ·cases hr;exact fin' (.bool (decide (n≤m))) (by simp [binOp,Op.intCmp]) rfl
   ·cases hr;exact fin' (.bool (decide (n > m))) (by simp [binOp,Op.intCmp]) rfl
   ·cases hr;exact fin' (.bool (decide (n≥m))) (by simp [binOp,Op.intCmp]) rfl
   ·cases hr
 ·rename_i b b'
  have e1:a.eval x= .bool b:=q1
  have e2:a.eval y= .bool b':=q2
  split at hr
  ·rename_i hT
   obtain ⟨i,hi,hit⟩:=cR hT
   obtain ⟨inf,d,z,_,p2,p3,_⟩:=(hok.ty T i hi).out
   rw [hit] at p3
   have hd:d= .bool:=by cases d<;>first | rfl | (cases p3;done)
   subst hd
   split at hr
   ·cases hr
    exact fin (.bool (b==b')) (by rw [e1,e2];exact run_eql_bool w T b b' p2) (by rw [e1];rfl) (by rw [e1];intro hh;cases hh) rfl
   ·cases hr
    exact fin (.bool (!(b==b'))) (by rw [e1,e2];exact run_neq_bool w T b b' p2) (by rw [e1];rfl) (by rw [e1];intro hh;cases hh) rfl
   ·cases hr
  ·cases hr
 ·rename_i b b'
  have e1:a.eval x= .string b:=q1
  have e2:a.eval y= .string b':=q2
  split at hr
  ·cases hr
   exact fin (.bool (b.toList==b'.toList)) (by rw [e1,e2];simp [binOp,Op.stringOp]) (by rw [e1];rfl) (by rw [e1];intro hh;cases hh) rfl
  ·cases hr
   exact fin (.bool (!(b.toList==b'.toList))) (by rw [e1,e2];simp [binOp,Op.stringOp]) (by rw [e1];rfl) (by rw [e1];intro hh;cases hh) rfl
  ·by_cases hz:b.size+b'.size≤9223372036854775807
   ·simp only [Tr.run,decide_eq_true hz,cond_true] at hr
    cases hr
    refine fin (.string (b ++b')) ?_ (by rw [e1];rfl) (by rw [e1];intro hh;cases hh) rfl
    have hn:¬ (((b.size+b'.size:Nat):Int) > IntKind.i64.max):=by
     have:IntKind.i64.max=9223372036854775807:=by decide
     omega
    rw [e1,e2]
    simp only [binOp,Op.stringOp]
    rw [if_neg hn]
    rfl
   ·simp only [Tr.run,decide_eq_false hz,cond_false] at hr
    cases hr
  ·cases hr
 ·rename_i b b'
  have e1:a.eval x= .float .f64 b:=q1
  have e2:a.eval y= .float .f64 b':=q2
  split at hr
  ·simp only [Tr.run] at hr
   cases hd:FloatKind.f64.format.div b b' with
   | none=>rw [hd] at hr;cases hr
   | some q=>
    rw [hd] at hr
    cases hr
    exact fin (.float .f64 q) (by rw [e1,e2];simp [binOp,Op.floatArith,hd]) (by rw [e1];rfl) (by rw [e1];intro hh;cases hh) rfl
  ·split at hr
   ·rename_i t hq
    cases hr
    refine fin (.bool t) ?_ (by rw [e1];rfl) (by rw [e1];intro hh;cases hh) rfl
    unfold fCmp at hq
    rw [e1,e2]
    split at hq<;>first | (cases hq;simp [binOp,Op.floatCmp,dX];done) | (cases hq;done)
   ·cases hr
 ·obtain ⟨_,g,_,e1⟩:=q1
  have e2:a.eval y= .pointer none:=q2
  split at hr
  ·rename_i hT
   split at hr
   ·cases hr
    exact fin (.bool false) (by rw [e1,e2];exact run_eql_pointer_nil w T _ (np_of hok hT)) (by rw [e1];rfl) (by rw [e1];intro hh;cases hh) rfl
   ·cases hr
    exact fin (.bool true) (by rw [e1,e2];exact run_neq_pointer_nil w T _ (np_of hok hT)) (by rw [e1];rfl) (by rw [e1];intro hh;cases hh) rfl
   ·cases hr
  ·cases hr
 ·have e1:a.eval x= .pointer none:=q1
  have e2:a.eval y= .pointer none:=q2
  split at hr
  ·rename_i hT
   split at hr
   ·cases hr
    exact fin (.bool true) (by rw [e1,e2];exact run_eql_pointer_nil w T _ (np_of hok hT)) (by rw [e1];rfl) (by rw [e1];intro hh;cases hh) rfl
   ·cases hr
    exact fin (.bool false) (by rw [e1,e2];exact run_neq_pointer_nil w T _ (np_of hok hT)) (by rw [e1];rfl) (by rw [e1];intro hh;cases hh) rfl
   ·cases hr
  ·cases hr
 ·cases hr
theorem op_eqAgg (hok:EnvOk P e) {op:BinOp} {T T':Nat} {x y:Operand} {cs cs':List CV} {t u:Bool} (h:RelC e Γ C s a w) (ho:o.op= .binOp op T x y T') (hT:eqOk e T cs cs'=true) (hx:bC s x= .v (.agg cs)) (hy:bC s y= .v (.agg cs')) (hq:eZ cs cs'=some t)
  (hop:op= .eql∧u=t∨op= .neq∧u=!t):OpDone P e Γ C o a w (.v (.one (.bool u)),s.mem):=by
 obtain ⟨arr,e1,ha⟩:=opd_v h hx
 obtain ⟨arr',e2,hb⟩:=opd_v h hy
 unfold eqOk at hT
 rw [Bool.and_eq_true] at hT
 obtain ⟨hT,hf⟩:=hT
 have hg:(∀ (op:BinOp) (p q:Operand),(eqGuard op T p q (.agg arr) (.agg arr')).run P w= .ok () w)∧(Op.equal T (.agg arr) (.agg arr')).run P w= .ok t w:=by
  split at hf
  ·rename_i ty hty
   rw [Bool.and_eq_true] at hf
   exact hok.eq T ty hty hT w C cs cs' arr arr' t hf.1 hf.2 hq ha hb
  ·cases hf
 obtain ⟨g1,g2⟩:=hg
 have hex:execOp a.eval o=(do pure (.value (← (do eqGuard op T x y (a.eval x) (a.eval y);binOp op T (a.eval x) (a.eval y))))):=by unfold execOp;rw [ho]
 rw [e1,e2] at hex
 refine bM hex (v:= .bool u) (w':=w) ?_ (Post.same h rfl)
 rw [Sem.run_bind,g1 op x y]
 rcases hop with ⟨rfl,rfl⟩ | ⟨rfl,rfl⟩
 ·simp [binOp,g2]
 ·simp [binOp,g2]
theorem vals_rel (h:RelC e Γ C s a w):∀ (ps:List (Nat×Operand)) (k:Nat) (l:List Vl),vals s ps k=some l→
  ps.map (fun p=>(p.1,a.eval p.2))=((ps.map fun p=>a.eval p.2).zipIdx k).map (fun x=>(x.2,x.1))∧All2 (VRel C w) l (ps.map fun p=>a.eval p.2)
 | [],k,l,hl=>by cases hl;exact ⟨rfl,trivial⟩
 | (i,x) ::ps,k,l,hl=>by
  unfold vals at hl
  cases hq:Nat.beq i k with
  | false=>rw [hq] at hl;cases hl
  | true=>
   rw [hq] at hl
   have:=Nat.eq_of_beq_eq_true hq
   subst this
   simp only [cond_true] at hl
   split at hl
   ·rename_i v hv
    split at hl
    ·rename_i l' hl'
     cases hl
     obtain ⟨h1,h2⟩:=vals_rel h ps (i+1) l' hl'
     exact ⟨by rw [List.map_cons,List.map_cons,List.zipIdx_cons,List.map_cons,h1],opd_v h hv,h2⟩
    ·cases hl
   ·cases hl
theorem op_buildSlice (hok:EnvOk P e) {R E n:Nat} {t:Ty} {parts:Array (Nat×Operand)} {l:List Vl} {xs:List t.den} {os:List Nat} (h:RelC e Γ C s a w) (ho:o.op= .buildSlice R n parts) (hR:bL e.els R=some E) (hE:e.ty E=some t)
  (hl:vals s parts.toList 0=some l) (hn:l.length=n) (hbig:n*t.sz≤16777216) (hi:fresh s.mem id 1=true) (hp:lA s.mem t l=some (xs,os)) :
  OpDone P e Γ C o a w (.v (.one (.own id)),aI (bU s.mem os) id (.row E t xs)):=by
 have hu:=hok.el R E hR
 obtain ⟨inf,hinf,rfl⟩:=cR hE
 obtain ⟨it,d,z,q1,q2,q3,q4,q5,q6,q7,q8⟩:=(hok.ty E inf hinf).out
 obtain ⟨v1,v2⟩:=vals_rel h parts.toList 0 l hl
 obtain ⟨p1,p2,p3,p4⟩:=packAll_rel h.mem hp v2
 have hsz:0 < inf.t.sz:=by
  have:∀ t:Ty,0 < t.sz:=by
   intro t
   induction t with
   | st t ih=>exact ih
   | pair a b iha ihb=>show 0 < a.sz+b.sz;omega
   | _=>exact Nat.one_pos
  exact this _
 have hlen:(parts.toList.map fun p=>a.eval p.2).length=n:=by rw [← v2.length];exact hn
 have hparts:(parts.map fun (p:Nat×Operand)=>(p.1,a.eval p.2)).toList=((parts.toList.map fun p=>a.eval p.2).zipIdx 0).map (fun x=>(x.2,x.1)):=by rw [Array.toList_map];exact v1
 have hfresh':fresh (bU s.mem os) id 1=true:=by
  have:∀ (os:List Nat) (m:aX),aF m id=none→aF (bU m os) id=none:=by
   intro os
   induction os with
   | nil=>exact fun m hm=>hm
   | cons o' r ih=>
    intro m hm
    rw [bU]
    split
    ·rename_i hg
     refine ih _ ?_
     rw [aG,if_neg (fun hh=>by rw [← hh,hm] at hg;cases hg)]
     exact hm
    ·rename_i hg
     refine ih _ ?_
     rw [aG,if_neg (fun hh=>by rw [← hh,hm] at hg;cases hg)]
     exact hm
    ·exact ih _ hm
  unfold fresh
  rw [this os s.mem (dR hi)]
  rfl
 have key:∀ zero:Array Value,∃ out,Instr.fill (fun i=>some (i*inf.t.sz,inf.t.sz)) ((Array.range (n*inf.t.sz)).map (zero[· % zero.size]!)) (parts.map fun (p:Nat×Operand)=>(p.1,a.eval p.2)).toList=some out∧
   out.toList=(parts.toList.map fun p=>a.eval p.2).flatMap (fun v=>v.cells.toList):=by
  intro zero
  obtain ⟨out,f1,f2,f3⟩:=fill_seq inf.t.sz (parts.toList.map fun p=>a.eval p.2) 0 ((Array.range (n*inf.t.sz)).map (zero[· % zero.size]!)) p2 (by rw [hlen];simp)
  refine ⟨out,by rw [hparts];exact f1,?_⟩
  rw [f3,Nat.zero_mul,List.take_zero,List.nil_append,Nat.zero_add,hlen,List.drop_of_length_le (by simp),List.append_nil]
 have hrun:∃ out:Array Value,(Instr.buildSlice R n (parts.map fun (p:Nat×Operand)=>(p.1,a.eval p.2))).run P w= .ok (.slice (some ⟨w.heap.size,0,none⟩) n n) (w.alloc (.cells out E))∧
   out.toList=(parts.toList.map fun p=>a.eval p.2).flatMap (fun v=>v.cells.toList):=by
  by_cases hz:n*inf.t.sz=0
  ·have hn0:n=0:=(Nat.mul_eq_zero.1 hz).resolve_right (by omega)
   subst hn0
   have hpe:parts=#[]:=by
    apply Array.ext'
    rw [List.length_map] at hlen
    rw [List.length_eq_zero_iff.1 hlen]
   subst hpe
   refine ⟨#[],?_,by simp⟩
   simp [Instr.buildSlice,run_underlying hu,sizeOf,typeInfo,q1,Instr.fill,newRow]
   congr 2
   exact Array.ext' (by simp)
  ·obtain ⟨out,f1,f2⟩:=key z.cells
   refine ⟨out,?_,f2⟩
   have hb:¬ (n*inf.t.sz > 2 ^ 24):=by omega
   simp only [Instr.buildSlice,Sem.run_bind,run_underlying hu,Result.andThen_ok,sizeOf,typeInfo,run_program,q1,Sem.run_pure,q4]
   rw [if_neg hb]
   rw [Array.toList_map] at f1
   simp [hz,zeroValue,typeInfo,q1,q6,newRow]
   rw [f1]
   simp
 obtain ⟨out,hr1,hr2⟩:=hrun
 have hF:=h.frz p3
 refine bM (X:=Instr.buildSlice R n (parts.map fun (p:Nat×Operand)=>(p.1,a.eval p.2))) (by unfold execOp;rw [ho]) hr1 (Post.frz (post_row hF hfresh' (by rw [p1];exact hn) ?_ ?_ (by rw [hr2];exact p4)))
 ·rw [← Array.length_toList,hr2]
  have:∀ (vs:List Value),(∀ v∈vs,v.cells.size=inf.t.sz)→(vs.flatMap fun v=>v.cells.toList).length=vs.length*inf.t.sz:=by
   intro vs
   induction vs with
   | nil=>intro _;simp
   | cons v vs ih=>
    intro hh
    rw [List.flatMap_cons,List.length_append,ih (fun u hu=>hh u (List.mem_cons_of_mem _ hu)),Array.length_toList,hh v List.mem_cons_self,List.length_cons,Nat.succ_mul]
    omega
  rw [this _ p2,hlen]
 ·have:n≤n*inf.t.sz:=Nat.le_mul_of_pos_right _ hsz
  unfold maxLen
  omega
theorem op_makeSlice (hok:EnvOk P e) {R E:Nat} {inf:TI} {l c:Operand} {n:Int} (h:RelC e Γ C s a w) (ho:o.op= .makeSlice R l c) (hlc:sameOpd l c=true) (hR:bL e.els R=some E) (hE:bL e.tys E=some inf) (hl:bC s l= .v (.one (.int .i64 n)))
  (hi:fresh s.mem id 1=true) (h0:0≤n) (h1:n≤(281474976710656 / inf.bytes:Nat)) :
  OpDone P e Γ C o a w (.v (.one (.own id)),aI s.mem id (.row E inf.t (List.replicate n.toNat inf.t.zero))):=by
 have hu:=hok.el R E hR
 obtain ⟨it,d,z,q1,q2,q3,q4,q5,q6,q7,q8⟩:=(hok.ty E inf hE).out
 have e1:a.eval l= .int .i64 n:=aU h hl
 have e2:∃ k,a.eval c= .int k n:=by
  unfold sameOpd at hlc
  split at hlc
  ·have:=Nat.eq_of_beq_eq_true hlc
   subst this
   exact ⟨_,e1⟩
  ·rename_i k1 n1 k2 n2
   have h3:n1=n2:=of_decide_eq_true hlc
   have h4:(Value.int k1 n1)= .int .i64 n:=e1
   cases h4
   subst h3
   exact ⟨k2,rfl⟩
  ·cases hlc
 obtain ⟨k,e2⟩:=e2
 have hb:(inf.bytes:Int)*n≤281474976710656:=by
  have h2:n.toNat≤281474976710656 / inf.bytes:=by omega
  have h3:inf.bytes*n.toNat≤281474976710656:=Nat.le_trans (Nat.mul_le_mul_left _ h2) (Nat.mul_div_le _ _)
  have h4:((inf.bytes*n.toNat:Nat):Int)≤281474976710656:=by omega
  rw [Int.natCast_mul,Int.toNat_of_nonneg h0] at h4
  exact h4
 have hn63:n≤281474976710656:=by
  have:(281474976710656 / inf.bytes:Nat)≤281474976710656:=Nat.div_le_self _ _
  omega
 have hrun:=run_make (P:=P) w R E it z hu q1 q6 .i64 k n n h0 (Int.le_refl _) (by rw [q5];exact hb) (by omega)
 rw [q4] at hrun
 refine bM (X:=Instr.makeSlice R (a.eval l) (a.eval c)) (by unfold execOp;rw [ho]) (by rw [e1,e2];exact hrun) (post_row h hi (by rw [List.length_replicate]) (size_madeCells _ _) (by unfold maxLen;omega) ?_)
 intro i x hx
 have hxl:i < n.toNat∧x=inf.t.zero:=by
  rw [List.getElem?_replicate] at hx
  split at hx
  ·cases hx;exact ⟨‹_›,rfl⟩
  ·cases hx
 obtain ⟨hil,rfl⟩:=hxl
 refine ⟨inf.t.zcells.map litV,kD inf.t,fun j u hj=>?_⟩
 have hjl:j < inf.t.sz:=by
  have:=(List.getElem?_eq_some_iff.1 hj).1
  rw [List.length_map,dI] at this
  exact this
 have hzs:z.cells.size=inf.t.sz:=by rw [← Array.length_toList,q7,List.length_map,dI]
 have hpos:i*inf.t.sz+j < n.toNat*inf.t.sz:=by
  have:(i+1)*inf.t.sz≤n.toNat*inf.t.sz:=Nat.mul_le_mul_right _ hil
  rw [Nat.succ_mul] at this
  omega
 have hzj:z.cells[j]?=some u:=by rw [← Array.getElem?_toList,q7];exact hj
 have hmod:(i*inf.t.sz+j) % z.cells.size=j:=by
  rw [hzs,Nat.add_comm,Nat.add_mul_mod_self_right,Nat.mod_eq_of_lt hjl]
 rw [Array.getElem?_toList]
 unfold madeCells
 rw [Array.getElem?_map,Array.getElem?_range,if_pos hpos]
 simp only [Option.map_some,hmod]
 rw [getElem!_def,hzj]
theorem op_slice (hok:EnvOk P e) {R E:Nat} {x hh:Operand} {b:Nat} {t:Ty} {xs:List t.den} {n:Int} {E0:Nat} {t0:Ty} (h:RelC e Γ C s a w) (ho:o.op= .slice R x none (some hh) none) (hR:bL e.els R=some E0) (hE0:e.ty E0=some t0) (hx:bC s x= .v (.one (.own b))) (hn:bC s hh= .v (.one (.int .i64 n)))
  (hb:aF s.mem b=some (.row E t xs)) (hi:fresh s.mem id 1=true) (h0:0≤n) (h1:n≤(xs.length:Int)) :
  OpDone P e Γ C o a w (.v (.one (.own id)),aI (dG s.mem [b]) id (.row E t (xs.take n.toNat))):=by
 have hu:=hok.el R E0 hR
 obtain ⟨inf,hinf,rfl⟩:=cR hE0
 obtain ⟨it,d,z,q1,_⟩:=(hok.ty E0 inf hinf).out
 obtain ⟨hd,e1⟩:=aU h hx
 have e2:a.eval hh= .int .i64 n:=aU h hn
 obtain ⟨⟨cells,hown,hr,hf⟩,hexb⟩:=h.mem.blk b _ hb
 have hlt:(xs.take n.toNat).length=n.toNat:=by rw [List.length_take];omega
 have hrc:RowC C.Fz w t (xs.take n.toNat) (cells.take (n.toNat*t.sz)):=fun i y hy=>by
  rw [List.getElem?_take] at hy
  split at hy
  ·rename_i hin
   obtain ⟨es,hk,hc⟩:=hr i y hy
   refine ⟨es,hk,fun j u hj=>?_⟩
   have hjl:j < t.sz:=by
    have:=(List.getElem?_eq_some_iff.1 hj).1
    rw [hk.len] at this
    exact this
   have:(i+1)*t.sz≤n.toNat*t.sz:=Nat.mul_le_mul_right _ hin
   rw [Nat.succ_mul] at this
   rw [List.getElem?_take,if_pos (by omega)]
   exact hc j u hj
  ·cases hy
 rcases hown.2 with ⟨hv,hn0⟩ | ⟨g,cap,cur,hv,hb0,hg,hlc,hm,hs,ht⟩
 ·have hxs:xs=[]:=List.length_eq_zero_iff.1 hn0
  subst hxs
  have hnz:n=0:=by simp at h1;omega
  subst hnz
  refine bM (X:=Instr.sliceAt R (a.eval x) none (some (a.eval hh)) none) (by unfold execOp;rw [ho];rfl) (v:= .slice none 0 0) (w':=w) ?_
   (kZ (row:=bI (C.σ b)) h hi (.inr ⟨b,E,t,[],rfl,hb,rfl⟩) ⟨rfl,rfl,rfl,Nat.le_refl _,fun _ _ _=>rfl⟩ (cells:=[]) (World.ownsRow_nil w 0 E t.sz) (fun g hg=>by cases hg) (fun i y hy=>by simp at hy))
  rw [e1,hv,e2]
  simp [Instr.sliceAt,Instr.slice,Instr.sliceBounds,Instr.sliceBound,asIntOf,run_underlying hu,sizeOf,typeInfo,q1]
 ·have hnc:n≤(cap:Int):=by omega
  refine bM (X:=Instr.sliceAt R (a.eval x) none (some (a.eval hh)) none) (by unfold execOp;rw [ho];rfl) (v:= .slice (some ⟨g,0,none⟩) n.toNat cap) (w':=w) ?_
   (kZ (row:=bI (C.σ b)) h hi (.inr ⟨b,E,t,xs,rfl,hb,rfl⟩) ⟨rfl,rfl,rfl,Nat.le_refl _,fun _ _ _=>rfl⟩ (cells:=cells.take (n.toNat*t.sz)) ?_ (fun g' hg'=> .inl (by rw [hv];rw [← hg'];rfl)) hrc)
  ·rw [e1,hv,e2]
   have hif:(if cap=0 then (some ⟨g,0,none⟩:Option Addr) else (some ⟨g,0,none⟩:Option Addr).map (·.add (0*it.size)))=some ⟨g,0,none⟩:=by
    split
    ·rfl
    ·rw [Nat.zero_mul,Option.map_some,add_zero]
   simp only [Instr.sliceAt,Instr.slice,Instr.sliceBounds,Instr.sliceBound,asIntOf,Sem.run_bind,run_underlying hu,Result.andThen_ok,Sem.run_pure,sizeOf,typeInfo,run_program,q1]
   rw [if_pos ⟨h0,hnc⟩]
   simp only [Sem.run_pure,Result.andThen_ok,hif,Nat.sub_zero]
  ·rw [hlt]
   have hle:n.toNat*t.sz≤xs.length*t.sz:=Nat.mul_le_mul_right _ (by omega)
   refine ⟨by rw [List.length_take,hown.1];omega, .inr ⟨g,cap,cur,rfl,Nat.zero_le _,hg,by omega,hm,hs,?_⟩⟩
   rw [← ht,List.take_take,Nat.min_eq_left hle]
end Go.Ev
