/-
 The abstract evaluator: rows that are owned all the way down: literals and appends.
-/
import Derived.Test.YtgpjfmjceamonaaGreatDoorEvX1
namespace Go.Ev
variable {P:Program} {e:Env} {H:Nat→Option FH} {Γ:Actv} {C:Ctx} {s:St} {a:Act} {w:World} {o:Oper} {id:Nat} {r:AV×aX}
theorem packD_rel (hm:RelM Γ.D C w s.mem) {d:DT} {x:Vl} {y:d.ty.den} {os:List Nat} {v:Value} (h:packD s.mem d x=some (y,os)) (hv:VRel C w x v) :
  v.cells.size=d.ty.sz∧Lives s.mem os∧∃ b rest,DVH C.Fz w [] d y v.cells.toList b∧(b ++rest).Perm (bP C os)∧∀ u∈v.cells.toList,u.oneCell'=true:=by
 unfold packD at h
 cases hq:(cU x.cells && Nat.beq x.cells.length d.ty.sz) with
 | false=>rw [hq] at h;cases h
 | true=>
  rw [hq] at h
  rw [Bool.and_eq_true] at hq
  simp only [cond_true] at h
  obtain ⟨hc,h1⟩:=VRel.cells hm hv hq.1
  have hl:x.cells.length=d.ty.sz:=Nat.eq_of_beq_eq_true hq.2
  obtain ⟨g1,⟨b,rest,g2,g3⟩,_⟩:=iA hm h (.inr rfl) (DVH_zero d) hc (.inr (by omega))
  have hvl:v.cells.toList.length=d.ty.sz:=by rw [← hc.length];exact hl
  have hsp:spl (d.ty.zcells.map litV) 0 v.cells.toList=v.cells.toList:=by
   unfold spl
   rw [List.take_zero,List.nil_append,Nat.zero_add,List.drop_of_length_le (by rw [List.length_map,dI,hvl];exact Nat.le_refl _),List.append_nil]
  rw [hsp] at g2
  exact ⟨by rw [← Array.length_toList];exact hvl,g1,b,rest,g2,g3,h1⟩
theorem packDs_rel (hm:RelM Γ.D C w s.mem) {d:DT}:∀ {l:List Vl} {xs:List d.ty.den} {os:List Nat} {vs:List Value} {k:Nat},packDs s.mem d l=some (xs,os)→All2 (VRel C w) l vs→
  xs.length=l.length∧(∀ v∈vs,v.cells.size=d.ty.sz)∧Lives s.mem os∧∃ b rest,Elts (fun _=>DVH C.Fz w [] d) k xs (vs.flatMap fun v=>v.cells.toList) b∧(b ++rest).Perm (bP C os)
 | [],xs,os,[],_,h,_=>by
  cases h
  exact ⟨rfl,fun _ hh=>(by cases hh),fun _ hh=>(by cases hh),[],[],⟨rfl,rfl⟩,List.Perm.refl _⟩
 | [],_,_,_ ::_,_,_,hc=>hc.elim
 | _ ::_,_,_,[],_,_,hc=>hc.elim
 | x ::l,xs,os,v ::vs,k,h,hc=>by
  unfold packDs at h
  split at h
  ·rename_i y os1 h1
   split at h
   ·rename_i ys os2 h2
    cases h
    obtain ⟨p1,p2,b,rest,p3,p4,_⟩:=packD_rel hm h1 hc.1
    obtain ⟨q1,q2,q3,b',rest',q4,q5⟩:=packDs_rel hm (k:=k+1) h2 hc.2
    refine ⟨by simp [q1],fun u hu=>?_,p2.append q3,b ++b',rest ++rest',⟨_,_,b,b',List.flatMap_cons,rfl,p3,q4⟩,?_⟩
    ·rcases List.mem_cons.1 hu with rfl | hu
     ·exact p1
     ·exact q2 u hu
    ·rw [cY]
     have:=perm_mix (c:=[]) (c':=[]) (by simpa using p4) (by simpa using q5)
     simpa using this
   ·cases h
  ·cases h
theorem op_buildSliceD (hok:EnvOk P e) {R E n:Nat} {d:DT} {parts:Array (Nat×Operand)} {l:List Vl} {xs:List d.ty.den} {os:List Nat} (h:RelC e Γ C s a w) (ho:o.op= .buildSlice R n parts) (hR:bL e.els R=some E) (hE:e.ty E=some d.ty)
  (hl:vals s parts.toList 0=some l) (hn:l.length=n) (hbig:n*d.ty.sz≤16777216) (hi:fresh s.mem id 1=true) (hp:packDs s.mem d l=some (xs,os)) (iB:kK os=true) :
  OpDone P e Γ C o a w (.v (.one (.own id)),aI (dG s.mem os) id (.deep E d xs false [])):=by
 have hu:=hok.el R E hR
 obtain ⟨inf,hinf,hinft⟩:=cR hE
 obtain ⟨it,dd,z,q1,q2,q3,q4,q5,q6,q7,q8⟩:=(hok.ty E inf hinf).out
 rw [hinft] at q4 q7
 obtain ⟨v1,v2⟩:=vals_rel h parts.toList 0 l hl
 obtain ⟨p1,p2,p3,bb,rest,p4,p5⟩:=packDs_rel h.mem (k:=0) hp v2
 have hsz:0 < d.ty.sz:=sz_pos _
 have hlen:(parts.toList.map fun p=>a.eval p.2).length=n:=by rw [← v2.length];exact hn
 have hparts:(parts.map fun (p:Nat×Operand)=>(p.1,a.eval p.2)).toList=((parts.toList.map fun p=>a.eval p.2).zipIdx 0).map (fun x=>(x.2,x.1)):=by rw [Array.toList_map];exact v1
 have key:∀ zero:Array Value,∃ out,Instr.fill (fun i=>some (i*d.ty.sz,d.ty.sz)) ((Array.range (n*d.ty.sz)).map (zero[· % zero.size]!)) (parts.map fun (p:Nat×Operand)=>(p.1,a.eval p.2)).toList=some out∧
   out.toList=(parts.toList.map fun p=>a.eval p.2).flatMap (fun v=>v.cells.toList):=by
  intro zero
  obtain ⟨out,f1,f2,f3⟩:=fill_seq d.ty.sz (parts.toList.map fun p=>a.eval p.2) 0 ((Array.range (n*d.ty.sz)).map (zero[· % zero.size]!)) p2 (by rw [hlen];simp)
  refine ⟨out,by rw [hparts];exact f1,?_⟩
  rw [f3,Nat.zero_mul,List.take_zero,List.nil_append,Nat.zero_add,hlen,List.drop_of_length_le (by simp),List.append_nil]
 have hrun:∃ out:Array Value,(Instr.buildSlice R n (parts.map fun (p:Nat×Operand)=>(p.1,a.eval p.2))).run P w= .ok (.slice (some ⟨w.heap.size,0,none⟩) n n) (w.alloc (.cells out E))∧
   out.toList=(parts.toList.map fun p=>a.eval p.2).flatMap (fun v=>v.cells.toList):=by
  by_cases hz:n*d.ty.sz=0
  ·have hn0:n=0:=(Nat.mul_eq_zero.1 hz).resolve_right (by omega)
   subst hn0
   have hpe:parts=#[]:=by
    apply Array.ext'
    rw [List.length_map] at hlen
    rw [List.length_eq_zero_iff.1 hlen]
   subst hpe
   refine ⟨#[],?_,by simp⟩
   simp [Instr.buildSlice,run_underlying hu,sizeOf,typeInfo,q1,Instr.fill,newRow]
   congr 2
   exact Array.ext' (by simp)
  ·obtain ⟨out,f1,f2⟩:=key z.cells
   refine ⟨out,?_,f2⟩
   have hb:¬ (n*d.ty.sz > 2 ^ 24):=by omega
   simp only [Instr.buildSlice,Sem.run_bind,run_underlying hu,Result.andThen_ok,sizeOf,typeInfo,run_program,q1,Sem.run_pure,q4]
   rw [if_neg hb]
   rw [Array.toList_map] at f1
   simp [hz,zeroValue,typeInfo,q1,q6,newRow]
   rw [f1]
   simp
 obtain ⟨out,hr1,hr2⟩:=hrun
 have hndl:=nodup_of iB
 have hbl:=eJ h.mem hndl p3
 have hlt:=blks_lt h.mem p3
 have hin:∀ k,k∈bb→k∈bP C os:=fun k hk=>p5.mem_iff.1 (List.mem_append_left _ hk)
 have hbn:bb.Nodup:=(List.nodup_append.1 (p5.nodup_iff.2 hbl)).1
 have hv:bI (.slice (some ⟨w.heap.size,0,none⟩) n n)=some w.heap.size:=rfl
 have hos:out.size=n*d.ty.sz:=by
  rw [← Array.length_toList,hr2]
  have:∀ (vs:List Value),(∀ v∈vs,v.cells.size=d.ty.sz)→(vs.flatMap fun v=>v.cells.toList).length=vs.length*d.ty.sz:=by
   intro vs
   induction vs with
   | nil=>intro _;simp
   | cons v vs ih=>
    intro hh
    rw [List.flatMap_cons,List.length_append,ih (fun u hu=>hh u (List.mem_cons_of_mem _ hu)),Array.length_toList,hh v List.mem_cons_self,List.length_cons,Nat.succ_mul]
    omega
  rw [this _ p2,hlen]
 have hxl:xs.length=n:=p1.trans hn
 obtain ⟨C',hp'⟩:=post_deep (i:=id) (E:=E) (zs:=xs) (os:=os) (b2:=bb) (v':= .slice (some ⟨w.heap.size,0,none⟩) n n) (w':=w.alloc (.cells out E)) (cells:=out.toList) (X:=fun _=>False) h hi p3 (ch_alloc w (.cells out E) _) (fun _ hh=>hh.elim)
  (by
   rw [hxl]
   refine World.ownsRow_lit w _ _ (Nat.zero_le _) ?_ hos
   have:n≤n*d.ty.sz:=Nat.le_mul_of_pos_right _ hsz
   unfold maxLen
   omega) (by
   rw [hr2]
   exact p4.imp fun j x c b _ hb hr=>DVH.move (fun _ hh=>hh) (fun k hf hk=>heap_alloc_old w _ k hk) (fun k hk=>heap_alloc_old w _ k (hlt k (hin k (hb k hk))).2.2) hr) (by
   rw [hv]
   exact List.nodup_cons.2 ⟨fun hh=>Nat.lt_irrefl _ (hlt _ (hin _ hh)).2.2,hbn⟩) (fun g hg=>by
   rw [hv] at hg
   rcases List.mem_cons.1 hg with rfl | hg
   ·exact ⟨by rw [World.size_alloc];exact Nat.lt_succ_self _, .inr (Nat.le_refl _)⟩
   ·exact ⟨by rw [World.size_alloc];exact Nat.lt_succ_of_lt (hlt g (hin g hg)).2.2, .inl (hin g hg)⟩)
 exact bM (X:=Instr.buildSlice R n (parts.map fun (p:Nat×Operand)=>(p.1,a.eval p.2))) (by unfold execOp;rw [ho]) hr1 hp'
theorem exDeep_own {D:Nat→Prop} {m:aX} (hm:RelM D C w m) {E:Nat} {d:DT} {c:CV} {v:Value} {xs:List d.ty.den} {os:List Nat} (h:eH m E d c=some (xs,os)) (hc:CRel C w c v) :
  Lives m os∧∃ cells b2,w.ownsRow 0 E d.ty.sz v xs.length cells∧Elts (fun _=>DVH C.Fz w [] d) 0 xs cells b2∧(bP C os).Perm ((bI v).toList ++b2):=by
 obtain ⟨h1,b,⟨cells,b2,rfl,h2,h3⟩,h4⟩:=iX hm h hc
 exact ⟨h1,cells,b2,h2,h3,h4⟩
theorem Elts.shift {α:Type} {R:α→List Value→List Nat→Prop}:∀ {k k':Nat} {xs:List α} {cells:List Value} {b:List Nat},Elts (fun _=>R) k xs cells b→Elts (fun _=>R) k' xs cells b
 | _,_,[],_,_,h=>h
 | _,_,_ ::_,_,_,⟨c1,c2,b1,b2,e1,e2,h1,h2⟩=>⟨c1,c2,b1,b2,e1,e2,h1,Elts.shift h2⟩
theorem Elts.append {α:Type} {R:α→List Value→List Nat→Prop}:∀ {k:Nat} {xs ys:List α} {cx cy:List Value} {bx b_y:List Nat},Elts (fun _=>R) k xs cx bx→Elts (fun _=>R) 0 ys cy b_y→Elts (fun _=>R) k (xs ++ys) (cx ++cy) (bx ++b_y)
 | _,[],_,_,_,_,_,h,h'=>by
  obtain ⟨rfl,rfl⟩:=h
  exact h'.shift
 | _,_ ::_,_,_,_,_,_,⟨c1,c2,b1,b2,rfl,rfl,h1,h2⟩,h'=>⟨c1,c2 ++_,b1,b2 ++_,List.append_assoc _ _ _,List.append_assoc _ _ _,h1,Elts.append h2 h'⟩
theorem Elts.one {Fz:Nat→Prop} {d:DT}:∀ {k:Nat} {xs:List d.ty.den} {cells:List Value} {b:List Nat},Elts (fun _=>DVH Fz w [] d) k xs cells b→∀ u∈cells,u.oneCell'=true
 | _,[],_,_,h,u,hu=>by rw [h.1] at hu;cases hu
 | _,_ ::_,_,_,⟨c1,c2,b1,b2,e1,e2,h1,h2⟩,u,hu=>by
  subst e1
  rcases List.mem_append.1 hu with hu | hu
  ·exact h1.one u hu
  ·exact Elts.one h2 u hu
theorem op_appendD (hok:EnvOk P e) {T E:Nat} {inf:TI} {x y:Operand} {ca cb:CV} {d:DT} {xs ys:List d.ty.den} {os os':List Nat} (h:RelC e Γ C s a w) (ho:o.op= .call { callee:= .builtin .append,args:=#[x,y],argTypes:=#[T,T] }) (hT:bL e.els T=some E) (hE:bL e.tys E=some inf) (hd:inf.t=d.ty)
  (hx:bC s x= .v (.one ca)) (hy:bC s y= .v (.one cb)) (hxa:eH s.mem E d ca=some (xs,os)) (hya:eH s.mem E d cb=some (ys,os')) (hi:fresh s.mem id 1=true) (iB:kK (os ++os')=true)
  (hlim:xs.length+ys.length≤140737488355328 / inf.bytes):OpDone P e Γ C o a w (.v (.one (.own id)),aI (dG s.mem (os ++os')) id (.deep E d (xs ++ys) false [])):=by
 obtain ⟨it,dd,z,t1,t2,t3,t4,t5,t6,t7,t8⟩:=(hok.ty E inf hE).out
 rw [hd] at t4 t7
 have hu:=hok.el T E hT
 have hsz:0 < d.ty.sz:=sz_pos _
 have hzs:z.cells.size=d.ty.sz:=by rw [← Array.length_toList,t7,List.length_map,dI]
 have hbytes:(xs.length+ys.length)*inf.bytes≤140737488355328:=Nat.le_trans (Nat.mul_le_mul_right _ hlim) (Nat.div_mul_le_self _ _)
 have hle63:xs.length+ys.length≤maxLen:=by
  have:xs.length+ys.length≤(xs.length+ys.length)*inf.bytes:=Nat.le_mul_of_pos_right _ t8
  unfold maxLen
  omega
 obtain ⟨lx,cx,bx,ox,ex,px⟩:=exDeep_own h.mem hxa (aU h hx)
 obtain ⟨ly,cy,b_y,oy,ey,py⟩:=exDeep_own h.mem hya (aU h hy)
 have hlv:Lives s.mem (os ++os'):=lx.append ly
 have hbl:=eJ h.mem (nodup_of iB) hlv
 have hlt:=blks_lt h.mem hlv
 rw [cY] at hbl hlt
 have hall:(bP C os ++bP C os').Perm (((bI (a.eval x)).toList ++bx) ++((bI (a.eval y)).toList ++b_y)):=px.append py
 have hall':=hall.nodup_iff.1 hbl
 have hcl:cx.length=xs.length*d.ty.sz:=ox.1
 have hfin:∀ (v':Value) (w':World),(Builtin.append_ #[T,T] o.type #[a.eval x,a.eval y]).run P w= .ok v' w'→w'.ownsRow 0 E d.ty.sz v' (xs.length+ys.length) (cx ++cy)→w.grownBy w' (bI (a.eval x))→(∀ g,bI v'=some g→some g=bI (a.eval x)∨w.heap.size≤g)→
   OpDone P e Γ C o a w (.v (.one (.own id)),aI (dG s.mem (os ++os')) id (.deep E d (xs ++ys) false [])):=by
  intro v' w' hrun hown hg hat
  have hinx:∀ k,k∈bx→k∈bP C os ++bP C os':=fun k hk=>hall.mem_iff.2 (by simp [hk])
  have hiny:∀ k,k∈b_y→k∈bP C os ++bP C os':=fun k hk=>hall.mem_iff.2 (by simp [hk])
  have hne:∀ k,k∈bx ++b_y→bI (a.eval x)≠some k:=fun k hk hh=>by
   rw [hh] at hall'
   have h1:(k ::(bx ++((bI (a.eval y)).toList ++b_y))).Nodup:=by simpa [List.append_assoc] using hall'
   refine (List.nodup_cons.1 h1).1 ?_
   rcases List.mem_append.1 hk with hk | hk
   ·simp [hk]
   ·simp [hk]
  have hin:∀ k,k∈bx ++b_y→k∈bP C os ++bP C os':=fun k hk=>(List.mem_append.1 hk).elim (hinx k) (hiny k)
  have hkeep:∀ k,k∈bx ++b_y→w'.heap[k]?=w.heap[k]?:=fun k hk=>hg.block k (hlt k (hin k hk)).2.2 (fun hh=>hne k hk hh.symm)
  have hfz:∀ k,C.Fz k→k < w.heap.size→w'.heap[k]?=w.heap[k]?:=fun k hf hk=>hg.block k hk (fun hh=>by
   refine (hlt k (hall.mem_iff.2 ?_)).1 hf
   rw [← hh]
   simp)
  have hv:(bI v').toList ++(bx ++b_y)=(bI v').toList ++(bx ++b_y):=rfl
  obtain ⟨C',hp'⟩:=post_deep (i:=id) (E:=E) (zs:=xs ++ys) (os:=os ++os') (b2:=bx ++b_y) (v':=v') (w':=w') (cells:=cx ++cy) (X:=fun k=>bI (a.eval x)=some k) h hi hlv ⟨hg.os,hg.tape,hg.output,hg.size,fun k hk hh=>hg.block k hk (fun hq=>hh hq.symm)⟩
   (fun k hk=>by
    rw [cY]
    refine hall.mem_iff.2 ?_
    rw [hk]
    simp)
   (by rw [List.length_append];exact hown)
   (Elts.append (ex.imp fun j x c b _ hb hr=>DVH.move (fun _ hh=>hh) hfz (fun k hk=>hkeep k (List.mem_append_left _ (hb k hk))) hr) (ey.imp fun j x c b _ hb hr=>DVH.move (fun _ hh=>hh) hfz (fun k hk=>hkeep k (List.mem_append_right _ (hb k hk))) hr))
   (by
    have hbb:(bx ++b_y).Nodup:=by
     have h1:((bx ++b_y) ++((bI (a.eval x)).toList ++(bI (a.eval y)).toList)).Nodup:=by
      refine (List.Perm.nodup_iff ?_).1 hall'
      rw [List.perm_iff_count]
      intro k
      simp only [List.count_append]
      omega
     exact (List.nodup_append.1 h1).1
    cases hvv:bI v' with
    | none=>exact hbb
    | some g=>
     refine List.nodup_cons.2 ⟨fun hh=>?_,hbb⟩
     rcases hat g hvv with h1 | h1
     ·exact hne g hh h1.symm
     ·exact Nat.lt_irrefl _ (Nat.lt_of_lt_of_le (hlt g (hin g hh)).2.2 h1))
   (fun g hgg=>by
    rw [cY]
    rcases List.mem_append.1 hgg with hgg | hgg
    ·have hgg':bI v'=some g:=by simpa using hgg
     refine ⟨own_blk_lt hown hgg',?_⟩
     rcases hat g hgg' with h1 | h1
     ·left
      refine hall.mem_iff.2 ?_
      rw [← h1]
      simp
     ·exact .inr h1
    ·exact ⟨Nat.lt_of_lt_of_le (hlt g (hin g hgg)).2.2 hg.size, .inl (hin g hgg)⟩)
  refine .inl ⟨v',w',C',?_,hp'⟩
  unfold execOp
  rw [ho]
  simp [resolve,invoke,builtin,hrun]
 rcases oy.2 with ⟨hs,hn⟩ | ⟨g,cap,cur,hs,_,hg,hlc,hmx,hszz,htk⟩
 ·have hy0:ys=[]:=List.length_eq_zero_iff.1 hn
  subst hy0
  have hcy:cy=[]:=List.length_eq_zero_iff.1 (by rw [oy.1];simp)
  subst hcy
  have hrun:=run_append_owned_none (P:=P) (w:=w) 0 T o.type E it d.ty.sz hu t1 (a.eval x) xs.length cx ox
  refine hfin (a.eval x) w (by rw [hs];exact hrun) (by simpa using ox) ⟨rfl,rfl,rfl,Nat.le_refl _,fun _ _ _=>rfl⟩ (fun g hg=> .inl hg.symm)
 ·have hcyl:cy.length=ys.length*d.ty.sz:=oy.1
  have n2:∀ (j:Nat) (u:Value),cy[j]?=some u→w.cell? ((⟨g,0,none⟩:Addr).add j)=some u:=fun j u hj=>by
   rw [iK,jA hg]
   rw [← htk,List.getElem?_take] at hj
   split at hj
   ·rw [← Array.getElem?_toList]
    exact hj
   ·cases hj
  obtain ⟨v',w',hrun,hown',hgr,_,hat⟩:=run_append_own_at (P:=P) (w:=w) 0 T o.type E it z d.ty.sz inf.bytes hu t1 t6 t4 t5 hzs hsz (a.eval x) xs.length cx ox ⟨g,0,none⟩ ys.length cap cy hcyl n2 (Elts.one ey) hle63 hbytes (Nat.zero_le _)
  rw [← kE ox] at hgr
  refine hfin v' w' (by rw [hs];exact hrun) hown' hgr (fun k hk=>?_)
  rw [kE hown'] at hk
  rcases hat with hh | hh
  ·exact .inl (by rw [← hk,hh,kE ox])
  ·rw [hh] at hk
   cases hk
   exact .inr (Nat.le_refl _)
end Go.Ev
namespace Go.Ev
variable {P:Program} {e:Env} {H:Nat→Option FH} {Γ:Actv} {C:Ctx} {s:St} {a:Act} {w:World} {o:Oper} {id:Nat} {r:AV×aX}
theorem RelM.congr {D:Nat→Prop} {m m2:aX} (h:RelM D C w m) (he:∀ i,aF m2 i=aF m i):RelM D C w m2:=
 ⟨fun i b hi=>h.blk i b (by rw [← he];exact hi),fun i j b c hi hj=>h.inj i j b c (by rw [← he];exact hi) (by rw [← he];exact hj),fun i=>by rw [he];exact h.dm i,h.one⟩
theorem rowBk_D {Fz:Nat→Prop} {E:Nat} {u:Value} {bu:List Nat}:∀ {d:DT} {xs:List d.ty.den},OwnD Fz w E d xs u bu→BkD Fz w u bu (rowBk E d xs)
 | .fl _,_,h=>h
 | .st _,_,h=>h
 | .pair _ _,_,h=>h
 | .row _ _,_,h=>h
theorem hoHere_none {ho:List (Nat×Value)} (h:∀ p,p∈ho→p.1≠0):hoHere ho=none:=by
 unfold hoHere
 cases hf:ho.find? (fun p=>Nat.beq p.1 0) with
 | none=>rfl
 | some p=>
  have h1:=List.find?_some hf
  exact absurd (Nat.eq_of_beq_eq_true h1) (h p (List.mem_of_find?_eq_some hf))
theorem dget_rel {Fz:Nat→Prop}:∀ {d:DT} {ho:List (Nat×Value)} {x:d.ty.den} {cs:List Value} {b:List Nat} {off:Nat} {bk:Bk},dget d x off=some bk→(∀ p,p∈ho→p.1≠off)→DVH Fz w ho d x cs b→
  ∃ u b' bu,cs[off]?=some u∧DVH Fz w ((off,u) ::ho) d x cs b'∧BkD Fz w u bu bk∧(b' ++bu).Perm b∧off < d.ty.sz∧gY d off=true
 | .fl _,_,_,_,_,_,_,h,_,_=>by cases h
 | .st d,ho,x,cs,b,off,bk,h,hh,hd=>dget_rel (d:=d) (ho:=ho) (x:=x) h hh hd
 | .pair p q,ho,x,cs,b,off,bk,h,hh,hd=>by
  obtain ⟨c1,c2,b1,b2,rfl,rfl,h1,h2⟩:=hd
  have hl:c1.length=p.ty.sz:=h1.len
  simp only [dget] at h
  cases hq:Nat.blt off p.ty.sz with
  | true=>
   rw [hq] at h
   have hlt:off < p.ty.sz:=Nat.le_of_ble_eq_true hq
   obtain ⟨u,b',bu,g1,g2,g3,g4,g5,g6⟩:=dget_rel h (fun p hp=>hh p (List.mem_filter.1 hp).1) h1
   refine ⟨u,b' ++b2,bu,by rw [List.getElem?_append_left (by omega)];exact g1,⟨c1,c2,b',b2,rfl,rfl,?_,?_⟩,g3,?_,Nat.lt_of_lt_of_le hlt (Nat.le_add_right _ _),(rowAt_left hlt).trans g6⟩
   ·have:hoL p.ty.sz ((off,u) ::ho)=(off,u) ::hoL p.ty.sz ho:=by
     unfold hoL
     rw [List.filter_cons,if_pos hq]
    rw [this]
    exact g2
   ·have:hoR p.ty.sz ((off,u) ::ho)=hoR p.ty.sz ho:=by
     unfold hoR
     rw [List.filter_cons,if_neg (by rw [hq];simp)]
    rw [this]
    exact h2
   ·rw [List.perm_iff_count] at *
    intro k
    have:=g4 k
    simp only [List.count_append] at *
    omega
  | false=>
   rw [hq] at h
   have hle:p.ty.sz≤off:=by
    have:¬ off < p.ty.sz:=fun hlt=>by
     rw [show Nat.blt off p.ty.sz=true from Nat.ble_eq_true_of_le hlt] at hq
     cases hq
    omega
   obtain ⟨u,b',bu,g1,g2,g3,g4,g5,g6⟩:=dget_rel h (fun z hz=>by
    obtain ⟨y,hy1,rfl⟩:=List.mem_map.1 hz
    obtain ⟨hy2,hy3⟩:=List.mem_filter.1 hy1
    have h3:=hh y hy2
    have h4:p.ty.sz≤y.1:=by
     have:¬ y.1 < p.ty.sz:=fun hlt=>by
      rw [show Nat.blt y.1 p.ty.sz=true from Nat.ble_eq_true_of_le hlt] at hy3
      cases hy3
     omega
    show y.1 - p.ty.sz≠off - p.ty.sz
    omega) h2
   refine ⟨u,b1 ++b',bu,by rw [List.getElem?_append_right (by omega),hl];exact g1,⟨c1,c2,b1,b',rfl,rfl,?_,?_⟩,g3,?_,?_,?_⟩
   ·have:hoL p.ty.sz ((off,u) ::ho)=hoL p.ty.sz ho:=by
     unfold hoL
     rw [List.filter_cons,if_neg (by rw [hq];simp)]
    rw [this]
    exact h1
   ·have:hoR p.ty.sz ((off,u) ::ho)=(off - p.ty.sz,u) ::hoR p.ty.sz ho:=by
     unfold hoR
     rw [List.filter_cons,if_pos (by rw [hq];rfl),List.map_cons]
    rw [this]
    exact g2
   ·rw [List.append_assoc]
    exact g4.append_left b1
   ·show off < p.ty.sz+q.ty.sz
    omega
   ·obtain ⟨k,rfl⟩:∃ k,off=p.ty.sz+k:=⟨off - p.ty.sz,by omega⟩
    rw [Nat.add_sub_cancel_left] at g6
    exact rowAt_right.trans g6
 | .row E d,ho,x,cs,b,off,bk,h,hh,hd=>by
  simp only [dget] at h
  cases hq:Nat.beq off 0 with
  | false=>rw [hq] at h;cases h
  | true=>
   rw [hq] at h
   have:=Nat.eq_of_beq_eq_true hq
   subst this
   cases h
   have hn:=hoHere_none hh
   rcases hd with ⟨v,hv,_⟩ | ⟨_,u,cells,b2,rfl,rfl,h1,h2⟩
   ·rw [hn] at hv;cases hv
   ·refine ⟨u,[],_,rfl, .inl ⟨u,rfl,rfl,own_one h1,rfl⟩,rowBk_D ⟨cells,b2,rfl,h1,h2⟩,List.Perm.refl _,Nat.one_pos,rfl⟩
theorem Elts.rowC {Fz:Nat→Prop} {t:Ty} {xs:List t.den} {cells:List Value} {b:List Nat} (h:Elts (fun _=>DVH Fz w [] (.fl t)) 0 xs cells b):RowC Fz w t xs cells∧b=[]:=by
 refine ⟨fun i x hi=>?_,?_⟩
 ·obtain ⟨es,b',g1,_,g3⟩:=Elts.at (n:=t.sz) (fun _ _ _ _ h=>DVH.len h) h i x hi
  exact ⟨es,g1.1,g3⟩
 ·have key:∀ {k:Nat} {xs:List t.den} {cells:List Value} {b:List Nat},Elts (fun _=>DVH Fz w [] (.fl t)) k xs cells b→b=[]:=by
   intro k xs
   induction xs generalizing k with
   | nil=>exact fun hh=>hh.2
   | cons x xs ih=>
    rintro cells b ⟨c1,c2,b1,b2,_,rfl,h1,h2⟩
    rw [h1.2,ih h2]
    rfl
  exact key h
theorem BkD.rel {D:Nat→Prop} {i:Nat} {bk:Bk} {bu:List Nat} (h:BkD C.Fz w (C.σ i) bu bk) (hfp:bu=C.fp i) (hk:(∃ E t xs,bk= .row E t xs)∨∃ E d xs,bk= .deep E d xs false []) (iB:bu.Nodup) (hb:∀ g,g∈bu→¬ C.Fz g∧D g∧g < w.heap.size):BRel D C w i bk:=by
 have hex:∀ b2,bu=(bI (C.σ i)).toList ++b2→C.ex i=b2:=fun b2 he=>by
  rw [hfp] at he
  exact List.append_cancel_left he
 rcases hk with ⟨E,t,xs,rfl⟩ | ⟨E,d,xs,rfl⟩
 ·obtain ⟨cells,b2,he,h1,h2⟩:=h
  obtain ⟨h3,h4⟩:=h2.rowC
  refine ⟨⟨cells,h1,h3,fun g hg=>?_⟩,(hex _ he).trans h4⟩
  have:=hb g (by rw [hfp];exact dK hg)
  exact ⟨this.1,this.2.1⟩
 ·obtain ⟨cells,b2,he,h1,h2⟩:=h
  exact ⟨⟨cells,b2,h1,h2,by rw [hex _ he],fun hh=>by cases hh⟩,by rw [← hfp];exact iB,by rw [← hfp];exact hb,fun p hp=>(by cases hp),List.nodup_nil,fun p hp=>(by cases hp)⟩
theorem iN:∀ {d:DT} {x:d.ty.den} {off:Nat} {bk:Bk},dget d x off=some bk→(∃ E t xs,bk= .row E t xs)∨∃ E d xs,bk= .deep E d xs false []
 | .fl _,_,_,_,h=>by cases h
 | .st d,x,off,bk,h=>iN (d:=d) (x:=x) h
 | .pair p q,x,off,bk,h=>by
  simp only [dget] at h
  cases hq:Nat.blt off p.ty.sz with
  | true=>rw [hq] at h;exact iN h
  | false=>rw [hq] at h;exact iN h
 | .row E d,xs,off,bk,h=>by
  simp only [dget] at h
  cases hq:Nat.beq off 0 with
  | false=>rw [hq] at h;cases h
  | true=>
   rw [hq] at h
   cases h
   cases d with
   | fl t=>exact .inl ⟨_,_,_,rfl⟩
   | st d=>exact .inr ⟨_,_,_,rfl⟩
   | pair p q=>exact .inr ⟨_,_,_,rfl⟩
   | row F d=>exact .inr ⟨_,_,_,rfl⟩
end Go.Ev
namespace Go.Ev
variable {P:Program} {e:Env} {H:Nat→Option FH} {Γ:Actv} {C:Ctx} {s:St} {a:Act} {w:World} {o:Oper} {id:Nat} {r:AV×aX}
theorem BkD.parts {Fz:Nat→Prop} {u:Value} {bk:Bk} {bu:List Nat} (h:BkD Fz w u bu bk) (hk:(∃ E t xs,bk= .row E t xs)∨∃ E d xs,bk= .deep E d xs false []):∃ l,bu=(bI u).toList ++l:=by
 rcases hk with ⟨E,t,xs,rfl⟩ | ⟨E,d,xs,rfl⟩
 ·obtain ⟨_,b2,he,_⟩:=h
  exact ⟨b2,he⟩
 ·obtain ⟨_,b2,he,_⟩:=h
  exact ⟨b2,he⟩
theorem takeSub_rel (h:RelC e Γ C s a w) {b off:Nat} {i:Int} {m1:aX} {u:Value} (hi:fresh s.mem id 1=true) (hc:CRel C w (.sub b i off) u) (ht:eM s.mem id b i off=some m1) :
  ∃ C',RelC e Γ C' ⟨s.slots,m1,s.next⟩ a w∧CLe C C'∧C'.Fz=C.Fz∧CRel C' w (.own id) u:=by
 unfold eM at ht
 split at ht
 rotate_left
 ·cases ht
 rename_i E d xs hs hb
 cases hany:hs.any (fun p=>Nat.beq p.2.1 off) with
 | true=>rw [hany] at ht;cases ht
 | false=>
 rw [hany] at ht
 simp only [cond_false] at ht
 split at ht
 rotate_left
 ·cases ht
 rename_i bk hbk
 cases ht
 obtain ⟨hd,⟨ad,l,cp,hσ,hil⟩,hu,hone⟩:=hc
 have hni:¬ C.Dm id:=fun hd=>by
  have:=(h.mem.dm id).1 hd
  rw [dR hi] at this
  cases this
 have hbi:b≠id:=fun hh=>hni (hh ▸ hd)
 have hbr:=h.mem.blk b _ hb
 obtain ⟨⟨cells,b2,hown,hel,hpm,hhd⟩,hfpn,hfp,hhs,hhs2,hhs3⟩:=hbr
 rcases hown.2 with ⟨hv,_⟩ | ⟨g,cap,cur,hv,_⟩
 ·rw [hσ] at hv;cases hv
 have hlx:l=xs.length:=by
  rw [hσ] at hv;simp at hv;exact hv.2.1
 subst hlx
 obtain ⟨pp,c,q,bp,b0,bq,hcells,hb2,hpl,hr,hput⟩:=Elts.cut (sz:=d.ty.sz) (fun _ _ _ _ h=>DVH.len h) hel hil
 rw [Nat.zero_add] at hr hput
 have hget:xs.getD i.toNat d.ty.zero=xs[i.toNat]:=by
  have:=getD_some (d:=d.ty.zero) hil
  rw [List.getElem?_eq_getElem hil] at this
  exact (Option.some.inj this).symm
 rw [hget] at hbk
 have hneo:∀ p,p∈hs→p.2.1≠off:=fun p hp hh=>by
  have:=List.any_eq_false.1 hany p hp
  rw [hh] at this
  exact this (Nat.beq_refl off)
 obtain ⟨u',b',bu,g1,g2,g3,g4,g5,g6⟩:=dget_rel hbk (fun p hp=>by
  obtain ⟨z,hz,rfl⟩:=List.mem_map.1 hp
  exact hneo z (List.mem_filter.1 hz).1) hr
 have hcl:c.length=d.ty.sz:=hr.len
 have huu:u'=u:=by
  have h1:=hhd rfl i.toNat off hil g5 g6
  rw [hcells,List.append_assoc,List.getElem?_append_right (by omega),List.getElem?_append_left (by omega),show i.toNat*d.ty.sz+off - pp.length=off by omega,g1] at h1
  rw [hu]
  exact Option.some.inj h1
 subst huu
 obtain ⟨lid,hlid⟩:=g3.parts (iN hbk)
 let C1:=C.addD id u' lid (fun _ _=>undef)
 let C':=C1.setX b (bp ++b' ++bq)
 have hle1:CLe C C1:=Ctx.addD_le hni
 have hle2:CLe C1 C':=Ctx.setX_le _ _ _
 have hle:=hle1.trans hle2
 have hfpb:C.fp b=g ::C.ex b:=by
  unfold Ctx.fp
  rw [hv]
  rfl
 have hperm:(g ::((bp ++b' ++bq) ++bu)).Perm (C.fp b):=by
  rw [hfpb]
  refine List.Perm.cons g ((List.Perm.trans ?_ hpm.symm))
  rw [hb2]
  rw [List.perm_iff_count] at *
  intro k
  have:=g4 k
  simp only [List.count_append] at *
  omega
 have iB:((g ::(bp ++b' ++bq)) ++bu).Nodup:=hperm.nodup_iff.2 hfpn
 have hfpid:C'.fp id=bu:=by
  have h1:C'.fp id=C1.fp id:=Ctx.setX_fpo C1 b _ (fun hh=>hbi hh.symm)
  rw [h1,hlid]
  exact Ctx.addD_fp _ _ _ _ _
 have hσb:C1.σ b=C.σ b:=hle1.σ b hd
 have hfpb':C'.fp b=g ::(bp ++b' ++bq):=by
  have h1:C'.fp b=(bI (C1.σ b)).toList ++(bp ++b' ++bq):=Ctx.setX_fp C1 b _
  rw [h1,hσb,hv]
  rfl
 have hfpo:∀ j,j≠b→j≠id→C.Dm j→C'.fp j=C.fp j:=fun j h1 h2 hj=>by
  have h3:C'.fp j=C1.fp j:=Ctx.setX_fpo C1 b _ h1
  rw [h3]
  unfold Ctx.fp
  rw [hle1.σ j hj,show C1.ex j=C.ex j from Ctx.addD_exo _ _ _ _ _ j h2]
 have hinb:∀ k,k∈g ::(bp ++b' ++bq)→k∈C.fp b:=fun k hk=>hperm.mem_iff.1 (by
  rcases List.mem_cons.1 hk with rfl | hk
  ·exact List.mem_cons_self
  ·exact List.mem_cons_of_mem _ (List.mem_append_left _ hk))
 have hinu:∀ k,k∈bu→k∈C.fp b:=fun k hk=>hperm.mem_iff.1 (List.mem_cons_of_mem _ (List.mem_append_right _ hk))
 have hdmj:∀ j bb,aF s.mem j=some bb→C.Dm j:=fun j bb hj=>(h.mem.dm j).2 (by rw [hj];rfl)
 have hA:RelM Γ.D C1 w (aI s.mem id .dead):=
  RelM.put (X:=fun _=>False) h.mem hle1 (Ch.refl w _) (fun _ _ hh=>hh) (fun j bb hj hl _ k hk=>⟨fun hh=>hh,((h.mem.blk j bb hj).nf hl hk).1⟩) trivial (fun hh=>by cases hh) (fun _=>Iff.rfl) (by rw [Ctx.addD_σ];exact hone) (Ctx.addD_exo C id u' lid _)
 have hmb:aF (aI s.mem id .dead) b=some (.deep E d xs true hs):=by
  rw [aG,if_neg hbi]
  exact hb
 have hlive:∀ j bb,aF (aI s.mem id .dead) j=some bb→gF bb=true→j≠id∧aF s.mem j=some bb:=fun j bb hj hl=>by
  rw [aG] at hj
  split at hj
  ·cases hj;cases hl
  ·exact ⟨‹_›,hj⟩
 have hfp1:∀ j,j≠id→C.Dm j→C1.fp j=C.fp j:=fun j h2 hj=>by
  unfold Ctx.fp
  rw [hle1.σ j hj,show C1.ex j=C.ex j from Ctx.addD_exo _ _ _ _ _ j h2]
 have hexC:∀ j,j≠b→C'.ex j=C1.ex j:=fun j hj=>if_neg hj
 have hB:RelM Γ.D C' w (aI (aI s.mem id .dead) b (.deep E d xs true ((i,off,id) ::hs))):=by
  refine RelM.put (X:=fun _=>False) hA hle2 (Ch.refl w _) (fun _ _ hh=>hh) (fun j bb hj hl _ k hk=>⟨fun hh=>hh,((hA.blk j bb hj).nf hl hk).1⟩) ?_ (fun _ j bb hj hl hjb k hk hh=>?_) (fun k=>⟨fun hh=> .inl hh,fun hh=>hh.elim (fun h=>h) (fun hh=>hh ▸ .inl hd)⟩) (by show (C1.σ b).oneCell'=true;rw [hσb];exact h.mem.one b hd) hexC
  ·have hhoi:∀ k,eW C' ((i,off,id) ::hs) k=if k=i.toNat then (off,u') ::eW C hs k else eW C hs k:=fun k=>by
    have htl:eW C' hs k=eW C hs k:=by
     unfold eW
     refine List.map_congr_left fun p hp=>?_
     have hp':C.Dm p.2.2:=hhs p (List.mem_filter.1 hp).1
     rw [show C'.σ p.2.2=C.σ p.2.2 from hle1.σ _ hp']
    have hhd':C'.σ id=u':=Ctx.addD_σ C id u' lid (fun _ _=>undef)
    split
    ·rename_i hk
     subst hk
     rw [← htl]
     unfold eW
     rw [List.filter_cons,if_pos (Nat.beq_refl _),List.map_cons,hhd']
    ·rename_i hk
     rw [← htl]
     unfold eW
     rw [List.filter_cons,if_neg (fun hh=>hk (Nat.eq_of_beq_eq_true hh).symm)]
   refine ⟨⟨cells,bp ++b' ++bq,?_,?_,?_,fun _=>?_⟩,by rw [hfpb'];exact (List.nodup_append.1 iB).1,fun k hk=>?_,fun p hp=>?_,?_,fun p hp=>?_⟩
   ·show w.ownsRow 0 E d.ty.sz (C1.σ b) xs.length cells
    rw [hσb]
    exact hown
   ·have:=hput (fun k=>DVH C'.Fz w (eW C' ((i,off,id) ::hs) k) d) xs[i.toNat] c b' (fun j x' c' b1 hj _ hr'=>by
     show DVH C.Fz w (eW C' ((i,off,id) ::hs) j) d x' c' b1
     rw [hhoi,if_neg hj]
     exact hr') (by
     show DVH C.Fz w (eW C' ((i,off,id) ::hs) i.toNat) d _ c b'
     rw [hhoi,if_pos rfl]
     exact g2)
    rw [List.set_getElem_self] at this
    rw [hcells]
    exact this
   ·show (if b=b then _ else _:List Nat).Perm _
    rw [if_pos rfl]
   ·intro k p hk hp hr'
    rw [hhd rfl k p hk hp hr']
    show some (C.hd b k p)=some (C1.hd b k p)
    rw [hle1.hd b hd]
   ·rw [hfpb'] at hk
    exact hfp k (hinb k hk)
   ·rcases List.mem_cons.1 hp with rfl | hp
    ·exact .inr rfl
    ·exact .inl (hhs p hp)
   ·rw [List.map_cons]
    exact List.nodup_cons.2 ⟨fun hh=>by
     obtain ⟨p,hp,hpo⟩:=List.mem_map.1 hh
     exact hneo p hp hpo,hhs2⟩
   ·rcases List.mem_cons.1 hp with rfl | hp
    ·exact hil
    ·exact hhs3 p hp
  ·rw [hfpb'] at hk
   obtain ⟨hji,hj'⟩:=hlive j bb hj hl
   rw [hfp1 j hji (hdmj j bb hj')] at hh
   exact h.mem.inj b j _ bb hb hj' rfl hl (fun hq=>hjb hq.symm) k (hinb k hk) hh
 have hC:RelM Γ.D C' w (aI (aI (aI s.mem id .dead) b (.deep E d xs true ((i,off,id) ::hs))) id bk):=by
  refine RelM.put (X:=fun _=>False) hB (CLe.refl C') (Ch.refl w _) (fun _ _ hh=>hh) (fun j bb hj hl _ k hk=>⟨fun hh=>hh,((hB.blk j bb hj).nf hl hk).1⟩) ?_ (fun _ j bb hj hl hjid k hk hh=>?_) (fun k=>⟨fun hh=> .inl hh,fun hh=>hh.elim (fun h=>h) (fun hh=>hh ▸ .inr rfl)⟩) (by rw [show C'.σ id=u' from Ctx.addD_σ C id u' lid (fun _ _=>undef)];exact hone) (fun _ _=>rfl)
  ·refine BkD.rel (C:=C') (bu:=bu) ?_ hfpid.symm (iN hbk) (List.nodup_append.1 iB).2.1 (fun k hk=>hfp k (hinu k hk))
   have:C'.σ id=u':=Ctx.addD_σ C id u' lid (fun _ _=>undef)
   rw [this]
   exact g3
  ·rw [hfpid] at hk
   by_cases hjb:j=b
   ·subst hjb
    rw [hfpb'] at hh
    exact (List.nodup_append.1 iB).2.2 k hh k hk rfl
   ·rw [aG,if_neg hjb] at hj
    obtain ⟨hji,hj'⟩:=hlive j bb hj hl
    rw [hfpo j hjb hji (hdmj j bb hj')] at hh
    exact h.mem.inj b j _ bb hb hj' rfl hl (fun hq=>hjb hq.symm) k (hinu k hk) hh
 refine ⟨C',⟨h.defers,h.len,fun k x v hx hv=>ARel.move hle (fun _ _ _=>rfl) (h.slots k x v hx hv),h.par,hC.congr fun k=>?_,h.W.step hle (Ch.refl w fun _=>False) (fun _ _ hh=>hh.elim) (fun _ _ hh=>hh) (fun k hk=> .inl hk)⟩,hle,rfl, .inr rfl,(Ctx.addD_σ C id u' lid (fun _ _=>undef)).symm⟩
 rw [aG,aG,aG,aG,aG]
 by_cases h1:k=id
 ·rw [if_pos h1,if_pos h1]
 ·rw [if_neg h1,if_neg h1,if_neg h1]
end Go.Ev
