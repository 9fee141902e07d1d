/-
 The abstract evaluator: a call does not see a block that it does not lead to.
-/
import Derived.Test.YtgpjfmjceamonaaGreatDoorEvY
namespace Go.Ev
variable {e:Env} {H:Nat→Option FH} {s:St} {m:aX} {j:Nat} {bj:Bk}
theorem dZ {k i:Nat} {c x:Bk} {r:aX} (h:i < k):aI ((k,c) ::r) i x=(i,x) ::(k,c) ::r:=by
 have h1:Nat.beq k i=false:=by
  rw [Bool.eq_false_iff];intro hh;have:=Nat.eq_of_beq_eq_true hh;omega
 have h2:Nat.blt i k=true:=Nat.ble_eq_true_of_le h
 simp only [aI,h1,h2,cond_false,cond_true]
theorem lF {i:Nat} {c x:Bk} {r:aX}:aI ((i,c) ::r) i x=(i,x) ::r:=by
 have h1:Nat.beq i i=true:=Nat.beq_refl i
 simp only [aI,h1,cond_true]
theorem cS {k i:Nat} {c x:Bk} {r:aX} (h:k < i):aI ((k,c) ::r) i x=(k,c) ::aI r i x:=by
 have h1:Nat.beq k i=false:=by
  rw [Bool.eq_false_iff];intro hh;have:=Nat.eq_of_beq_eq_true hh;omega
 have h2:Nat.blt i k=false:=by
  rw [Bool.eq_false_iff];intro hh;have:=Nat.le_of_ble_eq_true hh;omega
 simp only [aI,h1,h2,cond_false]
theorem bO {i k:Nat} {x y:Bk} (h:i≠k):∀ m:aX,aI (aI m i x) k y=aI (aI m k y) i x
 | []=>by
  show aI [(i,x)] k y=aI [(k,y)] i x
  rcases Nat.lt_or_gt_of_ne h with hh | hh
  ·rw [cS hh,dZ hh]
   rfl
  ·rw [dZ hh,cS hh]
   rfl
 | (q,c) ::r=>by
  rcases Nat.lt_trichotomy i q with h1 | h1 | h1
  ·rw [dZ h1]
   rcases Nat.lt_trichotomy k q with h2 | h2 | h2
   ·rw [dZ h2]
    rcases Nat.lt_or_gt_of_ne h with hh | hh
    ·rw [cS hh,dZ h2,dZ hh]
    ·rw [dZ hh,cS hh,dZ h1]
   ·subst h2
    rw [lF,cS h1,lF,dZ h1]
   ·rw [cS h2,cS (by omega),cS h2,dZ h1]
  ·subst h1
   rw [lF]
   rcases Nat.lt_or_gt_of_ne h with hh | hh
   ·rw [cS hh,cS hh,lF]
   ·rw [dZ hh,dZ hh,cS hh,lF]
  ·rw [cS h1]
   rcases Nat.lt_trichotomy k q with h2 | h2 | h2
   ·rw [dZ h2,dZ h2,cS (by omega),cS h1]
   ·subst h2
    rw [lF,lF,cS h1]
   ·rw [cS h2,cS h2,cS h1,bO h r]
theorem jP (hj:aF m j=none) {o:Nat} {b:Bk} (h:aF m o=some b):aF (aI m j bj) o=aF m o:=by
 rw [aG,if_neg (fun hh=>by rw [hh,hj] at h;cases h)]
theorem rowOf_fr (hj:aF m j=none) {t:Ty} {c:CV} {r:List t.den×List Nat} (h:kH m t c=some r):kH (aI m j bj) t c=some r:=by
 cases c<;>first | exact h | skip
 rename_i o
 cases hm:aF m o with
 | none=>simp only [kH,hm] at h;cases h
 | some b=>
  simp only [kH] at h ⊢
  rw [jP hj hm]
  exact h
theorem pack_fr (hj:aF m j=none):∀ {t:Ty} {cs:List CV} {r:t.den×List CV×List Nat},t.pack m cs=some r→t.pack (aI m j bj) cs=some r
 | .int _,[],_,h=>h
 | .int _,c ::l,_,h=>by cases c<;>exact h
 | .bool,[],_,h=>h
 | .bool,c ::l,_,h=>by cases c<;>exact h
 | .str,[],_,h=>h
 | .str,c ::l,_,h=>by cases c<;>exact h
 | .flt,[],_,h=>h
 | .flt,c ::l,_,h=>by cases c<;>exact h
 | .np,[],_,h=>h
 | .np,c ::l,_,h=>by cases c<;>exact h
 | .nf,[],_,h=>h
 | .nf,c ::l,_,h=>by cases c<;>exact h
 | .row t,[],_,h=>h
 | .row t,c ::l,r,h=>by
  simp only [Ty.pack] at h ⊢
  split at h
  ·rename_i xs os hq
   rw [rowOf_fr hj hq]
   exact h
  ·cases h
 | .st t,cs,r,h=>by
  have h1:t.pack m cs=some r:=by cases cs<;>exact h
  have h2:t.pack (aI m j bj) cs=some r:=pack_fr hj h1
  cases cs<;>exact h2
 | .pair a b,cs,r,h=>by
  have h':(match a.pack m cs with
   | some (x,r,os)=>match b.pack m r with
    | some (y,r',os')=>some ((x,y),r',os ++os')
    | none=>none
   | none=>none)=some r:=by cases cs<;>exact h
  split at h'
  ·rename_i x1 r1 o1 hq1
   split at h'
   ·rename_i y1 r2 o2 hq2
    have g1:=pack_fr hj hq1
    have g2:=pack_fr hj hq2
    have:(match a.pack (aI m j bj) cs with
     | some (x,r,os)=>match b.pack (aI m j bj) r with
      | some (y,r',os')=>some ((x,y),r',os ++os')
      | none=>none
     | none=>none)=some r:=by rw [g1];simp only [g2];exact h'
    cases cs<;>exact this
   ·cases h'
  ·cases h'
theorem packV_fr (hj:aF m j=none) {t:Ty} {x:Vl} {r:t.den×List Nat} (h:fS m t x=some r):fS (aI m j bj) t x=some r:=by
 unfold fS at h ⊢
 cases hq:fS.Bool.beq' t.isSt x.isAgg with
 | false=>rw [hq] at h;cases h
 | true=>
  rw [hq] at h
  simp only [cond_true] at h ⊢
  split at h
  ·rename_i y os hp
   rw [pack_fr hj hp]
   exact h
  ·cases h
theorem exOwn_fr (hj:aF m j=none) {E:Nat} {t:Ty} {c:CV} {r:List t.den×List Nat} (h:bF.exOwn m E t c=some r):bF.exOwn (aI m j bj) E t c=some r:=by
 cases c<;>first | exact h | skip
 rename_i o
 cases hm:aF m o with
 | none=>simp only [bF.exOwn,hm] at h;cases h
 | some b=>
  simp only [bF.exOwn] at h ⊢
  rw [jP hj hm]
  exact h
theorem exDeep_fr (hj:aF m j=none) {E:Nat} {d:DT} {c:CV} {r:List d.ty.den×List Nat} (h:eH m E d c=some r):eH (aI m j bj) E d c=some r:=by
 cases c<;>first | exact h | skip
 rename_i o
 cases hm:aF m o with
 | none=>simp only [eH,hm] at h;cases h
 | some b=>
  simp only [eH] at h ⊢
  rw [jP hj hm]
  exact h
theorem foldH_fr (hj:aF m j=none) {d:DT}:∀ {hs:List (Int×Nat×Nat)} {xs:List d.ty.den} {r:List d.ty.den×List Nat},foldH m d xs hs=some r→foldH (aI m j bj) d xs hs=some r
 | [],_,_,h=>h
 | (i,off,o) ::l,xs,r,h=>by
  simp only [foldH] at h ⊢
  split at h
  ·rename_i b hb
   rw [jP hj hb,hb]
   simp only
   split at h
   ·rename_i y hy
    split at h
    ·rename_i ys os hf
     rw [foldH_fr hj hf]
     exact h
    ·cases h
   ·cases h
  ·cases h
theorem exFold_fr (hj:aF m j=none) {E:Nat} {d:DT} {c:CV} {r:List d.ty.den×List Nat} (h:lP m E d c=some r):lP (aI m j bj) E d c=some r:=by
 cases c<;>first | exact h | skip
 rename_i o
 cases hm:aF m o with
 | none=>simp only [lP,hm] at h;cases h
 | some b=>
  simp only [lP] at h ⊢
  rw [jP hj hm]
  split at h
  ·rename_i E' d' xs fx hs hb
   cases hq:Nat.beq E' E with
   | false=>rw [hq] at h;cases h
   | true=>
    rw [hq] at h
    simp only [cond_true] at h ⊢
    split at h
    ·rename_i zs os hf
     rw [foldH_fr hj hf]
     exact h
    ·cases h
  ·cases h
theorem gK (hj:aF m j=none):∀ {cs:List CS} {l:List CV} {r:CS.dens cs×List Nat×List Nat},bF m cs l=some r→bF (aI m j bj) cs l=some r
 | [],[],_,h=>h
 | .sc t ::cs,l,r,h=>by
  have h':(match t.pack m l with
   | some (x,l',fs)=>match bF m cs l' with
    | some (y,fs',os)=>some ((x,y),fs ++fs',os)
    | none=>none
   | none=>none)=some r:=by cases l<;>exact h
  split at h'
  ·rename_i x1 l1 f1 hq1
   split at h'
   ·rename_i y1 f2 o2 hq2
    have g1:=pack_fr (bj:=bj) hj hq1
    have g2:=gK hj hq2
    have:(match t.pack (aI m j bj) l with
     | some (x,l',fs)=>match bF (aI m j bj) cs l' with
      | some (y,fs',os)=>some ((x,y),fs ++fs',os)
      | none=>none
     | none=>none)=some r:=by rw [g1];simp only [g2];exact h'
    cases l<;>exact this
   ·cases h'
  ·cases h'
 | .own E t ::cs,c ::l,r,h=>by
  simp only [bF] at h ⊢
  split at h
  ·rename_i x1 o1 hq1
   split at h
   ·rename_i y1 f2 o2 hq2
    rw [exOwn_fr hj hq1]
    simp only [gK hj hq2]
    exact h
   ·cases h
  ·cases h
 | .deep E d ::cs,c ::l,r,h=>by
  simp only [bF] at h ⊢
  split at h
  ·rename_i x1 o1 hq1
   split at h
   ·rename_i y1 f2 o2 hq2
    rw [exDeep_fr hj hq1]
    simp only [gK hj hq2]
    exact h
   ·cases h
  ·cases h
theorem exV_fr (hj:aF m j=none) {v:VS} {l:Vl} {r:v.den×List Nat×List Nat} (h:exV m v l=some r):exV (aI m j bj) v l=some r:=by
 cases v with
 | val t=>
  have h':(match fS m t l with
   | some (y,fs)=>some (y,fs,([]:List Nat))
   | none=>none)=some r:=by cases l<;>exact h
  split at h'
  ·rename_i y f hp
   have:(match fS (aI m j bj) t l with
    | some (y,fs)=>some (y,fs,([]:List Nat))
    | none=>none)=some r:=by rw [packV_fr hj hp];exact h'
   cases l<;>exact this
  ·cases h'
 | own E t=>
  cases l with
  | agg cs=>cases h
  | one c=>
   simp only [exV] at h ⊢
   split at h
   ·rename_i y o hp
    rw [exOwn_fr hj hp]
    exact h
   ·cases h
 | eat E t=>
  cases l with
  | agg cs=>cases h
  | one c=>
   simp only [exV] at h ⊢
   split at h
   ·rename_i y o hp
    rw [exOwn_fr hj hp]
    exact h
   ·cases h
 | box T cs off=>
  cases l with
  | agg cs'=>cases h
  | one c=>
  cases c<;>first | (cases h;done) | skip
  rename_i b off2
  simp only [exV] at h ⊢
  cases hoff:Nat.beq off2 off with
  | false=>rw [hoff] at h;cases h
  | true=>
   rw [hoff] at h
   simp only [cond_true] at h ⊢
   split at h
   ·rename_i T2 l hg
    rw [jP hj hg,hg]
    simp only
    cases hq:Nat.beq T2 T with
    | false=>rw [hq] at h;cases h
    | true=>
     rw [hq] at h
     simp only [cond_true] at h ⊢
     split at h
     ·rename_i x1 f1 o1 hq1
      rw [gK hj hq1]
      exact h
     ·cases h
   ·cases h
 | mp=>
  cases l with
  | agg cs'=>cases h
  | one c=>
  cases c<;>first | (cases h;done) | skip
  rename_i o
  simp only [exV] at h ⊢
  split at h
  ·rename_i es hg
   rw [jP hj hg,hg]
   exact h
  ·cases h
 | rc cs=>
  cases l with
  | one c=>cases h
  | agg l=>exact gK hj h
 | deep E d fx=>
  cases l with
  | agg cs=>cases h
  | one c=>
   simp only [exV] at h ⊢
   split at h
   ·rename_i y o hp
    rw [exFold_fr hj hp]
    exact h
   ·cases h
 | lent cs=>
  cases l with
  | one c=>cases h
  | agg l=>exact gK hj h
theorem exVs_fr (hj:aF m j=none):∀ {vs:List VS} {l:List Vl} {r:VS.dens vs×List Nat×List Nat},exVs m vs l=some r→exVs (aI m j bj) vs l=some r
 | [],[],_,h=>h
 | v ::vs,c ::l,r,h=>by
  simp only [exVs] at h ⊢
  split at h
  ·rename_i x1 f1 o1 hq1
   split at h
   ·rename_i y1 f2 o2 hq2
    rw [exV_fr hj hq1]
    simp only [exVs_fr hj hq2]
    exact h
   ·cases h
  ·cases h
theorem freeze_fr:∀ {fs:List Nat} {m:aX},j∉fs→bU (aI m j bj) fs=aI (bU m fs) j bj
 | [],_,_=>rfl
 | o ::r,m,h=>by
  have ho:o≠j:=fun hh=>h (by rw [hh];exact List.mem_cons_self)
  have hr:j∉r:=fun hh=>h (List.mem_cons_of_mem _ hh)
  unfold bU
  rw [aG,if_neg ho]
  split
  ·rw [← bO ho,freeze_fr hr]
  ·rw [← bO ho,freeze_fr hr]
  ·exact freeze_fr hr
theorem kill_fr:∀ {os:List Nat} {m:aX},j∉os→dG (aI m j bj) os=aI (dG m os) j bj
 | [],_,_=>rfl
 | o ::r,m,h=>by
  have ho:o≠j:=fun hh=>h (by rw [hh];exact List.mem_cons_self)
  have hr:j∉r:=fun hh=>h (List.mem_cons_of_mem _ hh)
  unfold dG
  rw [← bO ho,kill_fr hr]
theorem fresh_fr:∀ {n i:Nat},fresh m i n=true→¬ (i≤j∧j < i+n)→fresh (aI m j bj) i n=true
 | 0,_,_,_=>rfl
 | n+1,i,h,hj=>by
  have h':((aF m i).isNone && fresh m (i+1) n)=true:=h
  rw [Bool.and_eq_true] at h'
  show ((aF (aI m j bj) i).isNone && fresh (aI m j bj) (i+1) n)=true
  rw [aG,if_neg (by omega),h'.1,fresh_fr h'.2 (by omega)]
  rfl
theorem fD:∀ (cs:List CS) (x:CS.dens cs) (m:aX) (n:Nat),¬ (n≤j∧j < n+dB cs)→aO cs x (aI m j bj) n=((aO cs x m n).1,aI (aO cs x m n).2.1 j bj,(aO cs x m n).2.2)
 | [],_,_,_,_=>rfl
 | .sc t ::r,x,m,n,h=>by
  have:=fD r x.2 m n h
  show (t.cells x.1 ++(aO r x.2 (aI m j bj) n).1,(aO r x.2 (aI m j bj) n).2.1,(aO r x.2 (aI m j bj) n).2.2)=_
  rw [this]
  rfl
 | .own E t ::r,x,m,n,h=>by
  have e0:dB (.own E t ::r)=dB r+1:=rfl
  have:=fD r x.2 (aI m n (.row E t x.1)) (n+1) (by omega)
  show (CV.own n ::(aO r x.2 (aI (aI m j bj) n (.row E t x.1)) (n+1)).1,(aO r x.2 (aI (aI m j bj) n (.row E t x.1)) (n+1)).2.1,(aO r x.2 (aI (aI m j bj) n (.row E t x.1)) (n+1)).2.2)=_
  rw [bO (show j≠n by omega),this]
  rfl
 | .deep E d ::r,x,m,n,h=>by
  have e0:dB (.deep E d ::r)=dB r+1:=rfl
  have:=fD r x.2 (aI m n (.deep E d x.1 true [])) (n+1) (by omega)
  show (CV.own n ::(aO r x.2 (aI (aI m j bj) n (.deep E d x.1 true [])) (n+1)).1,(aO r x.2 (aI (aI m j bj) n (.deep E d x.1 true [])) (n+1)).2.1,(aO r x.2 (aI (aI m j bj) n (.deep E d x.1 true [])) (n+1)).2.2)=_
  rw [bO (show j≠n by omega),this]
  rfl
theorem mkV_fr (v:VS) (x:v.den) (m:aX) (n:Nat) (h:¬ (n≤j∧j < n+gC v)):mkV v x (aI m j bj) n=((mkV v x m n).1,aI (mkV v x m n).2.1 j bj,(mkV v x m n).2.2):=by
 cases v with
 | val t=>rfl
 | own E t=>
  have e0:gC (.own E t)=1:=rfl
  show (Vl.one (.own n),aI (aI m j bj) n (.row E t x),n+1)=_
  rw [bO (show j≠n by omega)]
  rfl
 | eat E t=>
  have e0:gC (.eat E t)=1:=rfl
  show (Vl.one (.own n),aI (aI m j bj) n (.row E t x),n+1)=_
  rw [bO (show j≠n by omega)]
  rfl
 | box T cs off=>
  have e0:gC (.box T cs off)=dB cs+1:=rfl
  have:=fD (j:=j) (bj:=bj) cs x m (n+1) (by omega)
  show (Vl.one (.pbox n off),aI (aO cs x (aI m j bj) (n+1)).2.1 n (.box T (aO cs x (aI m j bj) (n+1)).1),(aO cs x (aI m j bj) (n+1)).2.2)=_
  rw [this]
  simp only
  rw [bO (show j≠n by omega)]
  rfl
 | mp=>
  have e0:gC .mp=1:=rfl
  show (Vl.one (.mref n),aI (aI m j bj) n (.mp x),n+1)=_
  rw [bO (show j≠n by omega)]
  rfl
 | rc cs=>
  show (Vl.agg (aO cs x (aI m j bj) n).1,(aO cs x (aI m j bj) n).2.1,(aO cs x (aI m j bj) n).2.2)=_
  rw [fD cs x m n h]
  rfl
 | deep E d fx=>
  have e0:gC (.deep E d fx)=1:=rfl
  show (Vl.one (.own n),aI (aI m j bj) n (.deep E d x fx []),n+1)=_
  rw [bO (show j≠n by omega)]
  rfl
 | lent cs=>
  show (Vl.agg (aO cs x (aI m j bj) n).1,(aO cs x (aI m j bj) n).2.1,(aO cs x (aI m j bj) n).2.2)=_
  rw [fD cs x m n h]
  rfl
theorem mkVs_fr:∀ (vs:List VS) (x:VS.dens vs) (m:aX) (n:Nat),¬ (n≤j∧j < n+iZ vs)→eB vs x (aI m j bj) n=((eB vs x m n).1,aI (eB vs x m n).2.1 j bj,(eB vs x m n).2.2)
 | [],_,_,_,_=>rfl
 | v ::r,x,m,n,h=>by
  have e0:iZ (v ::r)=gC v+iZ r:=rfl
  have h1:=mkV_fr (j:=j) (bj:=bj) v x.1 m n (by omega)
  have h2:=mkVs_fr r x.2 (mkV v x.1 m n).2.1 (mkV v x.1 m n).2.2 (by rw [mkV_cnt];omega)
  show ((mkV v x.1 (aI m j bj) n).1 ::(eB r x.2 (mkV v x.1 (aI m j bj) n).2.1 (mkV v x.1 (aI m j bj) n).2.2).1,(eB r x.2 (mkV v x.1 (aI m j bj) n).2.1 (mkV v x.1 (aI m j bj) n).2.2).2.1,(eB r x.2 (mkV v x.1 (aI m j bj) n).2.1 (mkV v x.1 (aI m j bj) n).2.2).2.2)=_
  rw [h1]
  simp only
  rw [h2]
  rfl
theorem fJ:∀ {cs:List CS} {m:aX} {l:List CV} {x:CS.dens cs} {m':aX},cM m cs l x=some m'→j∉l.flatMap dV→cM (aI m j bj) cs l x=some (aI m' j bj)
 | [],m,[],x,m',h,_=>by cases h;rfl
 | .sc t ::r,m,l,x,m',h,h2=>by
  have h':(bif Nat.ble t.sz l.length then cM m r (l.drop t.sz) x.2 else none)=some m':=by cases l<;>exact h
  cases hb:Nat.ble t.sz l.length with
  | false=>rw [hb] at h';cases h'
  | true=>
   rw [hb] at h'
   have g:=fJ (cs:=r) (x:=x.2) h' (fun hh=>h2 (by
    obtain ⟨c,hc,hbc⟩:=List.mem_flatMap.1 hh
    exact List.mem_flatMap.2 ⟨c,List.mem_of_mem_drop hc,hbc⟩))
   have:(bif Nat.ble t.sz l.length then cM (aI m j bj) r (l.drop t.sz) x.2 else none)=some (aI m' j bj):=by rw [hb];exact g
   cases l<;>exact this
 | .own E t ::r,m,c ::l,x,m',h,h2=>by
  have h3:j∉l.flatMap dV:=fun hh=>h2 (by rw [List.flatMap_cons];exact List.mem_append.2 (.inr hh))
  cases c<;>first | (cases h;done) | skip
  ·exact fJ (cs:=r) (x:=x.2) h h3
  ·rename_i o
   have hne:j≠o:=fun hh=>h2 (by rw [hh];simp [dV])
   show cM (aI (aI m j bj) o (.row E t x.1)) r l x.2=_
   rw [bO hne]
   exact fJ (cs:=r) (x:=x.2) h h3
 | .deep E d ::r,m,c ::l,x,m',h,h2=>by
  have h3:j∉l.flatMap dV:=fun hh=>h2 (by rw [List.flatMap_cons];exact List.mem_append.2 (.inr hh))
  cases c<;>first | (cases h;done) | skip
  ·exact fJ (cs:=r) (x:=x.2) h h3
  ·rename_i o
   have hne:j≠o:=fun hh=>h2 (by rw [hh];simp [dV])
   show cM (aI (aI m j bj) o (.deep E d x.1 false [])) r l x.2=_
   rw [bO hne]
   exact fJ (cs:=r) (x:=x.2) h h3
theorem cH:∀ {ps:List VS} {m:aX} {n:Nat} {l:List Vl} {x:VS.dens (bR ps)} {m':aX} {n':Nat},bE m n ps l x=some (m',n')→¬ (n≤j∧j < n')→j∉(l.flatMap Vl.cells).flatMap dV→bE (aI m j bj) n ps l x=some (aI m' j bj,n')
 | [],m,n,[],x,m',n',h,_,_=>by cases h;rfl
 | .val _ ::r,m,n,c ::l,x,m',n',h,h1,h2=>by
  have g:=cH (ps:=r) (m:=m) (n:=n) (l:=l) (x:=x) (m':=m') (n':=n') (by cases c<;>exact h) h1 (fun hh=>h2 (by rw [List.flatMap_cons,List.flatMap_append];exact List.mem_append.2 (.inr hh)))
  cases c<;>exact g
 | .eat _ _ ::r,m,n,c ::l,x,m',n',h,h1,h2=>by
  have g:=cH (ps:=r) (m:=m) (n:=n) (l:=l) (x:=x) (m':=m') (n':=n') (by cases c<;>exact h) h1 (fun hh=>h2 (by rw [List.flatMap_cons,List.flatMap_append];exact List.mem_append.2 (.inr hh)))
  cases c<;>exact g
 | .rc _ ::r,m,n,c ::l,x,m',n',h,h1,h2=>by
  have g:=cH (ps:=r) (m:=m) (n:=n) (l:=l) (x:=x) (m':=m') (n':=n') (by cases c<;>exact h) h1 (fun hh=>h2 (by rw [List.flatMap_cons,List.flatMap_append];exact List.mem_append.2 (.inr hh)))
  cases c<;>exact g
 | .own E t ::r,m,n, .one c ::l,x,m',n',h,h1,h2=>by
  have h3:j∉(l.flatMap Vl.cells).flatMap dV:=fun hh=>h2 (by rw [List.flatMap_cons,List.flatMap_append];exact List.mem_append.2 (.inr hh))
  cases c<;>first | (cases h;done) | skip
  ·exact cH (ps:=r) (x:=x.2) h h1 h3
  ·rename_i o
   have hne:j≠o:=fun hh=>h2 (by rw [hh];simp [Vl.cells,dV])
   show bE (aI (aI m j bj) o (.row E t x.1)) n r l x.2=_
   rw [bO hne]
   exact cH (ps:=r) (x:=x.2) h h1 h3
 | .box T cs _ ::r,m,n, .one c ::l,x,m',n',h,h1,h2=>by
  have h3:j∉(l.flatMap Vl.cells).flatMap dV:=fun hh=>h2 (by rw [List.flatMap_cons,List.flatMap_append];exact List.mem_append.2 (.inr hh))
  cases c<;>first | (cases h;done) | skip
  rename_i o off
  have hne:j≠o:=fun hh=>h2 (by rw [hh];simp [Vl.cells,dV])
  have h':bE (aI (aO cs x.1 m n).2.1 o (.box T (aO cs x.1 m n).1)) (aO cs x.1 m n).2.2 r l x.2=some (m',n'):=h
  have hcnt:=bN h'
  rw [cI] at hcnt
  have hm:=fD (j:=j) (bj:=bj) cs x.1 m n (by omega)
  show bE (aI (aO cs x.1 (aI m j bj) n).2.1 o (.box T (aO cs x.1 (aI m j bj) n).1)) (aO cs x.1 (aI m j bj) n).2.2 r l x.2=_
  rw [hm]
  simp only
  rw [bO hne]
  exact cH (ps:=r) (x:=x.2) h' (by rw [cI];omega) h3
 | .mp ::r,m,n, .one c ::l,x,m',n',h,h1,h2=>by
  have h3:j∉(l.flatMap Vl.cells).flatMap dV:=fun hh=>h2 (by rw [List.flatMap_cons,List.flatMap_append];exact List.mem_append.2 (.inr hh))
  cases c<;>first | (cases h;done) | skip
  rename_i o
  have hne:j≠o:=fun hh=>h2 (by rw [hh];simp [Vl.cells,dV])
  show bE (aI (aI m j bj) o (.mp x.1)) n r l x.2=_
  rw [bO hne]
  exact cH (ps:=r) (x:=x.2) h h1 h3
 | .deep E d _ ::r,m,n, .one c ::l,x,m',n',h,h1,h2=>by
  have h3:j∉(l.flatMap Vl.cells).flatMap dV:=fun hh=>h2 (by rw [List.flatMap_cons,List.flatMap_append];exact List.mem_append.2 (.inr hh))
  cases c<;>first | (cases h;done) | skip
  ·exact cH (ps:=r) (x:=x.2) h h1 h3
  ·rename_i o
   have hne:j≠o:=fun hh=>h2 (by rw [hh];simp [Vl.cells,dV])
   show bE (aI (aI m j bj) o (.deep E d x.1 false [])) n r l x.2=_
   rw [bO hne]
   exact cH (ps:=r) (x:=x.2) h h1 h3
 | .lent cs ::r,m,n, .agg cells ::l,x,m',n',h,h1,h2=>by
  have h3:j∉(l.flatMap Vl.cells).flatMap dV:=fun hh=>h2 (by rw [List.flatMap_cons,List.flatMap_append];exact List.mem_append.2 (.inr hh))
  have h4:j∉cells.flatMap dV:=fun hh=>h2 (by rw [List.flatMap_cons,List.flatMap_append];exact List.mem_append.2 (.inl hh))
  simp only [bE] at h ⊢
  split at h
  ·rename_i m1 hm1
   rw [fJ hm1 h4]
   exact cH (ps:=r) (x:=x.2) h h1 h3
  ·cases h
theorem callL_fr {lim:Nat} {h:FH} {l:List Vl} {id:Nat} {r:AV×aX} (hj:aF m j=none) (hr:(callL lim h l m id).run=some r) (hid:¬ (id≤j∧j < id+lim)) (hb:j∉(l.flatMap Vl.cells).flatMap (cv2 m)):(callL lim h l (aI m j bj) id).run=some (r.1,aI r.2 j bj):=by
 unfold callL at hr ⊢
 split at hr
 rotate_left
 ·cases hr
 rename_i x fs os hex
 have hids:=exVs_ids hex
 rw [exVs_fr hj hex]
 simp only
 replace hr:=aD hr
 have hq:=hr.1
 replace hr:=hr.2
 rw [Bool.and_eq_true] at hq
 rw [hq.1,fresh_fr hq.2 hid]
 simp only [Bool.and_self,cond_true]
 simp only [Tr.run] at hr ⊢
 obtain ⟨y,hy,hr⟩:=Option.bind_eq_some_iff.1 hr
 rw [hy,Option.bind_some]
 split at hr
 rotate_left
 ·cases hr
 rename_i m' n' hp
 have hr':(bif Nat.ble (eB h.rs y.1 m' n').2.2 (id+lim) then Tr.ret (resAV (eB h.rs y.1 m' n').1,(eB h.rs y.1 m' n').2.1) else .fail).run=some r:=hr
 replace hr':=aD hr'
 have hn0:=hr'.1
 replace hr':=hr'.2
 have hn:=Nat.le_of_ble_eq_true hn0
 have hcn:=mkVs_cnt h.rs y.1 m' n'
 have hcnt:=bN hp
 cases hr'
 have h1:j∉fs:=fun hh=>hb (hids j (List.mem_append.2 (.inl hh)))
 have h2:j∉os:=fun hh=>hb (hids j (List.mem_append.2 (.inr hh)))
 have hk:dG (bif h.rs.all eG && (bR h.ps).all eG then aI m j bj else bU (aI m j bj) fs) os=aI (dG (bif h.rs.all eG && (bR h.ps).all eG then m else bU m fs) os) j bj:=by
  cases (h.rs.all eG && (bR h.ps).all eG) with
  | true=>exact kill_fr h2
  | false=>
   simp only [cond_false]
   rw [freeze_fr h1,kill_fr h2]
 rw [hk,cH hp (by omega) (fun hh=>hb (dF hh))]
 show (bif Nat.ble (eB h.rs y.1 (aI m' j bj) n').2.2 (id+lim) then Tr.ret (resAV (eB h.rs y.1 (aI m' j bj) n').1,(eB h.rs y.1 (aI m' j bj) n').2.1) else .fail).run=_
 rw [mkVs_fr h.rs y.1 m' n' (by omega),hn0]
 rfl
theorem takeSub_fr {id o off:Nat} {i:Int} {m1:aX} (hj:aF m j=none) (hid:j≠id) (h:eM m id o i off=some m1):eM (aI m j bj) id o i off=some (aI m1 j bj):=by
 unfold eM at h ⊢
 split at h
 rotate_left
 ·cases h
 rename_i E d xs hs hb
 have ho:j≠o:=fun hh=>by rw [hh,hb] at hj;cases hj
 rw [jP hj hb,hb]
 simp only
 cases hany:hs.any (fun p=>Nat.beq p.2.1 off) with
 | true=>rw [hany] at h;cases h
 | false=>
 rw [hany] at h
 simp only [cond_false] at h ⊢
 split at h
 ·cases h
  rename_i bk hbk
  rw [bO ho,bO hid]
 ·cases h
theorem splitL_none {id:Nat}:∀ {l:List Vl},fC m id l=none→fC (aI m j bj) id l=none
 | [],_=>rfl
 | a ::r,h=>by
  unfold fC at h ⊢
  split at h
  ·cases h
  ·split at h
   ·cases h
   ·rename_i hq
    rw [splitL_none hq]
theorem splitL_fr {id:Nat} (hj:aF m j=none) (hid:j≠id):∀ {l l':List Vl} {m1:aX},fC m id l=some (l',some m1)→fC (aI m j bj) id l=some (l',some (aI m1 j bj))
 | [],_,_,h=>by cases h
 | a ::r,l',m1,h=>by
  unfold fC at h ⊢
  split at h
  ·rename_i o i off
   have h1:=Option.some.inj h
   have h2:eM m id o i off=some m1:=(Prod.mk.inj h1).2
   have h3:=(Prod.mk.inj h1).1
   rw [takeSub_fr hj hid h2,← h3]
  ·split at h
   ·rename_i l2 m2 hq
    cases h
    rw [splitL_fr hj hid hq]
   ·cases h
theorem opT_fr {c:Call} {f:Operand} {id:Nat} {r:AV×aX} (hc:c.callee= .value f) (hj:aF s.mem j=none) (hr:(opT e H (.call c) id s).run=some r) (hk:j∉cA (.call c) s id) :
  (opT e H (.call c) id ⟨s.slots,aI s.mem j bj,s.next⟩).run=some (r.1,aI r.2 j bj):=by
 obtain ⟨cl,args,tys⟩:=c
 have hc:cl= .value f:=hc
 subst hc
 unfold cA at hk
 rw [List.mem_append,not_or] at hk
 obtain ⟨hk1,hk2⟩:=hk
 have hid:=ids8 hk1
 have hops:(Op.call { callee:= .value f,args:=args,argTypes:=tys }).operands.toList=f ::args.toList:=by simp [Op.operands,Call.operands]
 rw [hops,List.flatMap_cons] at hk2
 have hkf:j∉av2 s.mem (bC s f):=fun hh=>hk2 (List.mem_append.2 (.inl hh))
 have hkl:∀ l,avs s args.toList=some l→j∉(l.flatMap Vl.cells).flatMap (cv2 s.mem):=fun l hl hh=>hk2 (List.mem_append.2 (.inr (avs_ids hl hh)))
 have hcaps:∀ g caps,bC s f= .v (.one (.clo g caps))→j∉((caps.map fun b=>Vl.one (.pbox b 0)).flatMap Vl.cells).flatMap (cv2 s.mem):=fun g caps hf hh=>by
  refine hkf ?_
  rw [hf]
  show j∈[CV.clo g caps].flatMap (cv2 s.mem)
  obtain ⟨c,hc,hkc⟩:=List.mem_flatMap.1 hh
  obtain ⟨v,hv,hcv'⟩:=List.mem_flatMap.1 hc
  obtain ⟨b,hb,rfl⟩:=List.mem_map.1 hv
  have:c= .pbox b 0:=List.mem_singleton.1 hcv'
  subst this
  rw [List.flatMap_cons,List.flatMap_nil,List.append_nil]
  show j∈caps ++caps.flatMap (dA s.mem)
  have hkc':j∈[b] ++[b].flatMap (dA s.mem):=hkc
  rcases List.mem_append.1 hkc' with h | h
  ·rw [List.mem_singleton.1 h]
   exact List.mem_append.2 (.inl hb)
  ·obtain ⟨b',hb',h'⟩:=List.mem_flatMap.1 h
   rw [List.mem_singleton.1 hb'] at h'
   exact List.mem_append.2 (.inr (List.mem_flatMap.2 ⟨b,hb,h'⟩))
 have hopd:∀ x,bC ⟨s.slots,aI s.mem j bj,s.next⟩ x=bC s x:=fun x=>by cases x<;>rfl
 have havs:avs ⟨s.slots,aI s.mem j bj,s.next⟩ args.toList=avs s args.toList:=iO fun x _=>hopd x
 have hy:∀ s':St,opY e H (.call { callee:= .value f,args:=args,argTypes:=tys }) id s'=none:=fun _=>rfl
 unfold opT at hr ⊢
 rw [hy] at hr ⊢
 replace hr:(kJ e H (.call { callee:= .value f,args:=args,argTypes:=tys }) id s).run=some r:=hr
 show (kJ e H (.call { callee:= .value f,args:=args,argTypes:=tys }) id ⟨s.slots,aI s.mem j bj,s.next⟩).run=_
 unfold kJ at hr ⊢
 cases hx:jO e H (.call { callee:= .value f,args:=args,argTypes:=tys }) id s with
 | none=>
  rw [hx] at hr
  have hx2:jO e H (.call { callee:= .value f,args:=args,argTypes:=tys }) id ⟨s.slots,aI s.mem j bj,s.next⟩=none:=by
   simp only [jO] at hx ⊢
   rw [hopd,havs]
   split at hx
   ·split at hx
    ·split at hx
     ·cases hx
     ·rename_i hq
      rw [splitL_none hq]
    ·rfl
   ·rfl
  rw [hx2]
  simp only [bA] at hr ⊢
  rw [hopd,havs]
  split at hr
  ·rename_i g caps l hf hl
   split at hr
   ·rename_i h hH
    exact callL_fr hj hr hid (by
     rw [List.flatMap_append,List.flatMap_append]
     exact fun hh=>(List.mem_append.1 hh).elim (hkl l hl) (hcaps g caps hf))
   ·cases hr
  ·cases hr
 | some t=>
  rw [hx] at hr
  replace hr:t.run=some r:=hr
  simp only [jO] at hx ⊢
  rw [hopd,havs]
  split at hx
  rotate_left
  ·cases hx
  rename_i g caps hf
  split at hx
  rotate_left
  ·cases hx
  rename_i l hl
  split at hx
  rotate_left
  ·cases hx
  rename_i l' m' hs
  cases hx
  split at hr
  rotate_left
  ·cases hr
  rename_i m1 h hHg
  rw [splitL_fr hj (by omega) hs]
  simp only
  replace hr:=aD hr
  have hq:=hr.1
  replace hr:=hr.2
  rw [Bool.and_eq_true] at hq
  rw [hHg]
  simp only
  rw [fresh_fr hq.1 (by omega),hq.2]
  simp only [Bool.and_self,cond_true]
  obtain ⟨g1,g2,g3⟩:=splitL_keep hs
  have hnone:aF s.mem id=none:=dR (fresh_first hq.1)
  have hcv:∀ c,j∈cv2 m1 c→j∈cv2 s.mem c:=fun c hh=>by
   rcases List.mem_append.1 hh with hh | hh
   ·exact List.mem_append.2 (.inl hh)
   ·obtain ⟨b,hb,hkb⟩:=List.mem_flatMap.1 hh
    exact List.mem_append.2 (.inr (List.mem_flatMap.2 ⟨b,hb,(g2 b j hkb).resolve_left (by omega)⟩))
  refine callL_fr (by rw [g1 j (by omega) (fun hh=>hkl l hl (dF hh))];exact hj) hr (by omega) ?_
  rw [List.flatMap_append,List.flatMap_append]
  intro hh
  rcases List.mem_append.1 hh with hh | hh
  ·obtain ⟨c,hc,hkc⟩:=List.mem_flatMap.1 hh
   rcases g3 c hc with rfl | hc
   ·have:=hcv _ hkc
    rcases List.mem_append.1 this with h | h
    ·have:j=id:=List.mem_singleton.1 h
     omega
    ·obtain ⟨b',hb',h'⟩:=List.mem_flatMap.1 h
     rw [List.mem_singleton.1 hb'] at h'
     unfold dA at h'
     rw [hnone] at h'
     cases h'
   ·exact hkl l hl (List.mem_flatMap.2 ⟨c,hc,hcv c hkc⟩)
  ·obtain ⟨c,hc,hkc⟩:=List.mem_flatMap.1 hh
   exact hcaps g caps hf (List.mem_flatMap.2 ⟨c,hc,hcv c hkc⟩)
end Go.Ev
