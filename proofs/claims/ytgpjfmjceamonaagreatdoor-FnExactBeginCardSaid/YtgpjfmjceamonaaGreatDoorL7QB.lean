/-
 The law FnExactBegin in plain terms: what the program gives.
-/
import Derived.Test.YtgpjfmjceamonaaGreatDoorL7QA
import Derived.Test.YtgpjfmjceamonaaGreatDoorL7L
namespace Go.Ev.L7
open Go.Proofs Go.Ev.L6
def bT (c:aZ) (q:S29) (s:aN) (p:Int) (K:List jH) (t:List dM):T9:=(p,(0:Int),(0:Int),(0:Int),(0:Int),([]:List cW),K,(0:Int),(0:Int),t,(0:Int),false,([]:List S1),(0:Int),([]:List S1),E0,false,(0:Int),(0:Int),(0:Int),(0:Int),([]:List lY),([]:List ByteArray),E0,E0,(0:Int),(0:Int),c,s.1,s.2.1,s.2.2.1,s.2.2.2.1,s.2.2.2.2,q.1,q.2,(0:Int),(),())
theorem gate (c:aZ) (w:CW c) (s:aN) (p:Int):(bK (((!good s) || (blt p (0:Int))) || (blt (1000:Int) p)) (some true) ((f27 (c,())).bind fun r8=>(some (!((beq r8.1.1.1 (0:Int)) && ((beq r8.1.1.2.1 (0:Int)) && ((beq r8.1.1.2.2 (0:Int)) && true)))))))=some (!ok c s p):=by
 have e1:ble 0 p=!(blt p 0):=by
  unfold ble blt
  by_cases h:p < 0
  ·rw [decide_eq_true h,decide_eq_false (by omega)]
   rfl
  ·rw [decide_eq_false h,decide_eq_true (by omega)]
   rfl
 have e2:ble p 1000=!(blt 1000 p):=by
  unfold ble blt
  by_cases h:1000 < p
  ·rw [decide_eq_true h,decide_eq_false (by omega)]
   rfl
  ·rw [decide_eq_false h,decide_eq_true (by omega)]
   rfl
 rw [f27_ok c w]
 unfold ok
 rw [e1,e2]
 simp only [Option.bind_some,bK]
 cases good s with
 | false=>cases beq (chk c).1 0<;>rfl
 | true=>
  cases blt p 0 with
  | true=>cases beq (chk c).1 0<;>rfl
  | false=>
   cases blt 1000 p with
   | true=>cases beq (chk c).1 0<;>rfl
   | false=>
    cases h:bne (chk c).1 0 with
    | true=>
     have:beq (chk c).1 0=false:=by
      rw [cX,Bool.not_eq_true'] at h
      exact h
     rw [this]
     rfl
    | false=>
     rw [(chk_zero h).2]
     rfl
theorem ok_chk {c:aZ} {s:aN} {p:Int} (h:ok c s p=true):bne (chk c).1 0=false:=by
 unfold ok at h
 cases hb:beq (chk c).1 0 with
 | false=>
  rw [hb] at h
  cases h
 | true=>rw [cX,hb];rfl
theorem f39_ok {c:aZ} {s:aN} (g:GB c s) (p:Int) (h:ok c s p=true):f39 (c,s,p,())=some ((bT c (prep c) s p (Kn c) [tkM (frM (c.getD 0 P0) (av s))],()),()):=by
 have hb:=prep_b g
 simp only [f39]
 rw [f86_ok s g.ib]
 simp only [Option.bind_some]
 rw [gate c g.w s p,h,f8_go g (ok_chk h)]
 simp only [Option.bind_some,Bool.not_true,cond_false,g3,t4]
 rw [cC hb.1 (by omega),f39_32_loop _ s g.ib]
 simp only [Option.bind_some,cond_true]
 rw [f88_ok g]
 rfl
theorem f1039_no {c:aZ} {s:aN} (w:CW c) (hi:IB s) (p:Int) (h:ok c s p=false):f1039 (c,s,p,())=some (((),()),()):=by
 simp only [f1039]
 rw [f86_ok s hi]
 simp only [Option.bind_some]
 rw [gate c w s p,h]
 rfl
theorem f39_no {c:aZ} {s:aN} (w:CW c) (hi:IB s) (p:Int) (h:ok c s p=false):f39 (c,s,p,())=none:=by
 simp only [f39]
 rw [f86_ok s hi]
 simp only [Option.bind_some]
 rw [gate c w s p,h]
 rfl
theorem f91_ok:f91 (W0,())=some (((0,[],E0,()),()),()):=by
 simp only [f91]
 rw [f90_ok [] (by simp)]
 rfl
theorem f89_16_loop (X Z:T2) (l:List eC) (hl:l.length≤1048576) (ho:∀ r,r∈l→OKR r):aA f89_16 (X,Z,[],l,(l.length:Int),(0:Int),())=some (X,Z,l,()):=
 app_ok (body:=f89_16) (fun i t=>(X,Z,t,l,(l.length:Int),i,())) (fun t=>(X,Z,t,())) l d3 (fun i t hi ht=>by
  simp only [f89_16,g3,g4,g5,Int.toNat_natCast]
  have hr:=ho _ (aW (d:=d3) hi)
  rw [aH hi,aB hi,aC hi hl]
  generalize l.getD i d3=r at hr
  have hq:r.2.2.2.length≤1048576:=by
   cases hr with
   | none=>exact Nat.zero_le _
   | val v h=>exact Nat.zero_le _
   | rest q h hb=>exact h
  rw [f90_ok _ hq]
  simp only [cond_true,Option.bind_some]
  rw [cK ht hi (by omega)]
  rfl) (by
  simp only [f89_16,g3,g4,g5]
  rw [aJ]
  rfl)
theorem f89_ok {c:aZ} {s:aN} (g:GB c s):f89 (frM (c.getD 0 P0) (av s),())=some ((frT (c.getD 0 P0) (av s),()),()):=by
 obtain ⟨h1,h2⟩:=FR_ok g
 unfold frM frT
 generalize FR (c.getD 0 P0) (av s)=l at h1 h2
 simp only [f89,g3,g4,g5,g6,g7,g8,g9,dQ,fF,gB,fN,fE,t15]
 rw [f90_ok [] (by simp)]
 simp only [Option.bind_some]
 rw [f89_16_loop _ _ l (by omega) h2]
 simp only [Option.bind_some,u10]
 rw [eU (body:=f89_48) (b:=_) rfl]
 simp only [Option.bind_some,jR,kM]
 rw [f91_ok]
 rfl
theorem f40_12_nil (X:S31×Unit) (Z:T4):aA f40_12 (X,Z,[],[],((([]:List cW).length:Nat):Int),(0:Int),())=some (X,Z,[],()):=eU rfl
theorem f40_68_loop {c:aZ} {s:aN} (g:GB c s) (X Z:T4) (ts:List dM) (t:dM×Unit) (v:List dM) (n i:Int) :
  aA f40_68 (X,Z,ts,t,[],v,n,i,[frM (c.getD 0 P0) (av s)],(([frM (c.getD 0 P0) (av s)].length:Nat):Int),(0:Int),())=some (X,Z,ts,t,[frM (c.getD 0 P0) (av s)],v,n,i,()):=by
 refine one_ok (a1:=(X,Z,ts,t,[frM (c.getD 0 P0) (av s)],v,n,i,[frM (c.getD 0 P0) (av s)],1,(1:Int),())) ?_ rfl
 simp only [f40_68,g3,g4,g5,g6,g7,g8,g9,dQ,List.length_cons,List.length_nil,Int.toNat_zero]
 rw [show blt 0 ((0+1:Nat):Int)=true from rfl,show aE 0 ((0+1:Nat):Int)=true from rfl,w01,show [frM (c.getD 0 P0) (av s)].getD 0 iJ=frM (c.getD 0 P0) (av s) from rfl,f89_ok g]
 simp only [cond_true,Option.bind_some,List.nil_append]
 rw [bH (by omega)]
 rfl
theorem f40_52_loop {c:aZ} {s:aN} (g:GB c s) (X Z:T4) :
  aA f40_52 (X,Z,[],[tkM (frM (c.getD 0 P0) (av s))],(([tkM (frM (c.getD 0 P0) (av s))].length:Nat):Int),(0:Int),())=some (X,Z,[tkM (frM (c.getD 0 P0) (av s))],()):=by
 refine one_ok (a1:=(X,Z,[tkM (frM (c.getD 0 P0) (av s))],[tkM (frM (c.getD 0 P0) (av s))],1,(1:Int),())) ?_ rfl
 simp only [f40_52,g3,g4,g5,List.length_cons,List.length_nil,Int.toNat_zero]
 rw [show blt 0 ((0+1:Nat):Int)=true from rfl,show aE 0 ((0+1:Nat):Int)=true from rfl,show [tkM (frM (c.getD 0 P0) (av s))].getD 0 d11=tkM (frM (c.getD 0 P0) (av s)) from rfl]
 unfold tkM
 simp only [cond_true]
 rw [f40_68_loop g]
 simp only [Option.bind_some,g6,g7,t5]
 rw [f90_ok [] (by simp)]
 simp only [Option.bind_some,List.nil_append]
 rw [bH (by show 0+1≤1172812402961;omega),w01]
 rfl
theorem f40_ok {c:aZ} {s:aN} (g:GB c s) (p:Int) (K:List jH) (hK:K.length≤1099511627776):f40 (mM p K (frM (c.getD 0 P0) (av s)),())=some ((mT p K (frM (c.getD 0 P0) (av s)),()),()):=by
 unfold mM mT
 simp only [f40,g5]
 rw [f40_12_nil]
 simp only [Option.bind_some,g3,g4,g6,g7,g8,g9,dQ,fF,gB,fN,fE,jR,kM,iM,g18,g19,g20,g21,g22,g23,t24]
 rw [bH (by simp only [List.length_nil];omega)]
 simp only [cond_true]
 rw [f40_52_loop g]
 simp only [Option.bind_some]
 rw [f90_ok [] (by simp)]
 simp only [Option.bind_some]
 rw [f91_ok]
 rfl
theorem f17_ok {c:aZ} {s:aN} (g:GB c s) (p:Int) (h:ok c s p=true):f17 (c,s,p,())=some ((mT p (Kn c) (frM (c.getD 0 P0) (av s)),()),()):=by
 simp only [f17]
 rw [f39_ok g p h]
 simp only [Option.bind_some]
 show (f40 (mM p (Kn c) (frM (c.getD 0 P0) (av s)),())).bind _=_
 rw [f40_ok g p _ (Kn_len g)]
 rfl
theorem f17_no {c:aZ} {s:aN} (w:CW c) (hi:IB s) (p:Int) (h:ok c s p=false):f17 (c,s,p,())=none:=by
 simp only [f17]
 rw [f39_no w hi p h]
 rfl
theorem f1017_no {c:aZ} {s:aN} (w:CW c) (hi:IB s) (p:Int) (h:ok c s p=false):f1017 (c,s,p,())=some ((zT,()),()):=by
 simp only [f1017]
 rw [f1039_no w hi p h]
 rfl
end Go.Ev.L7
namespace Go.Ev.L7
open Go.Proofs Go.Ev.L6
theorem eqF_big {α:Type} {g:α×α×Unit→Option ((Bool×Unit)×Unit)} {d:α} (l:List α) (hl:l.length≤4611686018427387904) (hg:∀ x,x∈l→Eqs g x):Eqs (eqF g d) l:=by
 unfold Eqs
 simp only [eqF]
 have h:aA (eqB g d) (l,l,(0:Int),())=some (.inl ()):=by
  refine (loop_fnd (body:=eqB g d) (fun i=>(l,l,(i:Int),())) (fun (o:Option Unit)=>match o with | none=> .inl () | some _=> .inr (false,())) (fun _=>none) l.length (fun i hi=>?_) ?_ l.length 0 (by omega)).trans ?_
  ·simp only [eqB,Int.toNat_natCast]
   rw [aH hi,aB hi,show g (l.getD i d,l.getD i d,())=_ from hg _ (aW hi),wr_up hi hl]
   rfl
  ·simp only [eqB]
   rw [aJ]
   rfl
  ·rw [(hZ (a:=fun _=>(none:Option Unit)) (n:=l.length) l.length 0 (by omega)).2 (fun _ _ _=>rfl)]
 rw [h,aS]
 rfl
theorem eqs_of {α:Type} {f:List α×List α×Unit→Option ((Bool×Unit)×Unit)} (g:α×α×Unit→Option ((Bool×Unit)×Unit)) (d:α) (h:f=eqF g d) (l:List α) (hl:l.length≤4611686018427387904) (hg:∀ x,x∈l→Eqs g x):f (l,l,())=some ((true,()),()):=by
 rw [h]
 exact eqF_big l hl hg
theorem eqs_nil {α:Type} {f:List α×List α×Unit→Option ((Bool×Unit)×Unit)} (g:α×α×Unit→Option ((Bool×Unit)×Unit)) (d:α) (h:f=eqF g d):f ([],[],())=some ((true,()),()):=
 eqs_of g d h [] (Nat.zero_le _) (fun _ hx=>nomatch hx)
theorem f44_nil:f44 ([],[],())=some ((true,()),()):=eqs_nil f95 d1 rfl
theorem f45_ok:f45 (W0,W0,())=some ((true,()),()):=by
 simp only [f45]
 rw [aS,f44_nil,dW]
 rfl
theorem f189_ok {r:eC} (h:OKR r):Eqs f189 r:=by
 unfold Eqs
 simp only [f189]
 cases h with
 | none=>
  rw [aS,show f95 (d3.2.1,d3.2.1,())=_ from f95_ok d1 d1_bnd,show f44 (d3.2.2.2,d3.2.2.2,())=_ from f44_nil]
  rfl
 | val v h=>
  rw [aS,show f95 (v,v,())=_ from f95_ok v h,aS,f44_nil]
  rfl
 | rest l h hb=>
  rw [aS,show f95 (d1,d1,())=_ from f95_ok d1 d1_bnd,aS,eqs_of f95 d1 (show f44=_ from rfl) l (by omega) (fun x hx=>f95_ok x (hb x hx))]
  rfl
theorem f180_ok {c:aZ} {s:aN} (g:GB c s):Eqs f180 (frM (c.getD 0 P0) (av s)):=by
 obtain ⟨h1,h2⟩:=FR_ok g
 unfold Eqs frM
 generalize FR (c.getD 0 P0) (av s)=l at h1 h2
 simp only [f180,g3,g4,g5,g6,g7,g8,g9,dQ,fF,gB,fN,fE,t15,aS,gR]
 rw [f44_nil,eqs_of f189 d3 (show f186=_ from rfl) l (by omega) (fun x hx=>f189_ok (h2 x hx)),eqs_nil (f:=f187) _ _ rfl,f45_ok]
 rfl
theorem f94_ok {c:aZ} {s:aN} (g:GB c s):Eqs f94 (tkM (frM (c.getD 0 P0) (av s))):=by
 unfold Eqs tkM
 simp only [f94,g3,g4,t5,aS,gR]
 rw [show f95 (d1,d1,())=_ from f95_ok d1 d1_bnd,eqs_of f180 iJ (show f144=_ from rfl) [_] (by simp) (fun x hx=>by rw [List.mem_singleton.1 hx];exact f180_ok g),f44_nil]
 rfl
theorem f93_ok (x:jH):Eqs f93 x:=by
 unfold Eqs
 simp only [f93,aS]
 rfl
theorem f46_ok:f46 (M0,M0,())=some ((true,()),()):=by
 simp only [f46,g3,g4,g5,t6,aS,dW]
 rw [eqs_nil (f:=f96) _ _ rfl,eqs_nil (f:=f47) _ _ f47_eq]
 rfl
def gM (p:Int) (K:List jH) (T:List dM):S31:=(p,(0:Int),(0:Int),(0:Int),(0:Int),([]:List cW),K,(0:Int),(0:Int),T,(0:Int),false,([]:List S1),W0,false,(0:Int),(0:Int),(0:Int),M0)
theorem f18_ok (p:Int) (K:List jH) (T:List dM) (hK:K.length≤1099511627776) (hT:f43 (T,T,())=some ((true,()),())):f18 (gM p K T,gM p K T,())=some ((true,()),()):=by
 unfold gM
 simp only [f18,g3,g4,g5,g6,g7,g8,g9,dQ,fF,gB,fN,fE,jR,kM,iM,t18,aS,gR]
 rw [eqs_nil (f:=f41) _ _ rfl,eqs_of f93 d7 (show f42=_ from rfl) K (by omega) (fun x _=>f93_ok x),hT,f44_nil,f45_ok,f46_ok]
 rfl
theorem f43_nil:f43 ([],[],())=some ((true,()),()):=eqs_nil f94 d11 rfl
theorem f43_ok {c:aZ} {s:aN} (g:GB c s):f43 ([tkM (frM (c.getD 0 P0) (av s))],[tkM (frM (c.getD 0 P0) (av s))],())=some ((true,()),()):=
 eqs_of f94 d11 rfl [_] (by simp) (fun x hx=>by rw [List.mem_singleton.1 hx];exact f94_ok g)
end Go.Ev.L7
namespace Go.Ev.L7
open Go.Proofs Go.Ev.L6
theorem near_le (f:Ieee.Format) (m:Nat) (e:Int):f.nearest false m e≤f.infRung:=by
 unfold Ieee.Format.nearest
 split
 ·exact Nat.zero_le _
 ·exact Nat.min_le_right _ _
theorem ord_self (f:Ieee.Format) (w:Nat) (h:w≤f.infRung):f.order w w=some .eq:=by
 have hm:w % f.signWeight≤w:=Nat.mod_le _ _
 unfold Ieee.Format.order Ieee.Format.read
 simp only []
 split
 ·simp [Ieee.Datum.order]
 ·split
  ·simp [Ieee.Datum.order]
  ·split
   ·simp [Ieee.Datum.order]
   ·omega
theorem nr (k:Int) (h:0≤k):dX (FloatKind.f64.nearest k) (FloatKind.f64.nearest k)=some .eq:=by
 refine ord_self _ _ ?_
 show Ieee.Format.nearest _ (decide (k < 0)) _ _≤_
 rw [decide_eq_false (by omega)]
 exact near_le _ _ _
theorem nr_ne (k:Int) (h:0≤k):(dX (FloatKind.f64.nearest k) (FloatKind.f64.nearest k) !=some .eq)=false:=by
 rw [nr k h]
 rfl
theorem wr1 {k:Int} (h0:0≤k) (h1:k≤4611686018427387904):wr (k+1)=k+1:=aY (by omega) (by omega)
noncomputable def txt (k:Int):ByteArray:=match f72 (k,()) with
 | some r=>r.1.1
 | none=>E0
theorem f72_txt {k:Int} (h0:0≤k) (h1:k≤2305843009213693952):f72 (k,())=some ((txt k,()),()):=by
 obtain ⟨s,hs⟩:=f72_ok k h0 h1
 unfold txt
 rw [hs]
abbrev MB (α:Type):=List α×Int×Int×Unit→Option ((List α×Int×Int×Unit) ⊕ (List α×Int×Unit))
abbrev HB (α:Type):=List α×Int×Int×Unit→Option ((List α×Int×Int×Unit) ⊕ ((Int×Unit) ⊕ (Int×Unit)))
def MS {α:Type} (B:MB α) (H:HB α) (d:α) (P:α→Prop) (C U:Int):Prop:=
 ∀ (l:List α) (k:Int) (i:Nat),i < l.length→l.length≤1099511627776→P (l.getD i d)→1≤k→k≤U→∃ x' k',B (l,k,(i:Int),())=some (.inl (l.set i x',k',((i+1:Nat):Int),()))∧k≤k'∧k'≤k+C∧∀ l2:List α,l2.length=l.length→l2.getD i d=x'→H (l2,k,(i:Int),())=some (.inl (l2,k',((i+1:Nat):Int),()))
theorem mh_loop {α:Type} {B:MB α} {H:HB α} {d:α} {P:α→Prop} {C U:Int} (hC:0≤C) (hs:MS B H d P C U)
  (hB:∀ l k,B (l,k,(l.length:Int),())=some (.inr (l,k,()))) (hH:∀ l k,H (l,k,(l.length:Int),())=some (.inr (.inl (k,())))) :
  ∀ (n i:Nat) (l:List α) (k:Int),i+n=l.length→l.length≤1099511627776→(∀ j,i≤j→j < l.length→P (l.getD j d))→1≤k→k+C*(n:Int)≤U→
   ∃ l' k',aA B (l,k,(i:Int),())=some (l',k',())∧l'.length=l.length∧(∀ j,j < i→l'.getD j d=l.getD j d)∧aA H (l',k,(i:Int),())=some (.inl (k',()))∧k≤k'∧k'≤k+C*(n:Int)
 | 0,i,l,k,hi,hl,hP,h0,h1=>by
  obtain rfl:i=l.length:=by omega
  refine ⟨l,k,?_,rfl,fun _ _=>rfl,?_,Int.le_refl _,by simp⟩
  ·rw [aM,hB]
  ·rw [aM,hH]
 | n+1,i,l,k,hi,hl,hP,h0,h1=>by
  have hn:C*((n+1:Nat):Int)=C*(n:Int)+C:=by rw [Int.natCast_succ,Int.mul_add,Int.mul_one]
  have hn0:0≤C*(n:Int):=Int.mul_nonneg hC (by omega)
  have hlt:i < l.length:=by omega
  obtain ⟨x',k1,e1,e2,e3,e4⟩:=hs l k i hlt hl (hP i (Nat.le_refl _) hlt) h0 (by omega)
  obtain ⟨l',k',g1,g2,g3,g4,g5,g6⟩:=mh_loop hC hs hB hH n (i+1) (l.set i x') k1 (by rw [List.length_set];omega) (by rw [List.length_set];omega) (fun j h2 h3=>by
   rw [L6.getD_set_ne (by omega)]
   rw [List.length_set] at h3
   exact hP j (by omega) h3) (by omega) (by omega)
  rw [List.length_set] at g2
  refine ⟨l',k',?_,g2,fun j hj=>?_,?_,by omega,by omega⟩
  ·rw [aM,e1]
   exact g1
  ·rw [g3 j (by omega),L6.getD_set_ne (by omega)]
  ·rw [aM,e4 l' g2 (by rw [g3 i (by omega),L6.getD_set_eq hlt])]
   exact g4
def MH {α:Type} (m:List α×Int×Unit→Option ((Int×Unit)×(List α×Unit))) (h:List α×Int×Unit→Option ((Int×Unit)×Unit)) (l:List α) (C U:Int):Prop:=
 ∀ k:Int,1≤k→k≤U→∃ l' k',m (l,k,())=some ((k',()),l',())∧h (l',k,())=some ((k',()),())∧k≤k'∧k'≤k+C
noncomputable def mF {α:Type} (B:MB α) (x:List α×Int×Unit):Option ((Int×Unit)×(List α×Unit)):=
 (aA B (x.1,x.2.1,(0:Int),())).bind fun z12=>
 some ((z12.2.1,()),z12.1,())
noncomputable def hF {α:Type} (H:HB α) (x:List α×Int×Unit):Option ((Int×Unit)×Unit):=
 (aA H (x.1,x.2.1,(0:Int),())).bind fun y19=>match y19 with
  | .inl z15=>(
   some ((z15.1,()),()))
  | .inr z17=>(
   some ((z17.1,()),()))
theorem mh_ok {α:Type} {B:MB α} {H:HB α} {d:α} {P:α→Prop} {C U:Int} {m:List α×Int×Unit→Option ((Int×Unit)×(List α×Unit))} {h:List α×Int×Unit→Option ((Int×Unit)×Unit)} (hm:m=mF B) (hh:h=hF H) (hC:0≤C) (hs:MS B H d P C U)
  (hB:∀ l k,B (l,k,(l.length:Int),())=some (.inr (l,k,()))) (hH:∀ l k,H (l,k,(l.length:Int),())=some (.inr (.inl (k,())))) (l:List α) (hl:l.length≤1099511627776) (hP:∀ x,x∈l→P x) (N V:Int) (hN:C*(l.length:Int)≤N) (hN2:V+N≤U):MH m h l N V:=by
 intro k h0 h1
 obtain ⟨l',k',g1,g2,g3,g4,g5,g6⟩:=mh_loop hC hs hB hH l.length 0 l k (by omega) hl (fun j _ h3=>hP _ (aW h3)) h0 (by omega)
 have g1':aA B (l,k,(0:Int),())=_:=g1
 have g4':aA H (l',k,(0:Int),())=_:=g4
 refine ⟨l',k',?_,?_,g5,by omega⟩
 ·rw [hm]
  unfold mF
  simp only []
  rw [g1']
  rfl
 ·rw [hh]
  unfold hF
  simp only []
  rw [g4']
  rfl
theorem f52_ms:MS f52_8 f58_8 d1 (fun _=>True) 5 1152921504606846976:=by
 intro l k i hi hl _ h0 h1
 have ht:=f72_txt (k:=k+1+1+1) (by omega) (by omega)
 refine ⟨(k,k+1,FloatKind.f64.nearest (k+1+1),txt (k+1+1+1),k+1+1+1+1),k+1+1+1+1+1,?_,by omega,by omega,fun l2 hl2 hx=>?_⟩
 ·simp (disch:=omega) only [f52_8,List.length_set,aH hi,aB hi,wr_up hi (show l.length≤_ by omega),wr1,ht,cond_true,Option.bind_some,Int.toNat_natCast,List.set_set,L6.getD_set_eq hi]
 ·rw [← hl2] at hi hl
  simp (disch:=omega) only [f58_8,g3,t4,aH hi,aB hi,wr_up hi (show l2.length≤_ by omega),wr1,ht,cond_true,cond_false,Option.bind_some,Int.toNat_natCast,hx,aS,nr_ne,dW,Bool.not_true]
theorem f52_mh (l:List S1) (hl:l.length≤1048576):MH f52 f58 l 5242880 1152921504000000000:=
 mh_ok (m:=f52) (h:=f58) rfl rfl (by omega) f52_ms (fun l k=>by simp only [f52_8,aJ,cond_false]) (fun l k=>by simp only [f58_8,aJ,cond_false]) l (by omega) (fun _ _=>trivial) _ _ (by omega) (by omega)
theorem f50_ms:MS f50_8 f56_8 d7 (fun _=>True) 2 1152921504606846976:=by
 intro l k i hi hl _ h0 h1
 refine ⟨(k,k+1),k+1+1,?_,by omega,by omega,fun l2 hl2 hx=>?_⟩
 ·simp (disch:=omega) only [f50_8,List.length_set,aH hi,aB hi,wr_up hi (show l.length≤_ by omega),wr1,cond_true,Int.toNat_natCast,List.set_set,L6.getD_set_eq hi]
 ·rw [← hl2] at hi hl
  simp (disch:=omega) only [f56_8,aH hi,aB hi,wr_up hi (show l2.length≤_ by omega),wr1,cond_true,cond_false,Int.toNat_natCast,hx,aS]
theorem f50_mh (l:List jH) (hl:l.length≤1099511627776):MH f50 f56 l 2199023255552 1000000000000000000:=
 mh_ok (m:=f50) (h:=f56) rfl rfl (by omega) f50_ms (fun l k=>by simp only [f50_8,aJ,cond_false]) (fun l k=>by simp only [f56_8,aJ,cond_false]) l hl (fun _ _=>trivial) _ _ (by omega) (by omega)
end Go.Ev.L7
namespace Go.Ev.L7
open Go.Proofs Go.Ev.L6
theorem f147_ms:MS f147_8 f149_8 d3 OKR 5242887 1152921503000000000:=by
 intro l k i hi hl hP h0 h1
 have hq:(l.getD i d3).2.2.2.length≤1048576:=by
  generalize l.getD i d3=r at hP
  cases hP with
  | none=>exact Nat.zero_le _
  | val v h=>exact Nat.zero_le _
  | rest q h hb=>exact h
 obtain ⟨⟨e0,⟨e1,e2,e3,e4,e5⟩,e6,q⟩,he⟩:∃ e,l.getD i d3=e:=⟨_,rfl⟩
 rw [he] at hq
 have ht:=f72_txt (k:=k+1+1+1+1) (by omega) (by omega)
 obtain ⟨q',k',m1,m2,m3,m4⟩:=f52_mh q hq (k+1+1+1+1+1+1+1) (by omega) (by omega)
 refine ⟨(k,(k+1,k+1+1,FloatKind.f64.nearest (k+1+1+1),txt (k+1+1+1+1),k+1+1+1+1+1),k+1+1+1+1+1+1,q'),k',?_,by omega,by omega,fun l2 hl2 hx=>?_⟩
 ·simp (disch:=omega) only [f147_8,put25,put26,put27,put28,put29,put30,put31,put32,u2,u3,g3,List.length_set,aH hi,aB hi,wr_up hi (show l.length≤_ by omega),wr1,ht,cond_true,Option.bind_some,Int.toNat_natCast,List.set_set,L6.getD_set_eq hi,he,m1]
 ·rw [← hl2] at hi hl
  simp (disch:=omega) only [f149_8,g3,t4,aH hi,aB hi,wr_up hi (show l2.length≤_ by omega),wr1,ht,cond_true,cond_false,Option.bind_some,Int.toNat_natCast,hx,aS,nr_ne,dW,Bool.not_true,m2,aR (show 0≤k' by omega)]
theorem f147_mh (l:List eC) (hl:l.length≤250) (ho:∀ r,r∈l→OKR r):MH f147 f149 l 1310721750 1152921501000000000:=
 mh_ok (m:=f147) (h:=f149) rfl rfl (by omega) f147_ms (fun l k=>by simp only [f147_8,aJ,cond_false]) (fun l k=>by simp only [f149_8,aJ,cond_false]) l (by omega) ho _ _ (by omega) (by omega)
theorem f52_nil (k:Int):f52 ([],k,())=some ((k,()),[],()):=by
 simp only [f52]
 rw [eU (body:=f52_8) (b:=_) rfl]
 rfl
theorem f58_nil (k:Int):f58 ([],k,())=some ((k,()),()):=by
 simp only [f58]
 rw [eU (body:=f58_8) (b:=_) rfl]
 rfl
theorem f148_nil (k:Int):f148 ([],k,())=some ((k,()),[],()):=by
 simp only [f148]
 rw [eU (body:=f148_8) (b:=_) rfl]
 rfl
theorem f150_nil (k:Int):f150 ([],k,())=some ((k,()),()):=by
 simp only [f150]
 rw [eU (body:=f150_8) (b:=_) rfl]
 rfl
structure FOK (f:dH):Prop where
 a:f.2.2.2.2.1=[]
 len:f.2.2.2.2.2.2.2.2.2.2.1.length≤250
 ok:∀ r,r∈f.2.2.2.2.2.2.2.2.2.2.1→OKR r
 b:f.2.2.2.2.2.2.2.2.2.2.2.1=[]
 d:f.2.2.2.2.2.2.2.2.2.2.2.2.2.2.1.2.1=[]
theorem f99_ms:MS f99_8 f103_8 iJ FOK 1310721770 1152921500000000000:=by
 intro l k i hi hl hP h0 h1
 obtain ⟨⟨e0,e1,e2,e3,e4,e5,e6,e7,e8,e9,e10,e11,e12,e13,⟨e14,e15,e16⟩,e17⟩,he⟩:∃ e,l.getD i iJ=e:=⟨_,rfl⟩
 rw [he] at hP
 obtain ⟨p1,p2,p3,p4,p5⟩:=hP
 simp only [] at p1 p2 p3 p4 p5
 subst p1 p4 p5
 obtain ⟨q',k',m1,m2,m3,m4⟩:=f147_mh e10 p2 p3 (k+1+1+1+1+1+1+1+1+1) (by omega) (by omega)
 have ht:=f72_txt (k:=k'+1+1+1) (by omega) (by omega)
 refine ⟨(k,k+1,k+1+1,beq ((k+1+1+1).tmod 3) 0,[],k+1+1+1+1,k+1+1+1+1+1,k+1+1+1+1+1+1,k+1+1+1+1+1+1+1,k+1+1+1+1+1+1+1+1,q',[],beq (k'.tmod 3) 0,beq ((k'+1).tmod 3) 0,(k'+1+1,[],txt (k'+1+1+1)),k'+1+1+1+1),k'+1+1+1+1+1,?_,by omega,by omega,fun l2 hl2 hx=>?_⟩
 ·simp (disch:=omega) only [f99_8,put40,put41,put42,put43,put44,put45,put46,put47,put48,put49,put50,put51,put52,put53,put54,put55,put56,put57,u2,u3,u4,u5,u6,u7,u8,u9,u10,u11,u12,u13,u14,g3,g4,g5,g6,g7,g8,g9,dQ,fF,gB,fN,fE,List.length_set,aH hi,aB hi,wr_up hi (show l.length≤_ by omega),wr1,ht,cond_true,Option.bind_some,Int.toNat_natCast,List.set_set,L6.getD_set_eq hi,he,m1,f52_nil,f148_nil]
 ·rw [← hl2] at hi hl
  simp (disch:=omega) only [f103_8,g3,g4,g5,g6,g7,g8,g9,dQ,fF,gB,fN,fE,t15,aH hi,aB hi,wr_up hi (show l2.length≤_ by omega),wr1,ht,cond_true,cond_false,Option.bind_some,Int.toNat_natCast,hx,aS,dW,gR,Bool.not_true,m2,aR,f58_nil,f150_nil]
theorem f99_mh (f:dH) (h:FOK f):MH f99 f103 [f] 1310721770 1152921490000000000:=
 mh_ok (m:=f99) (h:=f103) rfl rfl (by omega) f99_ms (fun l k=>by simp only [f99_8,aJ,cond_false]) (fun l k=>by simp only [f103_8,aJ,cond_false]) [f] (by simp) (fun x hx=>by rw [List.mem_singleton.1 hx];exact h) _ _ (by simp) (by omega)
end Go.Ev.L7
namespace Go.Ev.L7
open Go.Proofs Go.Ev.L6
structure TOK (t:dM):Prop where
 f:∃ f,t.2.2.1=[f]∧FOK f
 v:t.2.2.2.2.2=[]
theorem f51_ms:MS f51_8 f57_8 d11 TOK 1310721790 1152921480000000000:=by
 intro l k i hi hl hP h0 h1
 obtain ⟨⟨e0,⟨e1,e2,e3,e4,e5⟩,e6,e7,e8,e9⟩,he⟩:∃ e,l.getD i d11=e:=⟨_,rfl⟩
 rw [he] at hP
 obtain ⟨⟨f,p1,p2⟩,p3⟩:=hP
 simp only [] at p1 p3
 subst p1 p3
 obtain ⟨q',k',m1,m2,m3,m4⟩:=f99_mh f p2 (k+1+1+1+1+1+1) (by omega) (by omega)
 have ht:=f72_txt (k:=k+1+1+1+1) (by omega) (by omega)
 refine ⟨(k,(k+1,k+1+1,FloatKind.f64.nearest (k+1+1+1),txt (k+1+1+1+1),k+1+1+1+1+1),q',k',beq ((k'+1).tmod 3) 0,[]),k'+1+1,?_,by omega,by omega,fun l2 hl2 hx=>?_⟩
 ·simp (disch:=omega) only [f51_8,put58,put59,put60,put61,put62,put63,put64,put65,put66,put67,u2,u3,u4,g3,g4,t5,List.length_set,aH hi,aB hi,wr_up hi (show l.length≤_ by omega),wr1,ht,cond_true,Option.bind_some,Int.toNat_natCast,List.set_set,L6.getD_set_eq hi,he,m1,f52_nil]
 ·rw [← hl2] at hi hl
  simp (disch:=omega) only [f57_8,g3,g4,t4,t5,aH hi,aB hi,wr_up hi (show l2.length≤_ by omega),wr1,ht,cond_true,cond_false,Option.bind_some,Int.toNat_natCast,hx,aS,nr_ne,dW,gR,Bool.not_true,m2,aR,f58_nil]
theorem f51_mh (l:List dM) (hl:l.length≤1) (ho:∀ t,t∈l→TOK t):MH f51 f57 l 1310721790 1152921470000000000:=
 mh_ok (m:=f51) (h:=f57) rfl rfl (by omega) f51_ms (fun l k=>by simp only [f51_8,aJ,cond_false]) (fun l k=>by simp only [f57_8,aJ,cond_false]) l (by omega) ho _ _ (by omega) (by omega)
theorem f49_nil (k:Int):f49 ([],k,())=some ((k,()),[],()):=by
 simp only [f49]
 rw [eU (body:=f49_8) (b:=_) rfl]
 rfl
theorem f55_nil (k:Int):f55 ([],k,())=some ((k,()),()):=by
 simp only [f55]
 rw [eU (body:=f55_8) (b:=_) rfl]
 rfl
theorem f54_ok (k:Int):f54 ((0,[],[],E0,E0,0,0,()),k,())=some ((k,()),(0,[],[],E0,E0,0,0,()),()):=by
 simp only [f54,f100,f48]
 rw [eU (body:=f100_8) (b:=_) rfl]
 simp only [Option.bind_some]
 rw [eU (body:=f48_8) (b:=_) rfl]
 rfl
theorem f60_ok (k:Int) (h:0≤k):f60 (M0,k,())=some ((k,()),()):=by
 simp only [f60,f104,f105]
 rw [eU (body:=f104_8) (b:=_) rfl]
 simp only [Option.bind_some]
 rw [aR h]
 simp only [cond_false]
 rw [eU (body:=f105_8) (b:=_) rfl]
 simp only [Option.bind_some]
 rw [aR h]
 rfl
def gT (p:Int) (K:List jH) (T:List dM):T4:=(p,(0:Int),(0:Int),(0:Int),(0:Int),([]:List cW),K,(0:Int),(0:Int),T,(0:Int),false,([]:List S1),(0:Int),([]:List S1),E0,false,(0:Int),(0:Int),(0:Int),(0:Int),([]:List lY),([]:List ByteArray),E0,E0,(0:Int),(0:Int),())
theorem f21_ok (p:Int) (K:List jH) (T:List dM) (hK:K.length≤1099511627776) (hT:T.length≤1) (ho:∀ t,t∈T→TOK t):∃ K' T' k',f21 (gT p K T,(1:Int),())=some ((k',()),gT p K' T',())∧f22 (gM p K' T',(1:Int),())=some ((k',()),())∧1≤k':=by
 obtain ⟨K',k1,a1,a2,a3,a4⟩:=f50_mh K hK 1 (by omega) (by omega)
 obtain ⟨T',k2,b1,b2,b3,b4⟩:=f51_mh T hT ho k1 (by omega) (by omega)
 refine ⟨K',T',k2,?_,?_,by omega⟩
 ·unfold gT
  simp only [f21,f53,g5,g6,g9,gB,fN,fE,jR,g20,g21,g22,g23,g24,g25,g26,f49_nil,a1,b1,f52_nil,f54_ok,Option.bind_some,u22]
 ·unfold gM
  simp (disch:=omega) only [f22,f59,g5,g6,g9,gB,t18,f55_nil,a2,b2,f58_nil,f60_ok,Option.bind_some,aR,cond_false]
theorem f48_ok (l:List ByteArray) (k:Int) (hl:l.length≤1048576) (h0:1≤k) (h1:k≤576460752303423488):∃ l' k',f48 (l,k,())=some ((k',()),l',())∧l'.length=l.length∧k≤k'∧k'≤k+5*(l.length:Int):=by
 obtain ⟨l',k',h2,h3⟩:=mk_ok (body:=f48_8) (fun l k i hl hi h0 h1=>by
  obtain ⟨s,hs⟩:=f72_ok k (by omega) (by omega)
  refine ⟨l.set i s,k+1,?_,by rw [List.length_set],by omega,by omega⟩
  simp (disch:=omega) only [f48_8,aH hi,aB hi,aC hi hl,wr1,hs,cond_true,Option.bind_some,Int.toNat_natCast]) (fun l k=>by
  simp only [f48_8,aJ,cond_false]) l k hl h0 h1
 refine ⟨l',k',?_,h3⟩
 simp only [f48]
 rw [h2]
 rfl
theorem f20_ok (s:aN) (h:IB s) (k:Int) (h0:1≤k) (h1:k≤35184372088833):∃ b k',f20 ((s.1,s.2.1,s.2.2.1,s.2.2.2.1,s.2.2.2.2,()),k,())=some ((k',()),b)∧0≤k':=by
 obtain ⟨l1,k1,a1,a2,a3,a4⟩:=f48_ok s.1 k h.a h0 (by omega)
 obtain ⟨l2,k2,b1,b2,b3,b4⟩:=f48_ok s.2.1 k1 h.b (by omega) (by have:=h.a;omega)
 simp only [f20,a1,b1,Option.bind_some]
 exact ⟨_,_,rfl,by omega⟩
noncomputable def fG (b:aZ×aN×Int×Unit→Option ((T4×Unit)×Unit)) (x:aZ×aN×Int×Unit):Option ((Bool×Unit)×Unit):=
 let aC1:=x.1
 let aIn2:=x.2.1
 let aPace3:=x.2.2.1
 (f5 (aC1,(1048576:Int),())).bind fun r4=>
 bif (blt r4.1.1 (0:Int)) then some ((true,()),())
 else (
  (f14 (aIn2,r4.1.1,())).bind fun r6=>
  bif (blt r6.1.1 (0:Int)) then some ((true,()),())
  else (
   (f7 (aC1,())).bind fun r8=>
   (f16 (aIn2,())).bind fun r9=>
   (f15 (r8.1.1.1,(r9.1.1.1,r9.1.1.2.1,r9.1.1.2.2.1,(g3 r9.1.1),(g4 r9.1.1)),aPace3,())).bind fun r10=>
   (f7 (aC1,())).bind fun r11=>
   (f16 (aIn2,())).bind fun r12=>
   (b (r11.1.1.1,(r12.1.1.1,r12.1.1.2.1,r12.1.1.2.2.1,(g3 r12.1.1),(g4 r12.1.1)),aPace3,())).bind fun r13=>
   (f18 ((r13.1.1.1,r13.1.1.2.1,r13.1.1.2.2.1,(g3 r13.1.1),(g4 r13.1.1),(g5 r13.1.1),(g6 r13.1.1),(g7 r13.1.1),(g8 r13.1.1),(g9 r13.1.1),(dQ r13.1.1),(fF r13.1.1),(gB r13.1.1),((fN r13.1.1),(fE r13.1.1),(jR r13.1.1)),(kM r13.1.1),(iM r13.1.1),(g18 r13.1.1),(g19 r13.1.1),(g20 r13.1.1),(g21 r13.1.1),(g22 r13.1.1),(g23 r13.1.1),(g24 r13.1.1),(g25 r13.1.1),(g26 r13.1.1)),r10.1.1,())).bind fun r14=>
   bif (!r14.1.1) then some ((false,()),())
   else (
    (f7 (aC1,())).bind fun r16=>
    (f10 (r11.1.1.1,r16.1.1.1,())).bind fun r17=>
    bif (!r17.1.1) then some ((false,()),())
    else (
     (f16 (aIn2,())).bind fun r19=>
     (f19 ((r12.1.1.1,r12.1.1.2.1,r12.1.1.2.2.1,(g3 r12.1.1),(g4 r12.1.1)),(r19.1.1.1,r19.1.1.2.1,r19.1.1.2.2.1,(g3 r19.1.1),(g4 r19.1.1)),())).bind fun r20=>
     bif (!r20.1.1) then some ((false,()),())
     else (
      (f11 (r11.1.1,(1:Int),())).bind fun r22=>
      (f20 (r12.1.1,r22.1.1,())).bind fun r23=>
      (bK (blt r23.1.1 (0:Int)) (some true) ((f18 ((r13.1.1.1,r13.1.1.2.1,r13.1.1.2.2.1,(g3 r13.1.1),(g4 r13.1.1),(g5 r13.1.1),(g6 r13.1.1),(g7 r13.1.1),(g8 r13.1.1),(g9 r13.1.1),(dQ r13.1.1),(fF r13.1.1),(gB r13.1.1),((fN r13.1.1),(fE r13.1.1),(jR r13.1.1)),(kM r13.1.1),(iM r13.1.1),(g18 r13.1.1),(g19 r13.1.1),(g20 r13.1.1),(g21 r13.1.1),(g22 r13.1.1),(g23 r13.1.1),(g24 r13.1.1),(g25 r13.1.1),(g26 r13.1.1)),r10.1.1,())).bind fun r25=>(some (!r25.1.1)))).bind fun c26=>
      bif c26 then some ((false,()),())
      else (
       (f21 (r13.1.1,(1:Int),())).bind fun r27=>
       (f22 ((r13.1.1.1,r13.1.1.2.1,r13.1.1.2.2.1,(g3 r13.1.1),(g4 r13.1.1),(g5 r27.2.1),(g6 r27.2.1),(g7 r13.1.1),(g8 r13.1.1),(g9 r27.2.1),(dQ r13.1.1),(fF r13.1.1),(gB r27.2.1),((fN r13.1.1),(fE r27.2.1),(jR r13.1.1)),(kM r13.1.1),(iM r13.1.1),(g18 r13.1.1),(g19 r13.1.1),(g20 r13.1.1),(g21 r27.2.1),(g22 r27.2.1),(g23 r13.1.1),(g24 r13.1.1),(g25 r13.1.1),(g26 r13.1.1)),(1:Int),())).bind fun r28=>
       bif (blt r28.1.1 (0:Int)) then some ((false,()),())
       else bif (bne r28.1.1 r27.1.1) then some ((false,()),())
       else (
        (f7 (aC1,())).bind fun r31=>
        (f16 (aIn2,())).bind fun r32=>
        (b (r31.1.1.1,(r32.1.1.1,r32.1.1.2.1,r32.1.1.2.2.1,(g3 r32.1.1),(g4 r32.1.1)),aPace3,())).bind fun r33=>
        (f18 ((r33.1.1.1,r33.1.1.2.1,r33.1.1.2.2.1,(g3 r33.1.1),(g4 r33.1.1),(g5 r33.1.1),(g6 r33.1.1),(g7 r33.1.1),(g8 r33.1.1),(g9 r33.1.1),(dQ r33.1.1),(fF r33.1.1),(gB r33.1.1),((fN r33.1.1),(fE r33.1.1),(jR r33.1.1)),(kM r33.1.1),(iM r33.1.1),(g18 r33.1.1),(g19 r33.1.1),(g20 r33.1.1),(g21 r33.1.1),(g22 r33.1.1),(g23 r33.1.1),(g24 r33.1.1),(g25 r33.1.1),(g26 r33.1.1)),r10.1.1,())).bind fun r34=>
        bif (!r34.1.1) then some ((false,()),())
        else (
         (f22 ((r13.1.1.1,r13.1.1.2.1,r13.1.1.2.2.1,(g3 r13.1.1),(g4 r13.1.1),(g5 r27.2.1),(g6 r27.2.1),(g7 r13.1.1),(g8 r13.1.1),(g9 r27.2.1),(dQ r13.1.1),(fF r13.1.1),(gB r27.2.1),((fN r13.1.1),(fE r27.2.1),(jR r13.1.1)),(kM r13.1.1),(iM r13.1.1),(g18 r13.1.1),(g19 r13.1.1),(g20 r13.1.1),(g21 r27.2.1),(g22 r27.2.1),(g23 r13.1.1),(g24 r13.1.1),(g25 r13.1.1),(g26 r13.1.1)),(1:Int),())).bind fun r36=>
         bif (blt r36.1.1 (0:Int)) then some ((false,()),())
         else bif (bne r36.1.1 r27.1.1) then some ((false,()),())
         else some ((true,()),())))))))))
theorem f4_eq:f4=fG f17:=rfl
theorem f1004_eq:f1004=fG f1017:=rfl
theorem fG_ok (b:aZ×aN×Int×Unit→Option ((T4×Unit)×Unit)) (c:aZ) (s:aN) (p:Int) (hc:Y5.bnd c) (hC:CB c) (hi:IB s) (r q:Int) (h5:f5 (c,(1048576:Int),())=some ((r,()),())) (hr:0≤r) (h14:f14 (s,r,())=some ((q,()),())) (hq:0≤q)
  (p':Int) (K:List jH) (T:List dM) (hK:K.length≤1099511627776) (hT:T.length≤1) (ho:∀ t,t∈T→TOK t) (hE:f43 (T,T,())=some ((true,()),())) (h15:f15 (c,s,p,())=some ((gM p' K T,()),())) (hb:b (c,s,p,())=some ((gT p' K T,()),())) :
  fG b (c,s,p,())=some ((true,()),()):=by
 obtain ⟨s1,s2,s3,s4,s5⟩:=s
 obtain ⟨lm,km,m1,m2,m3⟩:=f11_ok c hC
 obtain ⟨lb,kb,n1,n2⟩:=f20_ok _ hi km m2 m3
 obtain ⟨K',T',k',q1,q2,q3⟩:=f21_ok p' K T hK hT ho
 have e18:=f18_ok p' K T hK hE
 have e19:f19 (_,_,())=_:=f19_ok _ hi
 have e16:=f16_ok _ hi
 simp only [gT,gM] at *
 simp (disch:=omega) only [fG,h5,h14,aR,cond_false,Option.bind_some,f7_ok c hC,e16,g3,g4,g5,g6,g7,g8,g9,dQ,fF,gB,fN,fE,jR,kM,iM,g18,g19,g20,g21,g22,g23,g24,g25,g26,h15,hb,e18,Bool.not_true,f10_ok c hc hC,e19,m1,n1,jB,q1,q2,aS]
theorem pure4 (x:VS.dens ps4) (hb:bnds ps4 x):∃ b,fL x=some ((true,()),b):=by
 obtain ⟨c,s,p,⟨⟩⟩:=x
 obtain ⟨hc,hs,-,-⟩:=hb
 refine ⟨(),?_⟩
 show (f4 (c,s,p,())).or (f1004 (c,s,p,()))=_
 rw [f4_eq,f1004_eq]
 obtain ⟨r,h5,hr⟩:=f5_ok c hc
 rcases hr with hr | ⟨hr,hC,hr2⟩
 ·have:fG f17 (c,s,p,())=some ((true,()),()):=by
   simp only [fG,h5,Option.bind_some,bD hr,cond_true]
  rw [this]
  rfl
 obtain ⟨q,h14,hq⟩:=f14_ok s hs r hr hr2
 rcases hq with hq | ⟨hq,hi⟩
 ·have:fG f17 (c,s,p,())=some ((true,()),()):=by
   simp only [fG,h5,h14,Option.bind_some,aR hr,bD hq,cond_true,cond_false]
  rw [this]
  rfl
 have w:=cw_of c hc hC
 cases hk:ok c s p with
 | true=>
  have h0:=(chk_zero (ok_chk hk)).1
  obtain ⟨a5,-⟩:=orr_none h0
  have g:GB c s:=⟨w,h0,pos_of (few_of a5).1,hi,hs⟩
  have f:=FR_ok g
  rw [fG_ok f17 c s p hc hC hi r q h5 hr h14 hq p (Kn c) [tkM (frM (c.getD 0 P0) (av s))] (Kn_len g) (by simp) (fun t ht=>by
   rw [List.mem_singleton.1 ht]
   exact ⟨⟨_,rfl,⟨rfl,f.1,f.2,rfl,rfl⟩⟩,rfl⟩) (f43_ok g) (f15_ok g p hk) (f17_ok g p hk)]
  rfl
 | false=>
  have:fG f17 (c,s,p,())=none:=by
   simp only [fG,h5,h14,aR hr,aR hq,cond_false,Option.bind_some,f7_ok c hC,f16_ok s hi,g3]
   rw [show f15 (c,(s.1,s.2.1,s.2.2.1,s.2.2.2.1,s.2.2.2.2),p,())=_ from f15_no w hi p hk,show f17 (c,(s.1,s.2.1,s.2.2.1,s.2.2.2.1,s.2.2.2.2),p,())=_ from f17_no w hi p hk]
   rfl
  rw [this,fG_ok f1017 c s p hc hC hi r q h5 hr h14 hq 0 [] [] (by simp) (by simp) (fun t ht=>nomatch ht) f43_nil (f15_no w hi p hk) (f1017_no w hi p hk)]
  rfl
end Go.Ev.L7
