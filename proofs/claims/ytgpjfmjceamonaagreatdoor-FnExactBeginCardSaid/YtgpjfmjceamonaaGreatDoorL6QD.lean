/-
 The law FnExactPrepare in plain terms: quick instructions, as both make them.
-/
import Derived.Test.YtgpjfmjceamonaaGreatDoorL6QC
namespace Go.Ev.L6
open Go.Proofs
def itr {τ:Type} (step:Nat→τ→τ):Nat→Nat→τ→τ
 | 0,_,t=>t
 | k+1,i,t=>itr step k (i+1) (step i t)
theorem iT {A B τ:Type} {body:A→Option (A ⊕ B)} {mk:Nat→τ→A} {fin:τ→B} {step:Nat→τ→τ} {I:Nat→τ→Prop} {n:Nat}
  (hs:∀ i t,i < n→I i t→body (mk i t)=some (.inl (mk (i+1) (step i t))))
  (hI:∀ i t,i < n→I i t→I (i+1) (step i t))
  (hf:∀ t,I n t→body (mk n t)=some (.inr (fin t))) :
  ∀ k i t,i+k=n→I i t→aA body (mk i t)=some (fin (itr step k i t))∧I n (itr step k i t)
 | 0,i,t,hi,ht=>by
  obtain rfl:i=n:=by omega
  rw [aM,hf t ht]
  exact ⟨rfl,ht⟩
 | k+1,i,t,hi,ht=>by
  rw [aM,hs i t (by omega) ht]
  exact iT hs hI hf k (i+1) _ (by omega) (hI i t (by omega) ht)
def dc (ins:List S2) (i:Nat) (A:Int):Nat→Nat→Nat
 | 0,m=>m
 | k+1,m=>bif beq (ins.getD (i+m) aT).1 42 then (bif beq (ins.getD (i+m) aT).2.1 (wr (A+(m:Int))) then dc ins i A k (m+1) else m) else m
theorem f64_8_loop (p:S9) (i:Nat) (hi:i < p.2.2.2.2.2.2.2.1.length) (hl:p.2.2.2.2.2.2.2.1.length≤1048576):∀ k m,i+m+k=p.2.2.2.2.2.2.2.1.length→aA f64_8 ((i:Int),(p,()),(m:Int),())=some ((dc p.2.2.2.2.2.2.2.1 i (p.2.2.2.2.2.2.2.1.getD i aT).2.1 k m:Int),())
 | 0,m,h=>by
  rw [aM]
  simp only [f64_8]
  rw [aY (by omega) (by omega),aR (by omega)]
  rfl
 | k+1,m,h=>by
  rw [aM]
  simp only [f64_8,dc]
  rw [aY (n:=(i:Int)+(m:Int)) (by omega) (by omega),bD (by omega),aK (by omega) (by omega),aK (by omega) (by omega),show ((i:Int)+(m:Int)).toNat=i+m by omega,Int.toNat_natCast]
  simp only [cond_true]
  generalize hn:p.2.2.2.2.2.2.2.1.getD (i+m) aT=n
  cases h1:beq n.1 42 with
  | false=>rfl
  | true=>
   cases h2:beq n.2.1 (wr ((p.2.2.2.2.2.2.2.1.getD i aT).2.1+(m:Int))) with
   | false=>rfl
   | true=>
    simp only [cond_true]
    rw [aY (n:=(m:Int)+1) (by omega) (by omega)]
    exact f64_8_loop p i hi hl k (m+1) (by omega)
theorem f28_20_loop (p t:S9) (q o:S7) (l:List S8) (c:Int) (i:Nat) (hi:i < p.2.2.2.2.2.2.2.1.length) (hl:p.2.2.2.2.2.2.2.1.length≤1048576):∀ k m,i+m+k=p.2.2.2.2.2.2.2.1.length→aA f28_20 (t,(i:Int),(l,c,()),(p,()),(q,()),(p.2.2.2.2.2.2.2.1.getD i aT,()),(o,()),(m:Int),())=some (t,(i:Int),(l,c,()),(p,()),(q,()),(p.2.2.2.2.2.2.2.1.getD i aT,()),(o,()),(dc p.2.2.2.2.2.2.2.1 i (p.2.2.2.2.2.2.2.1.getD i aT).2.1 k m:Int),())
 | 0,m,h=>by
  rw [aM]
  simp only [f28_20]
  rw [aY (by omega) (by omega),aR (by omega)]
  rfl
 | k+1,m,h=>by
  rw [aM]
  simp only [f28_20,dc]
  rw [aY (n:=(i:Int)+(m:Int)) (by omega) (by omega),bD (by omega),aK (by omega) (by omega),show ((i:Int)+(m:Int)).toNat=i+m by omega]
  simp only [cond_true]
  generalize hn:p.2.2.2.2.2.2.2.1.getD (i+m) aT=n
  cases h1:beq n.1 42 with
  | false=>rfl
  | true=>
   cases h2:beq n.2.1 (wr ((p.2.2.2.2.2.2.2.1.getD i aT).2.1+(m:Int))) with
   | false=>rfl
   | true=>
    simp only [cond_true]
    rw [aY (n:=(m:Int)+1) (by omega) (by omega)]
    exact f28_20_loop p t q o l c i hi hl k (m+1) (by omega)
def dn (p:S9) (i:Nat):Nat:=bif beq (p.2.2.2.2.2.2.2.1.getD i aT).1 42 then dc p.2.2.2.2.2.2.2.1 i (p.2.2.2.2.2.2.2.1.getD i aT).2.1 (p.2.2.2.2.2.2.2.1.length - i - 1) 1 else 0
theorem f64_ok (p:S9) (i:Nat) (hi:i < p.2.2.2.2.2.2.2.1.length) (hl:p.2.2.2.2.2.2.2.1.length≤1048576) (hn:NB (p.2.2.2.2.2.2.2.1.getD i aT)):f64 (p,(i:Int),())=some (((dn p i:Int),()),()):=by
 have h:=f64_8_loop p i hi hl (p.2.2.2.2.2.2.2.1.length - i) 0 (by omega)
 have h0:aA f64_8 ((i:Int),(p,()),(0:Int),())=some ((dc p.2.2.2.2.2.2.2.1 i (p.2.2.2.2.2.2.2.1.getD i aT).2.1 (p.2.2.2.2.2.2.2.1.length - i) 0:Int),()):=h
 simp only [f64]
 rw [h0]
 have hk:p.2.2.2.2.2.2.2.1.length - i=(p.2.2.2.2.2.2.2.1.length - i - 1)+1:=by omega
 have hA:I64 (p.2.2.2.2.2.2.2.1.getD i aT).2.1:=hn.1
 unfold I64 at hA
 have hdc:dc p.2.2.2.2.2.2.2.1 i (p.2.2.2.2.2.2.2.1.getD i aT).2.1 (p.2.2.2.2.2.2.2.1.length - i) 0=dn p i:=by
  rw [hk]
  unfold dn
  simp only [dc,Nat.add_zero]
  rw [show (p.2.2.2.2.2.2.2.1.getD i aT).2.1+((0:Nat):Int)=(p.2.2.2.2.2.2.2.1.getD i aT).2.1 by omega,aY hA.1 (by omega),gA]
  rfl
 rw [hdc]
 rfl
abbrev Q0:S7:=((0:Int),(0:Int),(0:Int),(0:Int),(0:Int),(0:Int),(0:Int))
def tw2 (n x:S2) (ks:List S1) (c:Int):Option S7:=
 bif (((beq n.1 18) && (ble 13 n.2.2.1)) && ((beq x.1 20) || (beq x.1 21))) && (beq x.2.1 (wr (-1 - n.2.1))) then some (43,n.2.1,n.2.2.1,n.2.2.2.1,n.2.2.2.2,x.2.2.1,bif beq x.1 20 then 1 else 0)
 else bif bne n.1 4 then none
 else bif (((beq x.1 18) && (beq x.2.2.2.1 (wr (-1 - n.2.1)))) && (bne x.2.2.2.2 n.2.1)) && (bne x.2.2.2.2 (wr (-1 - n.2.1))) then some (44,x.2.1,x.2.2.1,x.2.2.2.2,n.2.2.1,1,n.2.1)
 else bif (((beq x.1 18) && (beq x.2.2.2.2 (wr (-1 - n.2.1)))) && (bne x.2.2.2.1 n.2.1)) && (bne x.2.2.2.1 (wr (-1 - n.2.1))) then some (44,x.2.1,x.2.2.1,x.2.2.2.1,n.2.2.1,0,n.2.1)
 else bif ((((beq x.1 15) && (beq x.2.2.2.1 (wr (-1 - n.2.1)))) && (bne x.2.2.1 n.2.1)) && (bne x.2.2.1 (wr (-1 - n.2.1)))) && (beq (ks.getD n.2.2.1.toNat jI).1 4) then some (45,x.2.1,x.2.2.1,n.2.2.1,c,0,n.2.1)
 else none
def tw (p:S9) (i:Nat) (c:Int):Option S7:=bif ble (p.2.2.2.2.2.2.2.1.length:Int) ((i+1:Nat):Int) then none else tw2 (p.2.2.2.2.2.2.2.1.getD i aT) (p.2.2.2.2.2.2.2.1.getD (i+1) aT) p.2.2.2.2.2.2.1 c
def two (o:Option S7):(S7×Bool×Unit)×Unit:=match o with
 | some q=>((q,true,()),())
 | none=>((Q0,false,()),())
theorem f65_ok (p:S9) (i:Nat) (c:Int) (hi:i < p.2.2.2.2.2.2.2.1.length) (hl:p.2.2.2.2.2.2.2.1.length≤1048576) (hk:(p.2.2.2.2.2.2.2.1.getD i aT).1=4→aE (p.2.2.2.2.2.2.2.1.getD i aT).2.2.1 (p.2.2.2.2.2.2.1.length:Int)=true):f65 (p,(i:Int),c,())=some (two (tw p i c)):=by
 simp only [f65,tw]
 rw [aC hi hl]
 cases h:ble (p.2.2.2.2.2.2.2.1.length:Int) ((i+1:Nat):Int) with
 | true=>rfl
 | false=>
  have h':i+1 < p.2.2.2.2.2.2.2.1.length:=by
   have:¬ ((p.2.2.2.2.2.2.2.1.length:Int)≤((i+1:Nat):Int)):=fun hh=>by
    rw [ble_true hh] at h
    cases h
   omega
  rw [aB hi,aB h']
  simp only [cond_false,cond_true,Int.toNat_natCast]
  generalize p.2.2.2.2.2.2.2.1.getD i aT=n at hk
  generalize p.2.2.2.2.2.2.2.1.getD (i+1) aT=x
  unfold tw2
  cases (((beq n.1 18) && (ble 13 n.2.2.1)) && ((beq x.1 20) || (beq x.1 21))) && (beq x.2.1 (wr (-1 - n.2.1))) with
  | true=>
   simp only [cond_true]
   cases beq x.1 20<;>rfl
  | false=>
   simp only [cond_false]
   cases h4:bne n.1 4 with
   | true=>rfl
   | false=>
    rw [hk (kT h4)]
    simp only [cond_false,cond_true]
    cases (((beq x.1 18) && (beq x.2.2.2.1 (wr (-1 - n.2.1)))) && (bne x.2.2.2.2 n.2.1)) && (bne x.2.2.2.2 (wr (-1 - n.2.1))) with
    | true=>rfl
    | false=>
     simp only [cond_false]
     cases (((beq x.1 18) && (beq x.2.2.2.2 (wr (-1 - n.2.1)))) && (bne x.2.2.2.1 n.2.1)) && (bne x.2.2.2.1 (wr (-1 - n.2.1))) with
     | true=>rfl
     | false=>
      simp only [cond_false]
      cases (((beq x.1 15) && (beq x.2.2.2.1 (wr (-1 - n.2.1)))) && (bne x.2.2.1 n.2.1)) && (bne x.2.2.1 (wr (-1 - n.2.1))) with
      | false=>rfl
      | true=>
       simp only [bK,cond_true,Option.bind_some,Bool.true_and]
       cases beq (p.2.2.2.2.2.2.1.getD n.2.2.1.toNat jI).1 4<;>rfl
end Go.Ev.L6
namespace Go.Ev.L6
open Go.Proofs
abbrev ownQ (n:S2):S7:=(n.1,n.2.1,n.2.2.1,n.2.2.2.1,n.2.2.2.2,0,0)
abbrev OtT:=(S9×Int×((List S8)×Int×Unit)×(S7×Unit)×(S7×Unit)×Unit) ⊕ (S9×Int×((List S8)×Int×Unit)×(S7×Unit)×Unit)
def ot (t:S9) (o:Int) (l:List S8) (c:Int) (q w:S7) (r:Option (S7×Int)):OtT:=match r with
 | some r=> .inr (t,o,(l,r.2,()),(r.1,()),())
 | none=> .inl (t,o,(l,c,()),(q,()),(w,()),())
theorem f28_17_ok (p:S9) (q w:S7) (l:List S8) (c:Int) (i:Nat) (hi:i < p.2.2.2.2.2.2.2.1.length) (hl:p.2.2.2.2.2.2.2.1.length≤1048576) :
  f28_17 (p,(i:Int),(l,c,()),(p,()),(q,()),(p.2.2.2.2.2.2.2.1.getD i aT,()),(w,()),beq (p.2.2.2.2.2.2.2.1.getD i aT).1 42,())=some (bif ble 2 (dn p i:Int) then .inr (p,(i:Int),(l,c,()),((46,(p.2.2.2.2.2.2.2.1.getD i aT).2.1,(dn p i:Int),0,0,0,0),()),()) else .inl (p,(i:Int),(l,c,()),(p,()),(q,()),(p.2.2.2.2.2.2.2.1.getD i aT,()),(w,()),())):=by
 unfold dn
 cases h:beq (p.2.2.2.2.2.2.2.1.getD i aT).1 42 with
 | false=>
  simp only [f28_17,cond_false]
  rfl
 | true=>
  simp only [f28_17,cond_true]
  have h1:aA f28_20 (p,(i:Int),(l,c,()),(p,()),(q,()),(p.2.2.2.2.2.2.2.1.getD i aT,()),(w,()),(1:Int),())=_:=f28_20_loop p p q w l c i hi hl (p.2.2.2.2.2.2.2.1.length - i - 1) 1 (by omega)
  rw [h1]
  simp only [Option.bind_some]
  cases ble 2 ((dc p.2.2.2.2.2.2.2.1 i (p.2.2.2.2.2.2.2.1.getD i aT).2.1 (p.2.2.2.2.2.2.2.1.length - i - 1) 1:Nat):Int)<;>rfl
theorem f28_97_ok (t:S9) (o:Int) (l:List S8) (c:Int) (q w:S7) (n x:S2) (b:Bool):f28_97 (t,o,(l,c,()),(q,()),(n,()),(w,()),(x,()),b,())=some (ot t o l c q w (bif b then some ((45,x.2.1,x.2.2.1,n.2.2.1,wr (wr (c+1) - 1),0,n.2.1),wr (c+1)) else none)):=by
 cases b<;>rfl
def o89 (n x:S2) (ks:List S1) (T c:Int) (b:Bool):Option (S7×Int):=bif b then some ((44,x.2.1,x.2.2.1,x.2.2.2.1,n.2.2.1,0,n.2.1),c) else bif ((((beq n.1 4) && (beq (ks.getD n.2.2.1.toNat jI).1 4)) && (beq x.1 15)) && (beq x.2.2.2.1 T)) && ((bne x.2.2.1 n.2.1) && (bne x.2.2.1 T)) then some ((45,x.2.1,x.2.2.1,n.2.2.1,wr (wr (c+1) - 1),0,n.2.1),wr (c+1)) else none
theorem f28_89_ok (t p:S9) (o:Int) (l:List S8) (c T:Int) (q w:S7) (n x:S2) (b:Bool) (hk:n.1=4→aE n.2.2.1 (p.2.2.2.2.2.2.1.length:Int)=true):f28_89 (t,o,(l,c,()),(p,()),(q,()),(n,()),(w,()),(x,()),(T,()),b,())=some (ot t o l c q w (o89 n x p.2.2.2.2.2.2.1 T c b)):=by
 unfold o89
 cases b with
 | true=>rfl
 | false=>
  simp only [f28_89,cond_false,iV]
  cases h4:beq n.1 4 with
  | false=>
   simp only [cond_false,Option.bind_some,Bool.false_and]
   rw [f28_97_ok]
   rfl
  | true=>
   rw [hk (aL.1 h4)]
   simp only [cond_true,Option.bind_some,Bool.true_and]
   cases ((beq (p.2.2.2.2.2.2.1.getD n.2.2.1.toNat jI).1 4) && (beq x.1 15)) && (beq x.2.2.2.1 T) with
   | false=>
    simp only [cond_false,Bool.false_and]
    rw [f28_97_ok]
    rfl
   | true=>
    simp only [cond_true,Bool.true_and,f69,Option.bind_some]
    rw [f28_97_ok]
    cases (bne x.2.2.1 n.2.1) && (bne x.2.2.1 T)<;>rfl
def o81 (n x:S2) (ks:List S1) (T c:Int) (b:Bool):Option (S7×Int):=bif b then some ((44,x.2.1,x.2.2.1,x.2.2.2.2,n.2.2.1,1,n.2.1),c) else o89 n x ks T c ((((beq n.1 4) && (beq x.1 18)) && (beq x.2.2.2.2 T)) && ((bne x.2.2.2.1 n.2.1) && (bne x.2.2.2.1 T)))
theorem f28_81_ok (t p:S9) (o:Int) (l:List S8) (c T:Int) (q w:S7) (n x:S2) (b:Bool) (hk:n.1=4→aE n.2.2.1 (p.2.2.2.2.2.2.1.length:Int)=true):f28_81 (t,o,(l,c,()),(p,()),(q,()),(n,()),(w,()),(x,()),(T,()),b,())=some (ot t o l c q w (o81 n x p.2.2.2.2.2.2.1 T c b)):=by
 unfold o81
 cases b with
 | true=>rfl
 | false=>
  simp only [f28_81,cond_false]
  cases ((beq n.1 4) && (beq x.1 18)) && (beq x.2.2.2.2 T) with
  | false=>
   simp only [cond_false,Bool.false_and]
   rw [f28_89_ok _ _ _ _ _ _ _ _ _ _ _ hk]
   cases o89 n x p.2.2.2.2.2.2.1 T c false<;>rfl
  | true=>
   simp only [cond_true,Bool.true_and,f69,Option.bind_some]
   rw [f28_89_ok _ _ _ _ _ _ _ _ _ _ _ hk]
   cases o89 n x p.2.2.2.2.2.2.1 T c ((bne x.2.2.2.1 n.2.1) && (bne x.2.2.2.1 T))<;>rfl
def o61 (n x:S2) (ks:List S1) (T c:Int) (b:Bool):Option (S7×Int):=bif b then some ((43,n.2.1,n.2.2.1,n.2.2.2.1,n.2.2.2.2,x.2.2.1,bif beq x.1 20 then 1 else 0),c) else o81 n x ks T c ((((beq n.1 4) && (beq x.1 18)) && (beq x.2.2.2.1 T)) && ((bne x.2.2.2.2 n.2.1) && (bne x.2.2.2.2 T)))
theorem f28_61_ok (t p:S9) (o:Int) (l:List S8) (c T:Int) (q w:S7) (n x:S2) (b:Bool) (hk:n.1=4→aE n.2.2.1 (p.2.2.2.2.2.2.1.length:Int)=true):f28_61 (t,o,(l,c,()),(p,()),(q,()),(n,()),(w,()),(x,()),(T,()),b,())=some (ot t o l c q w (o61 n x p.2.2.2.2.2.2.1 T c b)):=by
 unfold o61
 cases b with
 | true=>
  simp only [f28_61,cond_true]
  cases beq x.1 20<;>rfl
 | false=>
  simp only [f28_61,cond_false]
  cases ((beq n.1 4) && (beq x.1 18)) && (beq x.2.2.2.1 T) with
  | false=>
   simp only [cond_false,Bool.false_and]
   rw [f28_81_ok _ _ _ _ _ _ _ _ _ _ _ hk]
   cases o81 n x p.2.2.2.2.2.2.1 T c false<;>rfl
  | true=>
   simp only [cond_true,Bool.true_and,f69,Option.bind_some]
   rw [f28_81_ok _ _ _ _ _ _ _ _ _ _ _ hk]
   cases o81 n x p.2.2.2.2.2.2.1 T c ((bne x.2.2.2.2 n.2.1) && (bne x.2.2.2.2 T))<;>rfl
def cs (q:S7) (c:Int):Int:=bif beq q.1 45 then wr (c+1) else c
theorem o61_tw (n x:S2) (ks:List S1) (c:Int) (h0:0≤c) (h1:c≤4611686018427387904):o61 n x ks (wr (-1 - n.2.1)) c ((((beq n.1 18) && (ble 13 n.2.2.1)) && ((beq x.1 20) || (beq x.1 21))) && (beq x.2.1 (wr (-1 - n.2.1))))=(tw2 n x ks c).map fun q=>(q,cs q c):=by
 unfold o61 o81 o89 tw2
 rw [cX n.1 4,aY (n:=c+1) (by omega) (by omega),aY (n:=c+1 - 1) (by omega) (by omega),show c+1 - 1=c by omega]
 generalize wr (-1 - n.2.1)=T
 generalize hcs:cs=CS
 have e1:∀ a b d e f:Int,CS (43,a,b,d,e,f,bif beq x.1 20 then 1 else 0) c=c:=fun _ _ _ _ _=>by subst hcs;rfl
 have e2:∀ a b d e f g:Int,CS (44,a,b,d,e,f,g) c=c:=fun _ _ _ _ _ _=>by subst hcs;rfl
 have e3:∀ a b d e f g:Int,CS (45,a,b,d,e,f,g) c=c+1:=fun _ _ _ _ _ _=>by
  subst hcs
  exact aY (by omega) (by omega)
 cases (((beq n.1 18) && (ble 13 n.2.2.1)) && ((beq x.1 20) || (beq x.1 21))) && (beq x.2.1 T) with
 | true=>
  simp only [cond_true,Option.map_some,e1]
 | false=>
  cases beq n.1 4 with
  | false=>rfl
  | true=>
   simp only [cond_false,Bool.true_and,Bool.not_true]
   rw [← Bool.and_assoc (beq x.1 18 && beq x.2.2.2.1 T)]
   cases ((beq x.1 18 && beq x.2.2.2.1 T) && bne x.2.2.2.2 n.2.1) && bne x.2.2.2.2 T with
   | true=>
    simp only [cond_true,Option.map_some,e2]
   | false=>
    simp only [cond_false]
    rw [← Bool.and_assoc (beq x.1 18 && beq x.2.2.2.2 T)]
    cases ((beq x.1 18 && beq x.2.2.2.2 T) && bne x.2.2.2.1 n.2.1) && bne x.2.2.2.1 T with
    | true=>
     simp only [cond_true,Option.map_some,e2]
    | false=>
     simp only [cond_false]
     rw [show ((((beq (ks.getD n.2.2.1.toNat jI).1 4) && (beq x.1 15)) && (beq x.2.2.2.1 T)) && ((bne x.2.2.1 n.2.1) && (bne x.2.2.1 T)))=(((((beq x.1 15) && (beq x.2.2.2.1 T)) && (bne x.2.2.1 n.2.1)) && (bne x.2.2.1 T)) && (beq (ks.getD n.2.2.1.toNat jI).1 4)) by
      cases beq (ks.getD n.2.2.1.toNat jI).1 4<;>cases beq x.1 15<;>cases beq x.2.2.2.1 T<;>cases bne x.2.2.1 n.2.1<;>cases bne x.2.2.1 T<;>rfl]
     cases (((((beq x.1 15) && (beq x.2.2.2.1 T)) && (bne x.2.2.1 n.2.1)) && (bne x.2.2.1 T)) && (beq (ks.getD n.2.2.1.toNat jI).1 4)) with
     | true=>
      simp only [cond_true,Option.map_some,e3]
     | false=>rfl
def qk (p:S9) (i:Nat) (c:Int):S7×Int:=bif ble 2 (dn p i:Int) then ((46,(p.2.2.2.2.2.2.2.1.getD i aT).2.1,(dn p i:Int),0,0,0,0),c) else match tw p i c with
 | some q=>(q,cs q c)
 | none=>(ownQ (p.2.2.2.2.2.2.2.1.getD i aT),c)
theorem cs_b (q:S7) (c:Int) (h0:0≤c) (h1:c≤4611686018427387904):c≤cs q c∧cs q c≤c+1:=by
 unfold cs
 rw [aY (n:=c+1) (by omega) (by omega)]
 cases beq q.1 45
 ·exact ⟨Int.le_refl _,by show c≤c+1;omega⟩
 ·exact ⟨by show c≤c+1;omega,Int.le_refl _⟩
theorem qk_b (p:S9) (i:Nat) (c:Int) (h0:0≤c) (h1:c≤4611686018427387904):c≤(qk p i c).2∧(qk p i c).2≤c+1:=by
 unfold qk
 cases ble 2 (dn p i:Int) with
 | true=>exact ⟨Int.le_refl _,by show c≤c+1;omega⟩
 | false=>
  simp only [cond_false]
  cases tw p i c with
  | none=>exact ⟨Int.le_refl _,by show c≤c+1;omega⟩
  | some q=>exact cs_b q c h0 h1
theorem f28_ok (p:S9) (l:List S8) (c:Int) (i:Nat) (hi:i < p.2.2.2.2.2.2.2.1.length) (hl:p.2.2.2.2.2.2.2.1.length≤1048576) (hk:(p.2.2.2.2.2.2.2.1.getD i aT).1=4→aE (p.2.2.2.2.2.2.2.1.getD i aT).2.2.1 (p.2.2.2.2.2.2.1.length:Int)=true) (h0:0≤c) (h1:c≤4611686018427387904) :
  f28 (p,(i:Int),(l,c,()),())=some (((qk p i c).1,()),(l,(qk p i c).2,()),()):=by
 simp only [f28]
 rw [aB hi,Int.toNat_natCast]
 simp only [cond_true]
 rw [f28_17_ok p _ _ l c i hi hl]
 unfold qk tw
 simp only [Option.bind_some]
 cases ble 2 (dn p i:Int) with
 | true=>rfl
 | false=>
  simp only [cond_false]
  rw [aC hi hl]
  cases h:ble (p.2.2.2.2.2.2.2.1.length:Int) ((i+1:Nat):Int) with
  | true=>rfl
  | false=>
   have h':i+1 < p.2.2.2.2.2.2.2.1.length:=by
    have:¬ ((p.2.2.2.2.2.2.2.1.length:Int)≤((i+1:Nat):Int)):=fun hh=>by
     rw [ble_true hh] at h
     cases h
    omega
   rw [aB h',Int.toNat_natCast]
   simp only [cond_false,cond_true]
   generalize p.2.2.2.2.2.2.2.1.getD i aT=n at hk
   generalize p.2.2.2.2.2.2.2.1.getD (i+1) aT=x
   rw [f28_61_ok p p _ _ _ _ _ _ _ _ _ hk,o61_tw n x _ c h0 h1]
   cases tw2 n x p.2.2.2.2.2.2.1 c<;>rfl
end Go.Ev.L6
namespace Go.Ev.L6
open Go.Proofs
def st1 (p:S9) (i:Nat) (t:List S7×Int):List S7×Int:=(t.1 ++[(qk p i t.2).1],(qk p i t.2).2)
structure PQ (p:S9):Prop where
 len:p.2.2.2.2.2.2.2.1.length≤1048576
 nb:∀ i,i < p.2.2.2.2.2.2.2.1.length→NB (p.2.2.2.2.2.2.2.1.getD i aT)
 kon:∀ i,i < p.2.2.2.2.2.2.2.1.length→(p.2.2.2.2.2.2.2.1.getD i aT).1=4→aE (p.2.2.2.2.2.2.2.1.getD i aT).2.2.1 (p.2.2.2.2.2.2.1.length:Int)=true
theorem blt_ble (n:Nat):blt 1 (n:Int)=ble 2 (n:Int):=by
 unfold blt ble
 rw [decide_eq_decide]
 omega
def I1 (C:Int) (i:Nat) (t:List S7×Int):Prop:=t.1.length=i∧C≤t.2∧t.2≤C+i
theorem I1_st {p:S9} {C:Int} (h0:0≤C) (h1:C≤2305843009213693952) {i:Nat} {t:List S7×Int} (hi:i≤1048576) (h:I1 C i t):I1 C (i+1) (st1 p i t):=by
 obtain ⟨a,b,d⟩:=h
 have:=qk_b p i t.2 (by omega) (by omega)
 refine ⟨by simp only [st1,List.length_append,List.length_cons,List.length_nil];omega,?_,?_⟩
 ·show C≤(qk p i t.2).2
  omega
 ·show (qk p i t.2).2≤C+((i+1:Nat):Int)
  omega
theorem f25_28_loop (X:(List S8)×Int×Unit) (pr:List S8) (p:S9) (v9:List S9) (v10 v11 C:Int) (h:PQ p) (h0:0≤C) (h1:C≤2305843009213693952) :
  aA f25_28 (X,(pr,C,()),(p,()),([],()),v9,v10,v11,p.2.2.2.2.2.2.2.1,(p.2.2.2.2.2.2.2.1.length:Int),(0:Int),())=some (X,(pr,(itr (st1 p) p.2.2.2.2.2.2.2.1.length 0 ([],C)).2,()),((itr (st1 p) p.2.2.2.2.2.2.2.1.length 0 ([],C)).1,()),v9,v10,v11,())∧I1 C p.2.2.2.2.2.2.2.1.length (itr (st1 p) p.2.2.2.2.2.2.2.1.length 0 ([],C)):=by
 have hl:=h.len
 refine iT (body:=f25_28) (mk:=fun i (t:List S7×Int)=>(X,(pr,t.2,()),(p,()),(t.1,()),v9,v10,v11,p.2.2.2.2.2.2.2.1,(p.2.2.2.2.2.2.2.1.length:Int),(i:Int),())) (fin:=fun t=>(X,(pr,t.2,()),(t.1,()),v9,v10,v11,())) (step:=st1 p) (I:=I1 C) (n:=p.2.2.2.2.2.2.2.1.length) (fun i t hi ht=>?_) (fun i t hi ht=>I1_st h0 h1 (by omega) ht) (fun t ht=>?_) _ 0 ([],C) (by omega) ⟨rfl,Int.le_refl _,by omega⟩
 ·obtain ⟨a,b,d⟩:=ht
  simp only [f25_28]
  rw [aH hi,aB hi,f64_ok p i hi hl (h.nb i hi),f65_ok p i t.2 hi hl (h.kon i hi),aC hi hl,Int.toNat_natCast]
  simp only [cond_true,Option.bind_some]
  rw [blt_ble]
  unfold st1 qk
  cases ble 2 (dn p i:Int) with
  | true=>
   simp only [cond_true]
   rw [bH (by simp only [List.length_cons,List.length_nil];omega)]
   rfl
  | false=>
   simp only [cond_false]
   cases tw p i t.2 with
   | none=>
    simp only [two,cond_false]
    rw [bH (by simp only [List.length_cons,List.length_nil];omega)]
    rfl
   | some q=>
    simp only [two,cond_true]
    rw [bH (by simp only [List.length_cons,List.length_nil];omega)]
    unfold cs
    cases beq q.1 45<;>rfl
 ·simp only [f25_28]
  rw [aJ]
  rfl
theorem f8_36_loop (X:(List S8)×Int×Unit) (pr:List S8) (p:S9) (v9:List S9) (v10 v11 C:Int) (h:PQ p) (h0:0≤C) (h1:C≤2305843009213693952) :
  aA f8_36 (X,(pr,C,()),(p,()),([],()),v9,v10,v11,(p.2.2.2.2.2.2.2.1.length:Int),(0:Int),())=some (X,(pr,(itr (st1 p) p.2.2.2.2.2.2.2.1.length 0 ([],C)).2,()),((itr (st1 p) p.2.2.2.2.2.2.2.1.length 0 ([],C)).1,()),v9,v10,v11,()):=by
 have hl:=h.len
 refine (iT (body:=f8_36) (mk:=fun i (t:List S7×Int)=>(X,(pr,t.2,()),(p,()),(t.1,()),v9,v10,v11,(p.2.2.2.2.2.2.2.1.length:Int),(i:Int),())) (fin:=fun t=>(X,(pr,t.2,()),(t.1,()),v9,v10,v11,())) (step:=st1 p) (I:=I1 C) (n:=p.2.2.2.2.2.2.2.1.length) (fun i t hi ht=>?_) (fun i t hi ht=>I1_st h0 h1 (by omega) ht) (fun t ht=>?_) _ 0 ([],C) (by omega) ⟨rfl,Int.le_refl _,by omega⟩).1
 ·obtain ⟨a,b,d⟩:=ht
  simp only [f8_36]
  rw [aH hi,f28_ok p pr t.2 i hi hl (h.kon i hi) (by omega) (by omega),aC hi hl]
  simp only [cond_true,Option.bind_some]
  rw [bH (by simp only [List.length_cons,List.length_nil];omega)]
  rfl
 ·simp only [f8_36]
  rw [aJ]
  rfl
def st2 (c:aN) (i:Nat) (t:List S8×Int):List S8×Int:=(t.1 ++[(itr (st1 (c.getD i P0)) (c.getD i P0).2.2.2.2.2.2.2.1.length 0 ([],t.2)).1],(itr (st1 (c.getD i P0)) (c.getD i P0).2.2.2.2.2.2.2.1.length 0 ([],t.2)).2)
def I2 (i:Nat) (t:List S8×Int):Prop:=t.1.length=i∧0≤t.2∧t.2≤1048576*(i:Int)∧∀ x,x∈t.1→x.length≤1048576
theorem I2_st {c:aN} (hc:c.length≤1048576) (hp:∀ i,i < c.length→PQ (c.getD i P0)) {i:Nat} {t:List S8×Int} (hi:i < c.length) (h:I2 i t):I2 (i+1) (st2 c i t):=by
 obtain ⟨a,b,d,e⟩:=h
 have h1:=(f25_28_loop ([],0,()) [] (c.getD i P0) [] 0 0 t.2 (hp i hi) b (by omega)).2
 have h2:=(hp i hi).len
 obtain ⟨a1,b1,d1⟩:=h1
 refine ⟨by simp only [st2,List.length_append,List.length_cons,List.length_nil];omega,?_,?_,fun x hx=>?_⟩
 ·show 0≤(itr (st1 (c.getD i P0)) (c.getD i P0).2.2.2.2.2.2.2.1.length 0 ([],t.2)).2
  omega
 ·show (itr (st1 (c.getD i P0)) (c.getD i P0).2.2.2.2.2.2.2.1.length 0 ([],t.2)).2≤1048576*((i+1:Nat):Int)
  omega
 ·simp only [st2,List.mem_append,List.mem_singleton] at hx
  rcases hx with hx | rfl
  ·exact e x hx
  ·omega
def prep (c:aN):List S8×Int:=itr (st2 c) c.length 0 ([],0)
theorem f25_12_loop (X:(List S8)×Int×Unit) (c:aN) (hc:c.length≤1048576) (hp:∀ i,i < c.length→PQ (c.getD i P0)) :
  aA f25_12 (X,([],(0:Int),()),c,(c.length:Int),(0:Int),())=some (X,((prep c).1,(prep c).2,()),())∧I2 c.length (prep c):=by
 refine iT (body:=f25_12) (mk:=fun i (t:List S8×Int)=>(X,(t.1,t.2,()),c,(c.length:Int),(i:Int),())) (fin:=fun t=>(X,(t.1,t.2,()),())) (step:=st2 c) (I:=I2) (n:=c.length) (fun i t hi ht=>?_) (fun i t hi ht=>I2_st hc hp hi ht) (fun t ht=>?_) _ 0 ([],(0:Int)) (by omega) ⟨rfl,Int.le_refl _,Int.le_refl _,fun x hx=>by cases hx⟩
 ·obtain ⟨a,b,d,e⟩:=ht
  simp only [f25_12]
  rw [aH hi,aB hi,Int.toNat_natCast]
  simp only [cond_true]
  rw [(f25_28_loop _ _ _ _ _ _ _ (hp i hi) b (by omega)).1]
  simp only [Option.bind_some]
  rw [bH (by simp only [List.length_cons,List.length_nil];omega),aC hi hc]
  rfl
 ·simp only [f25_12]
  rw [aJ]
  rfl
theorem f8_20_loop (X:(List S8)×Int×Unit) (c:aN) (hc:c.length≤1048576) (hp:∀ i,i < c.length→PQ (c.getD i P0)) :
  aA f8_20 (X,([],(0:Int),()),c,(c.length:Int),(0:Int),())=some (X,((prep c).1,(prep c).2,()),()):=by
 refine (iT (body:=f8_20) (mk:=fun i (t:List S8×Int)=>(X,(t.1,t.2,()),c,(c.length:Int),(i:Int),())) (fin:=fun t=>(X,(t.1,t.2,()),())) (step:=st2 c) (I:=I2) (n:=c.length) (fun i t hi ht=>?_) (fun i t hi ht=>I2_st hc hp hi ht) (fun t ht=>?_) _ 0 ([],(0:Int)) (by omega) ⟨rfl,Int.le_refl _,Int.le_refl _,fun x hx=>by cases hx⟩).1
 ·obtain ⟨a,b,d,e⟩:=ht
  simp only [f8_20]
  rw [aH hi,aB hi,Int.toNat_natCast]
  simp only [cond_true]
  rw [f8_36_loop _ _ _ _ _ _ _ (hp i hi) b (by omega)]
  simp only [Option.bind_some]
  rw [bH (by simp only [List.length_cons,List.length_nil];omega),aC hi hc]
  rfl
 ·simp only [f8_20]
  rw [aJ]
  rfl
theorem ro_k:ro 4 1=9:=by kernel_rfl
theorem fok9 {c:aN} {p:S9} {x:Int} (hl:p.2.2.2.2.2.2.1.length≤1048576) (h:fok c p 9 x=true):aE x (p.2.2.2.2.2.2.1.length:Int)=true:=by
 have h2:fok c p 9 x=(ble 0 x && ble x (wr ((p.2.2.2.2.2.2.1.length:Int) - 1))):=by kernel_rfl
 rw [h2,Bool.and_eq_true,bS,bS,aY (by omega) (by omega)] at h
 exact aK h.1 (by omega)
theorem pq_of {c:aN} (w:CW c) (h:shp c=none) (i:Nat) (hi:i < c.length):PQ (c.getD i P0):=by
 have pw:=pw_of w h i hi
 refine ⟨pw.len,fun j hj=>(pw.ins j hj).nb,fun j hj h4=>?_⟩
 have hf:=(pw.ins j hj).fo 1 (by omega)
 rw [h4,ro_k] at hf
 exact fok9 (w.consts _ (aW hi)) hf
theorem wkC_code {c:aN} {i:Nat} {e:aZ} (h:wkC c i=some e):bne e.1 0=true:=by
 unfold wkC at h
 split at h
 ·rename_i r hr
  cases hb:bne r.1.2.1 0 with
  | false=>rw [hb] at h;cases h
  | true=>
   rw [hb] at h
   cases h
   exact hb
 ·cases h
theorem chk_zero {c:aN} (h:bne (chk c).1 0=false):shp c=none∧chk c=(0,0,0):=by
 unfold chk at h ⊢
 cases hs:shp c with
 | some e=>
  rw [hs] at h
  exact absurd (shp_code hs) (by rw [h];exact Bool.false_ne_true)
 | none=>
  rw [hs] at h
  refine ⟨rfl,?_⟩
  simp only [] at h ⊢
  cases hf:bJ (wkC c) c.length 0 with
  | none=>rfl
  | some e=>
   rw [hf] at h
   obtain ⟨j,_,_,hj⟩:=eX _ _ hf
   exact absurd (wkC_code hj) (by rw [show bne e.1 0=false from h];exact Bool.false_ne_true)
noncomputable def quick (c:aN):List S8×Int:=bif bne (chk c).1 0 then ([],0) else prep c
theorem f8_ok (c:aN) (w:CW c):f8 (c,())=some ((((quick c).1,(quick c).2,()),()),()):=by
 simp only [f8]
 rw [f27_ok c w]
 simp only [Option.bind_some]
 unfold quick
 cases h:bne (chk c).1 0 with
 | true=>
  have:beq (chk c).1 0=false:=by
   rw [cX,Bool.not_eq_true'] at h
   exact h
  rw [this]
  rfl
 | false=>
  have hp:=fun i hi=>pq_of w (chk_zero h).1 i hi
  rw [(chk_zero h).2,gA]
  simp only [cond_false,Bool.and_self,Bool.not_true]
  rw [f8_20_loop _ c w.len hp]
  rfl
end Go.Ev.L6
namespace Go.Ev.L6
open Go.Proofs
theorem loop_ex {A B τ:Type} {body:A→Option (A ⊕ B)} {mk:Nat→τ→A} {fin:τ→B} {I:Nat→τ→Prop} {n:Nat}
  (hs:∀ i t,i < n→I i t→∃ t',body (mk i t)=some (.inl (mk (i+1) t'))∧I (i+1) t')
  (hf:∀ t,I n t→body (mk n t)=some (.inr (fin t))) :
  ∀ k i t,i+k=n→I i t→∃ t',aA body (mk i t)=some (fin t')∧I n t'
 | 0,i,t,hi,ht=>by
  obtain rfl:i=n:=by omega
  rw [aM,hf t ht]
  exact ⟨t,rfl,ht⟩
 | k+1,i,t,hi,ht=>by
  obtain ⟨t',h1,h2⟩:=hs i t (by omega) ht
  rw [aM,h1]
  exact loop_ex hs hf k (i+1) t' (by omega) h2
theorem getD_set_eq {α:Type} {l:List α} {i:Nat} {v d:α} (h:i < l.length):(l.set i v).getD i d=v:=by
 rw [List.getD_eq_getElem?_getD,List.getElem?_set_self h]
 rfl
theorem getD_set_ne {α:Type} {l:List α} {i j:Nat} {v d:α} (h:i≠j):(l.set i v).getD j d=l.getD j d:=by
 rw [List.getD_eq_getElem?_getD,List.getElem?_set_ne h,← List.getD_eq_getElem?_getD]
theorem f72_16_loop:∀ (N:Nat) (k:Int) (out:ByteArray),k.toNat≤N→0≤k→(out.size:Int)+k≤2305843009213693952→∃ z:ByteArray,aA f72_16 (k,out,())=some (z,())∧(z.size:Int)≤2305843009213693952
 | 0,k,out,h,h0,h1=>by
  refine ⟨out,?_,by omega⟩
  rw [aM]
  simp only [f72_16]
  rw [aR (show k≤0 by omega)]
  rfl
 | N+1,k,out,h,h0,h1=>by
  by_cases hk:0 < k
  ·rw [aM]
   simp only [f72_16]
   have hs:∀ b,(bytesOf [b] ++out).size=out.size+1:=fun b=>by
    rw [ByteArray.size_append]
    show 1+out.size=out.size+1
    omega
   have hd:k.tdiv 10=k / 10:=Int.tdiv_eq_ediv_of_nonneg h0
   rw [bD hk,bH (show _≤9223372036854775807 by show 1+out.size≤9223372036854775807;omega),hd,aY (n:=k / 10) (by omega) (by omega)]
   exact f72_16_loop N (k / 10) _ (by omega) (by omega) (by rw [hs];omega)
  ·refine ⟨out,?_,by omega⟩
   rw [aM]
   simp only [f72_16]
   rw [aR (show k≤0 by omega)]
   rfl
theorem f72_ok (k:Int) (h0:0≤k) (h1:k≤2305843009213693952):∃ s,f72 (k,())=some ((s,()),()):=by
 simp only [f72]
 cases ble k 0 with
 | true=>exact ⟨_,rfl⟩
 | false=>
  obtain ⟨z,h2,h3⟩:=f72_16_loop k.toNat k ⟨#[]⟩ (Nat.le_refl _) h0 (by show ((0:Nat):Int)+k≤_;omega)
  simp only [cond_false]
  rw [h2]
  simp only [Option.bind_some]
  rw [bH (show _≤9223372036854775807 by show 1+z.size≤9223372036854775807;omega)]
  exact ⟨_,rfl⟩
theorem mk_ok {α:Type} {body:List α×Int×Int×Unit→Option ((List α×Int×Int×Unit) ⊕ (List α×Int×Unit))}
  (hs:∀ (l:List α) (k:Int) (i:Nat),l.length≤1048576→i < l.length→1≤k→k≤1152921504606846976→∃ l' k',body (l,k,(i:Int),())=some (.inl (l',k',((i+1:Nat):Int),()))∧l'.length=l.length∧k≤k'∧k'≤k+5)
  (hf:∀ l k,body (l,k,(l.length:Int),())=some (.inr (l,k,()))) (l:List α) (k:Int) (hl:l.length≤1048576) (h0:1≤k) (h1:k≤576460752303423488) :
  ∃ l' k',aA body (l,k,(0:Int),())=some (l',k',())∧l'.length=l.length∧k≤k'∧k'≤k+5*(l.length:Int):=by
 obtain ⟨t,h2,h3,h4,h5⟩:=loop_ex (body:=body) (mk:=fun i (t:List α×Int)=>(t.1,t.2,(i:Int),())) (fin:=fun t=>(t.1,t.2,())) (I:=fun i t=>t.1.length=l.length∧k≤t.2∧t.2≤k+5*(i:Int)) (n:=l.length) (fun i t hi ht=>by
  obtain ⟨a,b,d⟩:=ht
  obtain ⟨l',k',e1,e2,e3,e4⟩:=hs t.1 t.2 i (by omega) (by omega) (by omega) (by omega)
  exact ⟨(l',k'),e1,by show l'.length=_;omega,by show k≤k';omega,by show k'≤_;omega⟩) (fun t ht=>by
  have:=hf t.1 t.2
  rw [ht.1] at this
  exact this) l.length 0 (l,k) (by omega) ⟨rfl,Int.le_refl _,by show k≤k+5*((0:Nat):Int);omega⟩
 exact ⟨t.1,t.2,h2,h3,h4,h5⟩
theorem f73_ok (l:List S0) (k:Int) (hl:l.length≤1048576) (h0:1≤k) (h1:k≤576460752303423488):∃ l' k',f73 (l,k,())=some ((k',()),l',())∧l'.length=l.length∧k≤k'∧k'≤k+5*(l.length:Int):=by
 obtain ⟨l',k',h2,h3⟩:=mk_ok (body:=f73_8) (fun l k i hl hi h0 h1=>by
  simp only [f73_8,List.length_set]
  rw [aH hi,aB hi,aC hi hl,aY (n:=k+1) (by omega) (by omega),aY (n:=k+1+1) (by omega) (by omega)]
  exact ⟨_,_,rfl,by simp only [List.length_set],by omega,by omega⟩) (fun l k=>by
  simp only [f73_8]
  rw [aJ]
  rfl) l k hl h0 h1
 refine ⟨l',k',?_,h3⟩
 simp only [f73]
 rw [h2]
 rfl
theorem f52_ok (l:List S1) (k:Int) (hl:l.length≤1048576) (h0:1≤k) (h1:k≤576460752303423488):∃ l' k',f52 (l,k,())=some ((k',()),l',())∧l'.length=l.length∧k≤k'∧k'≤k+5*(l.length:Int):=by
 obtain ⟨l',k',h2,h3⟩:=mk_ok (body:=f52_8) (fun l k i hl hi h0 h1=>by
  obtain ⟨s,hs⟩:=f72_ok (k+1+1+1) (by omega) (by omega)
  simp only [f52_8,List.length_set]
  rw [aH hi,aB hi,aC hi hl,aY (n:=k+1) (by omega) (by omega),aY (n:=k+1+1) (by omega) (by omega),aY (n:=k+1+1+1) (by omega) (by omega),aY (n:=k+1+1+1+1) (by omega) (by omega),aY (n:=k+1+1+1+1+1) (by omega) (by omega),hs]
  exact ⟨_,_,rfl,by simp only [List.length_set],by omega,by omega⟩) (fun l k=>by
  simp only [f52_8]
  rw [aJ]
  rfl) l k hl h0 h1
 refine ⟨l',k',?_,h3⟩
 simp only [f52]
 rw [h2]
 rfl
theorem f74_ok (l:List S2) (k:Int) (hl:l.length≤1048576) (h0:1≤k) (h1:k≤576460752303423488):∃ l' k',f74 (l,k,())=some ((k',()),l',())∧l'.length=l.length∧k≤k'∧k'≤k+5*(l.length:Int):=by
 obtain ⟨l',k',h2,h3⟩:=mk_ok (body:=f74_8) (fun l k i hl hi h0 h1=>by
  simp only [f74_8,List.length_set]
  rw [aH hi,aB hi,aC hi hl,aY (n:=k+1) (by omega) (by omega),aY (n:=k+1+1) (by omega) (by omega),aY (n:=k+1+1+1) (by omega) (by omega),aY (n:=k+1+1+1+1) (by omega) (by omega),aY (n:=k+1+1+1+1+1) (by omega) (by omega)]
  exact ⟨_,_,rfl,by simp only [List.length_set],by omega,by omega⟩) (fun l k=>by
  simp only [f74_8]
  rw [aJ]
  rfl) l k hl h0 h1
 refine ⟨l',k',?_,h3⟩
 simp only [f74]
 rw [h2]
 rfl
theorem f75_ok (l:List S3) (k:Int) (hl:l.length≤1048576) (h0:1≤k) (h1:k≤576460752303423488):∃ l' k',f75 (l,k,())=some ((k',()),l',())∧l'.length=l.length∧k≤k'∧k'≤k+5*(l.length:Int):=by
 obtain ⟨l',k',h2,h3⟩:=mk_ok (body:=f75_8) (fun l k i hl hi h0 h1=>by
  obtain ⟨s,hs⟩:=f72_ok k (by omega) (by omega)
  simp only [f75_8,List.length_set]
  rw [aH hi,aB hi,aC hi hl,aY (n:=k+1) (by omega) (by omega),aY (n:=k+1+1) (by omega) (by omega),aY (n:=k+1+1+1) (by omega) (by omega),aY (n:=k+1+1+1+1) (by omega) (by omega),hs]
  exact ⟨_,_,rfl,by simp only [List.length_set],by omega,by omega⟩) (fun l k=>by
  simp only [f75_8]
  rw [aJ]
  rfl) l k hl h0 h1
 refine ⟨l',k',?_,h3⟩
 simp only [f75]
 rw [h2]
 rfl
theorem f31_step (l:List S9) (k:Int) (i:Nat) (hl:l.length≤1048576) (hi:i < l.length) (hp:PB (l.getD i P0)) (h0:1≤k) (h1:k≤288230376151711744):∃ p' k',f31_8 (l,k,(i:Int),())=some (.inl (l.set i p',k',((i+1:Nat):Int),()))∧k≤k'∧k'≤k+33554432:=by
 obtain ⟨p1,p2,p3,p4⟩:=hp
 obtain ⟨s,hs⟩:=f72_ok k (by omega) (by omega)
 obtain ⟨a,ka,a1,a2,a3,a4⟩:=f73_ok (l.getD i P0).2.2.2.2.2.1 (k+1+1+1+1+1) p1 (by omega) (by omega)
 obtain ⟨b,kb,b1,b2,b3,b4⟩:=f52_ok (l.getD i P0).2.2.2.2.2.2.1 ka p2 (by omega) (by omega)
 obtain ⟨d,kd,d1,d2,d3,d4⟩:=f74_ok (l.getD i P0).2.2.2.2.2.2.2.1 kb p3 (by omega) (by omega)
 obtain ⟨e,ke,e1,e2,e3,e4⟩:=f75_ok (l.getD i P0).2.2.2.2.2.2.2.2 kd p4 (by omega) (by omega)
 simp only [f31_8]
 rw [aH hi,hs,aC hi hl,aY (n:=k+1) (by omega) (by omega),aY (n:=k+1+1) (by omega) (by omega),aY (n:=k+1+1+1) (by omega) (by omega),aY (n:=k+1+1+1+1) (by omega) (by omega),aY (n:=k+1+1+1+1+1) (by omega) (by omega)]
 simp only [cond_true,Option.bind_some,put0,put1,put2,put3,put4,put5,put6,put7,put8,List.length_set,Int.toNat_natCast,List.set_set,getD_set_eq hi,aB hi]
 simp only [upd0,upd1,upd2,upd3,upd4,upd5,upd6,upd7,upd8]
 rw [a1]
 simp only [Option.bind_some]
 rw [b1]
 simp only [Option.bind_some]
 rw [d1]
 simp only [Option.bind_some]
 rw [e1]
 exact ⟨_,_,rfl,by show k≤ke;omega,by show ke≤k+33554432;omega⟩
theorem f31_ok (l:List S9) (hl:CB l):∃ l' k',f31 (l,(1:Int),())=some ((k',()),l',())∧1≤k'∧k'≤35184372088833:=by
 obtain ⟨t,h2,h3⟩:=loop_ex (body:=f31_8) (mk:=fun i (t:List S9×Int)=>(t.1,t.2,(i:Int),())) (fin:=fun t=>(t.1,t.2,())) (I:=fun i t=>t.1.length=l.length∧1≤t.2∧t.2≤1+33554432*(i:Int)∧∀ j,i≤j→t.1.getD j P0=l.getD j P0) (n:=l.length) (fun i t hi ht=>by
  obtain ⟨a,b,d,e⟩:=ht
  have hlen:=hl.len
  have hpb:PB (t.1.getD i P0):=by
   rw [e i (Nat.le_refl _)]
   exact hl.each _ (aW hi)
  obtain ⟨p',k',e1,e2,e3⟩:=f31_step t.1 t.2 i (by omega) (by omega) hpb (by omega) (by omega)
  refine ⟨(t.1.set i p',k'),e1,?_,?_,?_,fun j hj=>?_⟩
  ·show (t.1.set i p').length=_
   rw [List.length_set,a]
  ·show 1≤k'
   omega
  ·show k'≤_
   omega
  ·show (t.1.set i p').getD j P0=_
   rw [getD_set_ne (by omega)]
   exact e j (by omega)) (fun t ht=>by
  show f31_8 (t.1,t.2,(l.length:Int),())=_
  simp only [f31_8]
  rw [ht.1,aJ]
  rfl) l.length 0 (l,1) (by omega) ⟨rfl,Int.le_refl _,by show (1:Int)≤1+33554432*((0:Nat):Int);omega,fun j _=>rfl⟩
 refine ⟨t.1,t.2,?_,h3.2.1,by have:=h3.2.2.1;have:=hl.len;omega⟩
 simp only [f31]
 have h2':aA f31_8 (l,(1:Int),(0:Int),())=some (t.1,t.2,()):=h2
 rw [h2']
 rfl
theorem f11_ok (c:aN) (hc:CB c):∃ l' k',f11 ((c,()),(1:Int),())=some ((k',()),(l',()),())∧1≤k'∧k'≤35184372088833:=by
 obtain ⟨l',k',h1,h2⟩:=f31_ok c hc
 refine ⟨l',k',?_,h2⟩
 simp only [f11]
 rw [h1]
 rfl
def tup (k:Int):S7:=(k,k+1,k+2,k+3,k+4,k+5,k+6)
def ks (L:List S8) (k:Int):Nat→Int
 | 0=>k
 | j+1=>ks L k j+7*((L.getD j []).length:Int)
end Go.Ev.L6
