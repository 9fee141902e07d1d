/-
 The law FnExactPrepare in plain terms: loops that count up; sizes, copies, comparisons.
-/
import Derived.Test.YtgpjfmjceamonaaGreatDoorL6
import Derived.Test.YtgpjfmjceamonaaGreatDoorEvO
namespace Go.Ev.L6
open Go.Proofs
def run {τ ε:Type} (step:Nat→τ→τ ⊕ ε):Nat→Nat→τ→τ ⊕ ε
 | 0,_,t=> .inl t
 | k+1,i,t=>match step i t with
  | .inl t'=>run step k (i+1) t'
  | .inr e=> .inr e
theorem bW {A B τ ε:Type} {body:A→Option (A ⊕ B)} {mk:Nat→τ→A} {fin:τ ⊕ ε→B} {step:Nat→τ→τ ⊕ ε} {I:Nat→τ→Prop} {n:Nat}
  (hs:∀ i t,i < n→I i t→body (mk i t)=some (match step i t with | .inl t'=> .inl (mk (i+1) t') | .inr e=> .inr (fin (.inr e))))
  (hI:∀ i t t',i < n→I i t→step i t= .inl t'→I (i+1) t')
  (hf:∀ t,I n t→body (mk n t)=some (.inr (fin (.inl t)))) :
  ∀ k i t,i+k=n→I i t→aA body (mk i t)=some (fin (run step k i t))
 | 0,i,t,hi,ht=>by
  obtain rfl:i=n:=by omega
  rw [aM,hf t ht]
  rfl
 | k+1,i,t,hi,ht=>by
  rw [aM,hs i t (by omega) ht]
  unfold run
  cases hq:step i t with
  | inl t'=>exact bW hs hI hf k (i+1) t' (by omega) (hI i t t' (by omega) ht hq)
  | inr e=>rfl
def bJ {ε:Type} (test:Nat→Option ε):Nat→Nat→Option ε
 | 0,_=>none
 | k+1,i=>match test i with
  | none=>bJ test k (i+1)
  | some e=>some e
theorem loop_fnd {A B ε:Type} {body:A→Option (A ⊕ B)} (mk:Nat→A) (fin:Option ε→B) (test:Nat→Option ε) (n:Nat)
  (hs:∀ i,i < n→body (mk i)=some (match test i with | none=> .inl (mk (i+1)) | some e=> .inr (fin (some e))))
  (hf:body (mk n)=some (.inr (fin none))) :
  ∀ k i,i+k=n→aA body (mk i)=some (fin (bJ test k i))
 | 0,i,hi=>by
  obtain rfl:i=n:=by omega
  rw [aM,hf]
  rfl
 | k+1,i,hi=>by
  rw [aM,hs i (by omega)]
  unfold bJ
  cases hq:test i with
  | none=>exact loop_fnd mk fin test n hs hf k (i+1) (by omega)
  | some e=>rfl
theorem fnd_congr {ε:Type} {a b:Nat→Option ε} {n:Nat} (h:∀ i,i < n→a i=b i):∀ k i,i+k=n→bJ a k i=bJ b k i
 | 0,_,_=>rfl
 | k+1,i,hi=>by
  unfold bJ
  rw [h i (by omega),fnd_congr h k (i+1) (by omega)]
theorem hZ {ε:Type} {a:Nat→Option ε} {n:Nat}:∀ k i,i+k=n→(bJ a k i=none↔∀ j,i≤j→j < n→a j=none)
 | 0,i,hi=>⟨fun _ j h1 h2=>by omega,fun _=>rfl⟩
 | k+1,i,hi=>by
  unfold bJ
  cases hq:a i with
  | none=>
   refine (hZ k (i+1) (by omega)).trans ⟨fun h j h1 h2=>?_,fun h j h1 h2=>h j (by omega) h2⟩
   by_cases hj:j=i
   ·rw [hj];exact hq
   ·exact h j (by omega) h2
  | some e=>
   exact ⟨fun h=>(by cases h),fun h=>(by rw [h i (Nat.le_refl _) (by omega)] at hq;cases hq)⟩
theorem fX {α:Type} {l:List α} {i:Nat} {d:α} (h:i < l.length):l.getD i d=l[i]:=by
 rw [List.getD_eq_getElem?_getD,List.getElem?_eq_getElem h]
 rfl
theorem aW {α:Type} {l:List α} {i:Nat} {d:α} (h:i < l.length):l.getD i d∈l:=by
 rw [fX h]
 exact List.getElem_mem h
theorem aC {i n:Nat} (h:i < n) (hn:n≤1048576):wr ((i:Int)+1)=((i+1:Nat):Int):=by
 rw [aY (by omega) (by omega)]
 omega
theorem aB {i n:Nat} (h:i < n):aE (i:Int) (n:Int)=true:=aK (by omega) (by omega)
theorem aH {i n:Nat} (h:i < n):blt (i:Int) (n:Int)=true:=bD (by omega)
theorem aJ (n:Nat):blt (n:Int) (n:Int)=false:=aR (Int.le_refl _)
noncomputable def szB {α:Type} (g:α×Int×Unit→Option ((Int×Unit)×Unit)) (d:α) (x:List α×Int×Int×Unit):Option ((List α×Int×Int×Unit) ⊕ ((Int×Unit) ⊕ (Int×Unit))):=
 bif (blt x.2.2.1 (x.1.length:Int)) then (
  bif aE x.2.2.1 (x.1.length:Int) then
   (g (x.1.getD x.2.2.1.toNat d,x.2.1,())).bind fun r=>
   bif blt r.1.1 (0:Int) then some (.inr (.inr ((-1:Int),()))) else some (.inl (x.1,r.1.1,wr (x.2.2.1+(1:Int)),()))
  else none)
 else some (.inr (.inl (x.2.1,())))
noncomputable def szF {α:Type} (g:α×Int×Unit→Option ((Int×Unit)×Unit)) (d:α) (x:List α×Int×Unit):Option ((Int×Unit)×Unit):=
 let v4:=(wr (x.2.1 - (x.1.length:Int)))
 bif (blt v4 (0:Int)) then some (((-1:Int),()),())
 else (
  (aA (szB g d) (x.1,v4,(0:Int),())).bind fun y18=>match y18 with
   | .inl z14=>(
    some ((z14.1,()),()))
   | .inr z16=>(
    some ((z16.1,()),())))
theorem f107_sz:f107=szF f151 jI:=rfl
theorem f109_sz:f109=szF f152 Dz3:=rfl
theorem f23_sz:f23=szF f61 P0:=rfl
def Sz {α:Type} (g:α×Int×Unit→Option ((Int×Unit)×Unit)) (x:α) (Q:Prop):Prop:=
 ∀ n:Int,0≤n→n≤1048576→∃ r,g (x,n,())=some ((r,()),())∧(r < 0∨(0≤r∧r≤n∧Q))
theorem szB_loop {α:Type} {g:α×Int×Unit→Option ((Int×Unit)×Unit)} {d:α} {Q:α→Prop} (l:List α) (hl:l.length≤1048576) (hg:∀ x,x∈l→Sz g x (Q x)) :
  ∀ (k i:Nat) (left:Int),i+k=l.length→0≤left→left≤1048576→∃ r,aA (szB g d) (l,left,(i:Int),())=some r∧((∃ z,r= .inl (z,())∧0≤z∧z≤left∧∀ x,x∈l.drop i→Q x)∨r= .inr (-1,()))
 | 0,i,left,hi,h0,h1=>by
  refine ⟨.inl (left,()),?_, .inl ⟨left,rfl,h0,Int.le_refl _,fun x hx=>?_⟩⟩
  ·rw [aM]
   simp only [szB]
   rw [aR (show (l.length:Int)≤(i:Int) by omega)]
   rfl
  ·rw [List.drop_of_length_le (by omega)] at hx
   cases hx
 | k+1,i,left,hi,h0,h1=>by
  have hlt:i < l.length:=by omega
  obtain ⟨r,hr,hc⟩:=hg _ (aW (d:=d) hlt) left h0 h1
  rw [aM]
  simp only [szB,Int.toNat_natCast]
  rw [aH hlt,aB hlt,hr,aC hlt hl]
  simp only [cond_true,Option.bind_some]
  rcases hc with hc | ⟨hc1,hc2,hc3⟩
  ·rw [bD hc]
   exact ⟨_,rfl, .inr rfl⟩
  ·rw [aR hc1]
   obtain ⟨r',h2,h3⟩:=szB_loop (d:=d) l hl hg k (i+1) r (by omega) hc1 (by omega)
   refine ⟨r',h2,?_⟩
   rcases h3 with ⟨z,h4,h5,h6,h7⟩ | h4
   ·refine .inl ⟨z,h4,h5,by omega,fun x hx=>?_⟩
    rw [List.drop_eq_getElem_cons hlt,List.mem_cons] at hx
    rcases hx with rfl | hx
    ·rw [fX hlt] at hc3
     exact hc3
    ·exact h7 x hx
   ·exact .inr h4
theorem szF_ok {α:Type} {g:α×Int×Unit→Option ((Int×Unit)×Unit)} {d:α} {Q:α→Prop} (l:List α) (hl:l.length≤maxLen) (hg:∀ x,x∈l→Sz g x (Q x)) :
  Sz (szF g d) l (l.length≤1048576∧∀ x,x∈l→Q x):=by
 intro n h0 h1
 rw [show maxLen=9223372036854775807 from rfl] at hl
 simp only [szF]
 rw [aY (n:=n - (l.length:Int)) (by omega) (by omega)]
 by_cases h:n - (l.length:Int) < 0
 ·rw [bD h]
  exact ⟨-1,rfl, .inl (by omega)⟩
 ·rw [aR (Int.not_lt.1 h)]
  obtain ⟨r,h2,h3⟩:=szB_loop (d:=d) l (by omega) hg l.length 0 (n - l.length) (by omega) (by omega) (by omega)
  have h2':aA (szB g d) (l,n - (l.length:Int),(0:Int),())=some r:=h2
  simp only [cond_false]
  rw [h2']
  rcases h3 with ⟨z,h4,h5,h6,h7⟩ | h4
  ·subst h4
   exact ⟨z,rfl, .inr ⟨h5,by omega,by omega,h7⟩⟩
  ·subst h4
   exact ⟨-1,rfl, .inl (by omega)⟩
theorem sz_take {α:Type} {g:α×Int×Unit→Option ((Int×Unit)×Unit)} (m:Nat) (hm:m≤maxLen) (x:α) (h:∀ n,g (x,n,())=bif (blt (wr (n - (m:Int))) (0:Int)) then some (((-1:Int),()),()) else some ((wr (n - (m:Int)),()),())):Sz g x (m≤1048576):=by
 intro n h0 h1
 rw [show maxLen=9223372036854775807 from rfl] at hm
 rw [h,aY (n:=n - (m:Int)) (by omega) (by omega)]
 by_cases h:n - (m:Int) < 0
 ·rw [bD h]
  exact ⟨-1,rfl, .inl (by omega)⟩
 ·rw [aR (Int.not_lt.1 h)]
  exact ⟨_,rfl, .inr ⟨by omega,by omega,by omega⟩⟩
structure PB (p:S9):Prop where
 ups:p.2.2.2.2.2.1.length≤1048576
 consts:p.2.2.2.2.2.2.1.length≤1048576
 ins:p.2.2.2.2.2.2.2.1.length≤1048576
 named:p.2.2.2.2.2.2.2.2.length≤1048576
structure CB (c:aN):Prop where
 len:c.length≤1048576
 each:∀ p,p∈c→PB p
theorem f151_sz (v:S1) (h:v.2.2.2.1.size≤maxLen):Sz f151 v (v.2.2.2.1.size≤1048576):=sz_take _ h _ fun _=>rfl
theorem f152_sz (v:S3) (h:v.1.size≤maxLen):Sz f152 v (v.1.size≤1048576):=sz_take _ h _ fun _=>rfl
theorem f106_sz (v:List S0) (h:v.length≤maxLen):Sz f106 v (v.length≤1048576):=sz_take _ h _ fun _=>rfl
theorem f108_sz (v:List S2) (h:v.length≤maxLen):Sz f108 v (v.length≤1048576):=sz_take _ h _ fun _=>rfl
theorem f61_sz (p:S9) (h:Y4.bnd p):Sz f61 p (PB p):=by
 obtain ⟨b1,b2,b3,b4,b5,b6,b7,b8,b9⟩:=h
 intro n h0 h1
 have hn:p.1.size≤maxLen:=b1
 rw [show maxLen=9223372036854775807 from rfl] at hn
 simp only [f61]
 rw [aY (n:=n - (p.1.size:Int)) (by omega) (by omega)]
 by_cases h:n - (p.1.size:Int) < 0
 ·rw [bD h]
  exact ⟨-1,rfl, .inl (by omega)⟩
 rw [aR (Int.not_lt.1 h)]
 simp only [cond_false]
 obtain ⟨r,hr,hc⟩:=f106_sz p.2.2.2.2.2.1 b6.1 (n - (p.1.size:Int)) (by omega) (by omega)
 rw [hr]
 simp only [Option.bind_some]
 rcases hc with hc | ⟨c1,c2,c3⟩
 ·rw [bD hc]
  exact ⟨-1,rfl, .inl (by omega)⟩
 rw [aR c1,f107_sz]
 simp only [cond_false]
 obtain ⟨r2,hr,hc⟩:=szF_ok (d:=jI) p.2.2.2.2.2.2.1 b7.1 (fun x hx=>f151_sz x ((b7.2 x hx).2.2.2.1)) r (by omega) (by omega)
 rw [hr]
 simp only [Option.bind_some]
 rcases hc with hc | ⟨d1,d2,d3⟩
 ·rw [bD hc]
  exact ⟨-1,rfl, .inl (by omega)⟩
 rw [aR d1]
 simp only [cond_false]
 obtain ⟨r3,hr,hc⟩:=f108_sz p.2.2.2.2.2.2.2.1 b8.1 r2 (by omega) (by omega)
 rw [hr]
 simp only [Option.bind_some]
 rcases hc with hc | ⟨e1,e2,e3⟩
 ·rw [bD hc]
  exact ⟨-1,rfl, .inl (by omega)⟩
 rw [aR e1,f109_sz]
 simp only [cond_false]
 obtain ⟨r4,hr,hc⟩:=szF_ok (d:=Dz3) p.2.2.2.2.2.2.2.2 b9.1 (fun x hx=>f152_sz x ((b9.2 x hx).1)) r3 (by omega) (by omega)
 rw [hr]
 simp only [Option.bind_some]
 rcases hc with hc | ⟨g1,g2,g3⟩
 ·rw [bD hc]
  exact ⟨-1,rfl, .inl (by omega)⟩
 rw [aR g1]
 exact ⟨r4,rfl, .inr ⟨g1,by omega,c3,d3.1,e3,g3.1⟩⟩
theorem f5_ok (c:aN) (h:Y5.bnd c):∃ r,f5 (c,(1048576:Int),())=some ((r,()),())∧(r < 0∨(0≤r∧CB c∧r≤1048576)):=by
 obtain ⟨h1,h2⟩:=h
 simp only [f5]
 rw [f23_sz]
 obtain ⟨r,hr,hc⟩:=szF_ok (g:=f61) (d:=P0) c h1 (fun x hx=>f61_sz x (h2 x hx)) 1048576 (by omega) (by omega)
 rw [hr]
 simp only [Option.bind_some]
 rcases hc with hc | ⟨c1,c2,c3,c4⟩
 ·rw [bD hc]
  exact ⟨-1,rfl, .inl (by omega)⟩
 rw [aR c1]
 exact ⟨r,rfl, .inr ⟨c1,⟨c3,c4⟩,c2⟩⟩
noncomputable def cpB {α R:Type} (g:α×Unit→Option (R×Unit)) (cv:R→α) (d:α) (x:List α×List α×Int×Unit):Option ((List α×List α×Int×Unit) ⊕ (List α×Unit)):=
 bif (blt x.2.2.1 (x.1.length:Int)) then (
  bif (aE x.2.2.1 (x.1.length:Int)) then (
   (g ((x.1.getD x.2.2.1.toNat d),())).bind fun r9=>
   bif (aE x.2.2.1 (x.2.1.length:Int)) then (
    some (.inl (x.1,(x.2.1.set x.2.2.1.toNat (cv r9.1)),(wr (x.2.2.1+(1:Int))),())))
   else none)
  else none)
 else some (.inr (x.2.1,()))
noncomputable def cpF {α R:Type} (N:Nat) (g:α×Unit→Option (R×Unit)) (cv:R→α) (d:α) (x:List α×Unit):Option ((List α×Unit)×Unit):=
 let v2:=(x.1.length:Int)
 bif (inE v2 (N:Int)) then (
  (aA (cpB g cv d) (x.1,(List.replicate v2.toNat d),(0:Int),())).bind fun z12=>
  some ((z12.1,()),()))
 else none
theorem cpB_loop {α R:Type} {g:α×Unit→Option (R×Unit)} {cv:R→α} {d:α} (l:List α) (hl:l.length≤1048576) (hg:∀ x,x∈l→∃ r,g (x,())=some (r,())∧cv r=x):∀ (k i:Nat) (out:List α),i+k=l.length→out.length=l.length→out.take i=l.take i→aA (cpB g cv d) (l,out,(i:Int),())=some (l,())
 | 0,i,out,hi,ho,ht=>by
  rw [aM]
  simp only [cpB]
  rw [aR (show (l.length:Int)≤(i:Int) by omega)]
  have:out=l:=by
   rw [List.take_of_length_le (by omega),List.take_of_length_le (by omega)] at ht
   exact ht
  rw [this]
  rfl
 | k+1,i,out,hi,ho,ht=>by
  have hlt:i < l.length:=by omega
  obtain ⟨r,hr,hc⟩:=hg _ (aW (d:=d) hlt)
  rw [aM]
  simp only [cpB,Int.toNat_natCast]
  rw [aH hlt,aB hlt,hr,aC hlt hl]
  simp only [cond_true,Option.bind_some]
  rw [aB (show i < out.length by omega),hc]
  refine cpB_loop (d:=d) l hl hg k (i+1) _ (by omega) (by rw [List.length_set];exact ho) ?_
  apply List.ext_getElem?
  intro j
  rw [List.getElem?_take,List.getElem?_take]
  split
  ·rename_i hj
   rw [List.getElem?_set]
   split
   ·rename_i hij
    subst hij
    rw [if_pos (by omega),List.getD_eq_getElem?_getD,List.getElem?_eq_getElem hlt]
    rfl
   ·have h1:j < i:=by omega
    have:(out.take i)[j]?=(l.take i)[j]?:=by rw [ht]
    rw [List.getElem?_take,List.getElem?_take,if_pos h1,if_pos h1] at this
    exact this
  ·rfl
theorem cpF_ok {α R:Type} {N:Nat} {g:α×Unit→Option (R×Unit)} {cv:R→α} {d:α} (l:List α) (hN:1048576≤N) (hl:l.length≤1048576) (hg:∀ x,x∈l→∃ r,g (x,())=some (r,())∧cv r=x):cpF N g cv d (l,())=some ((l,()),()):=by
 simp only [cpF]
 rw [cC (show (0≤(l.length:Int)) by omega) (by omega)]
 have h:aA (cpB g cv d) (l,List.replicate (l.length:Int).toNat d,(0:Int),())=some (l,()):=cpB_loop l hl hg l.length 0 (List.replicate l.length d) (by omega) (by rw [List.length_replicate]) (by simp)
 simp only [cond_true]
 rw [h]
 rfl
theorem f122_cp:f122=cpF 17592186044416 f163 (fun r=>r.1) U0:=rfl
theorem f123_cp:f123=cpF 5864062014805 f164 (fun r=>r.1) jI:=rfl
theorem f124_cp:f124=cpF 7036874417766 f165 (fun r=>r.1) aT:=rfl
theorem f125_cp:f125=cpF 7036874417766 f166 (fun r=>r.1) Dz3:=rfl
theorem f26_cp:f26=cpF 1954687338268 f66 (fun r=>(r.1.1,r.1.2.1,r.1.2.2.1,r.1.2.2.2.1,r.1.2.2.2.2.1,r.1.2.2.2.2.2.1,r.1.2.2.2.2.2.2.1,r.1.2.2.2.2.2.2.2.1,r.1.2.2.2.2.2.2.2.2.1)) P0:=rfl
theorem f7_ok (c:aN) (h:CB c):f7 (c,())=some (((c,()),()),()):=by
 simp only [f7]
 rw [f26_cp,cpF_ok c (by omega) h.len fun p hp=>?_]
 ·rfl
 ·have hb:=h.each p hp
  refine ⟨((p.1,p.2.1,p.2.2.1,p.2.2.2.1,p.2.2.2.2.1,p.2.2.2.2.2.1,p.2.2.2.2.2.2.1,p.2.2.2.2.2.2.2.1,p.2.2.2.2.2.2.2.2,()),()),?_,rfl⟩
  simp only [f66]
  rw [f122_cp,cpF_ok _ (by omega) hb.ups (fun x _=>⟨(x,()),rfl,rfl⟩),f123_cp,cpF_ok _ (by omega) hb.consts (fun x _=>⟨(x,()),rfl,rfl⟩),f124_cp,cpF_ok _ (by omega) hb.ins (fun x _=>⟨(x,()),rfl,rfl⟩),f125_cp,cpF_ok _ (by omega) hb.named (fun x _=>⟨(x,()),rfl,rfl⟩)]
  rfl
noncomputable def eqB {α:Type} (g:α×α×Unit→Option ((Bool×Unit)×Unit)) (d:α) (x:List α×List α×Int×Unit):Option ((List α×List α×Int×Unit) ⊕ (Unit ⊕ (Bool×Unit))):=
 bif (blt x.2.2.1 (x.1.length:Int)) then (
  bif (aE x.2.2.1 (x.1.length:Int)) then (
   bif (aE x.2.2.1 (x.2.1.length:Int)) then (
    (g ((x.1.getD x.2.2.1.toNat d),(x.2.1.getD x.2.2.1.toNat d),())).bind fun r11=>
    bif (!r11.1.1) then some (.inr (.inr (false,())))
    else some (.inl (x.1,x.2.1,(wr (x.2.2.1+(1:Int))),())))
   else none)
  else none)
 else some (.inr (.inl ()))
noncomputable def eqF {α:Type} (g:α×α×Unit→Option ((Bool×Unit)×Unit)) (d:α) (x:List α×List α×Unit):Option ((Bool×Unit)×Unit):=
 bif (bne (x.1.length:Int) (x.2.1.length:Int)) then some ((false,()),())
 else (
  (aA (eqB g d) (x.1,x.2.1,(0:Int),())).bind fun y17=>match y17 with
   | .inl _=>(
    some ((true,()),()))
   | .inr z15=>(
    some ((z15.1,()),())))
def Eqs {α:Type} (g:α×α×Unit→Option ((Bool×Unit)×Unit)) (x:α):Prop:=g (x,x,())=some ((true,()),())
theorem eqF_ok {α:Type} {g:α×α×Unit→Option ((Bool×Unit)×Unit)} {d:α} (l:List α) (hl:l.length≤1048576) (hg:∀ x,x∈l→Eqs g x):Eqs (eqF g d) l:=by
 unfold Eqs
 simp only [eqF]
 have h:aA (eqB g d) (l,l,(0:Int),())=some (.inl ()):=by
  refine (loop_fnd (body:=eqB g d) (fun i=>(l,l,(i:Int),())) (fun (o:Option Unit)=>match o with | none=> .inl () | some _=> .inr (false,())) (fun _=>none) l.length (fun i hi=>?_) ?_ l.length 0 (by omega)).trans ?_
  ·simp only [eqB,Int.toNat_natCast]
   rw [aH hi,aB hi,show g (l.getD i d,l.getD i d,())=_ from hg _ (aW hi),aC hi hl]
   rfl
  ·simp only [eqB]
   rw [aJ]
   rfl
  ·rw [(hZ (a:=fun _=>(none:Option Unit)) (n:=l.length) l.length 0 (by omega)).2 (fun _ _ _=>rfl)]
 rw [h,aS]
 rfl
theorem f136_eq:f136=eqF f176 U0:=rfl
theorem f44_eq:f44=eqF f95 jI:=rfl
theorem f137_eq:f137=eqF f177 aT:=rfl
theorem f138_eq:f138=eqF f178 Dz3:=rfl
theorem f30_eq:f30=eqF f71 P0:=rfl
theorem f176_ok (x:S0):Eqs f176 x:=by
 unfold Eqs
 simp only [f176]
 rw [gR,aS]
 rfl
theorem f177_ok (x:S2):Eqs f177 x:=by
 unfold Eqs
 simp only [f177]
 rw [aS,aS,aS,aS,aS]
 rfl
theorem f178_ok (x:S3):Eqs f178 x:=by
 unfold Eqs
 simp only [f178]
 rw [dW,aS,aS,aS]
 rfl
theorem order_zero (a:Nat) (h:a < 18446744073709551616) (ho:dX a 0=some .eq):a=0∨a=9223372036854775808:=by
 have hr:FloatKind.f64.format.read 0= .number false 0 (FloatKind.f64.format.leastPlace):=by kernel_rfl
 have hw:FloatKind.f64.format.signWeight=9223372036854775808:=by kernel_rfl
 have hb:0 < FloatKind.f64.format.binade:=Nat.two_pow_pos _
 unfold dX Ieee.Format.order at ho
 rw [hr] at ho
 have key:∀ (s:Bool) (m:Nat) (i j:Int),(Ieee.Datum.number s m i).order (Ieee.Datum.number false 0 j)=some .eq→m=0:=by
  intro s m i j hq
  have h1:compare (Ieee.signed s m (i - min i j).toNat) (Ieee.signed false 0 (j - min i j).toNat)= .eq:=Option.some.inj hq
  have h2:=Int.compare_eq_eq.1 h1
  have h3:Ieee.signed false 0 (j - min i j).toNat=0:=by
   unfold Ieee.signed
   simp
  rw [h3] at h2
  unfold Ieee.signed at h2
  have h4:m <<< (i - min i j).toNat=0:=by
   cases s
   ·simpa using h2
   ·simpa using h2
  rw [Nat.shiftLeft_eq] at h4
  rcases Nat.mul_eq_zero.1 h4 with h5 | h5
  ·exact h5
  ·exact absurd h5 (Nat.ne_of_gt (Nat.two_pow_pos _))
 unfold Ieee.Format.read at ho
 rw [hw] at ho
 simp only [] at ho
 split at ho
 ·have:=key _ _ _ _ ho
  omega
 ·split at ho
  ·have:=key _ _ _ _ ho
   omega
  ·split at ho
   ·cases hs:(a / 9223372036854775808 % 2==1)<;>rw [hs] at ho<;>cases ho
   ·cases ho
theorem f145_ok (a:Nat) (h:a < 18446744073709551616):Eqs f145 a:=by
 unfold Eqs
 simp only [f145]
 cases h1:(dX a a !=some .eq) with
 | true=>rfl
 | false=>
  cases h2:(dX a 0==some .eq) with
  | false=>
   have:(dX a a==some .eq)=true:=by
    simpa [bne] using h1
   simp only [Bool.or_self,Bool.and_self,cond_false,this]
  | true=>
   simp only [Bool.or_self,Bool.and_self,cond_false,cond_true]
   rcases order_zero a h (eq_of_beq h2) with rfl | rfl
   ·kernel_rfl
   ·kernel_rfl
theorem f95_ok (x:S1) (h:Y1.bnd x):Eqs f95 x:=by
 have hf:x.2.2.1 < 18446744073709551616:=of_decide_eq_true h.2.2.1
 unfold Eqs
 simp only [f95]
 rw [aS,aS,show f145 (x.2.2.1,x.2.2.1,())=_ from f145_ok _ hf,dW,aS]
 rfl
theorem f71_ok (p:S9) (h:Y4.bnd p) (hb:PB p):Eqs f71 p:=by
 obtain ⟨b1,b2,b3,b4,b5,b6,b7,b8,b9⟩:=h
 unfold Eqs
 simp only [f71]
 rw [dW,aS,aS,gR,aS,f136_eq,show eqF f176 _ (p.2.2.2.2.2.1,p.2.2.2.2.2.1,())=_ from eqF_ok _ hb.ups (fun x _=>f176_ok x),f44_eq,show eqF f95 _ (p.2.2.2.2.2.2.1,p.2.2.2.2.2.2.1,())=_ from eqF_ok _ hb.consts (fun x hx=>f95_ok x (b7.2 x hx)),f137_eq,show eqF f177 _ (p.2.2.2.2.2.2.2.1,p.2.2.2.2.2.2.2.1,())=_ from eqF_ok _ hb.ins (fun x _=>f177_ok x),f138_eq,show eqF f178 _ (p.2.2.2.2.2.2.2.2,p.2.2.2.2.2.2.2.2,())=_ from eqF_ok _ hb.named (fun x _=>f178_ok x)]
 rfl
theorem f10_ok (c:aN) (h:Y5.bnd c) (hb:CB c):f10 (c,c,())=some ((true,()),()):=by
 simp only [f10]
 rw [f30_eq,show eqF f71 _ (c,c,())=_ from eqF_ok c hb.len (fun p hp=>f71_ok p (h.2 p hp) (hb.each p hp))]
 rfl
end Go.Ev.L6
namespace Go.Ev.L6
open Go.Proofs
theorem jB (c a b:Bool):bK c (some a) (some b)=some (bif c then a else b):=rfl
theorem aP {A B ε:Type} {body:A→Option (A ⊕ B)} (mk:Nat→A) (fin:Option ε→B) (test:Nat→Option ε) (n:Nat)
  (hs:∀ i,i < n→body (mk i)=some (match test i with | none=> .inl (mk (i+1)) | some e=> .inr (fin (some e))))
  (hf:body (mk n)=some (.inr (fin none))):aA body (mk 0)=some (fin (bJ test n 0)):=loop_fnd mk fin test n hs hf n 0 (by omega)
def HD (p:S9) (i:Nat):Prop:=
 (p.1.size:Int)≤40∧(0≤p.2.1∧p.2.1≤100000)∧(0≤p.2.2.2.2.1∧p.2.2.2.2.1≤250)∧(0≤p.2.2.1∧p.2.2.1≤(bif p.2.2.2.1 then wr (p.2.2.2.2.1 - 1) else p.2.2.2.2.1))∧(p.2.2.2.2.2.1.length:Int)≤250∧(p.2.2.2.2.2.2.1.length:Int)≤500∧(0 < (i:Int)∨(p.2.2.1=0∧(p.2.2.2.2.2.1.length:Int)=0))
instance (p:S9) (i:Nat):Decidable (HD p i):=by unfold HD;infer_instance
theorem f153_ok (c:aN) (i:Nat) (hi:i < c.length):f153 (c,(i:Int),())=some ((decide (HD (c.getD i P0) i),()),()):=by
 simp only [f153,f157,Option.bind_some,jB,Int.toNat_natCast]
 rw [aB hi]
 simp only [cond_true]
 generalize c.getD i P0=p
 refine congrArg (fun b=>some ((b,()),())) ?_
 rw [Bool.eq_iff_iff,decide_eq_true_iff]
 unfold HD
 cases p.2.2.2.1<;>
 simp only [Bool.and_eq_true,Bool.or_eq_true,fZ,bS,aL,Bool.cond_false_right,cond_true,cond_false]<;>
 omega
def tHd (c:aN) (i:Nat):Option aZ:=if HD (c.getD i P0) i then none else some (2,(i:Int),0)
theorem f110_40_loop (c:aN) (z:aZ) (hn:c.length≤1048576) :
  aA f110_40 ((c,()),(z,()),(c.length:Int),(0:Int),())=some (match bJ (tHd c) c.length 0 with | none=> .inl ((c,()),(z,()),()) | some e=> .inr ((e,()),())):=by
 refine aP (body:=f110_40) (fun i=>((c,()),(z,()),(c.length:Int),(i:Int),())) (fun o:Option aZ=>match o with | none=> .inl ((c,()),(z,()),()) | some e=> .inr ((e,()),())) (tHd c) c.length (fun i hi=>?_) ?_
 ·simp only [f110_40]
  rw [aH hi,f153_ok c i hi,aC hi hn]
  simp only [cond_true,Option.bind_some,f112,tHd]
  by_cases h:HD (c.getD i P0) i
  ·rw [if_pos h,decide_eq_true h]
   rfl
  ·rw [if_neg h,decide_eq_false h]
   rfl
 ·simp only [f110_40]
  rw [aJ]
  rfl
theorem f67_40_loop (c:aN) (z:aZ) (hn:c.length≤1048576) :
  aA f67_40 ((c,()),(z,()),c,(c.length:Int),(0:Int),())=some (match bJ (tHd c) c.length 0 with | none=> .inl ((c,()),(z,()),()) | some e=> .inr ((e,()),())):=by
 refine aP (body:=f67_40) (fun i=>((c,()),(z,()),c,(c.length:Int),(i:Int),())) (fun o:Option aZ=>match o with | none=> .inl ((c,()),(z,()),()) | some e=> .inr ((e,()),())) (tHd c) c.length (fun i hi=>?_) ?_
 ·simp only [f67_40,f126,Option.bind_some,jB,Int.toNat_natCast]
  rw [aH hi,aB hi,aC hi hn]
  simp only [cond_true,tHd]
  generalize c.getD i P0=p
  have key:(((((bif (bif (bif blt 40 (p.1.size:Int) then true else !(ble 0 p.2.1 && ble p.2.1 100000)) then true else !(ble 0 p.2.2.2.2.1 && ble p.2.2.2.2.1 250)) then true else !(ble 0 p.2.2.1 && ble p.2.2.1 (bif p.2.2.2.1 then wr (p.2.2.2.2.1 - 1) else p.2.2.2.2.1))) || (blt 250 (p.2.2.2.2.2.1.length:Int))) || (blt 500 (p.2.2.2.2.2.2.1.length:Int))) || ((beq (i:Int) 0) && ((blt 0 p.2.2.1) || (blt 0 (p.2.2.2.2.2.1.length:Int)))))=!decide (HD p i)):=by
   rw [Bool.eq_iff_iff,Bool.not_eq_true',decide_eq_false_iff_not]
   unfold HD
   cases p.2.2.2.1<;>
   simp only [Bool.and_eq_true,Bool.or_eq_true,fZ,bS,aL,Bool.cond_true_left,cond_true,cond_false,Bool.not_eq_true',← Bool.not_eq_true]<;>
   omega
  rw [key]
  by_cases h:HD p i
  ·rw [if_pos h,decide_eq_true h]
   rfl
  ·rw [if_neg h,decide_eq_false h]
   rfl
 ·simp only [f67_40]
  rw [aJ]
  rfl
theorem ex_cond {c:Bool} {x y:Option ((Bool×Unit)×Unit)} (hx:∃ b,x=some ((b,()),())) (hy:∃ b,y=some ((b,()),())):∃ b,(bif c then x else y)=some ((b,()),()):=by
 cases c
 ·exact hy
 ·exact hx
theorem f127_some (v:S1):∃ b,f127 (v,())=some ((b,()),()):=by
 simp only [f127,f167,Option.bind_some]
 repeat (first | exact ⟨_,rfl⟩ | refine ex_cond ⟨_,rfl⟩ ?_)
noncomputable def vOk (v:S1):Bool:=match f127 (v,()) with
 | some r=>r.1.1
 | none=>false
theorem f127_ok (v:S1):f127 (v,())=some ((vOk v,()),()):=by
 obtain ⟨b,hb⟩:=f127_some v
 unfold vOk
 rw [hb]
theorem f183_f32:f183=f127:=rfl
theorem vOk_flt (v:S1) (h:vOk v=true) (hk:beq v.1 3=false):(dX v.2.2.1 (0:Nat)==some .eq)=true:=by
 cases hz:(dX v.2.2.1 (0:Nat)==some .eq) with
 | true=>rfl
 | false=>
  exfalso
  unfold vOk at h
  simp only [f127,f167,hz,hk,Bool.or_false,Bool.and_false,Bool.false_or,Bool.false_and,Option.bind_some,cond_false] at h
  revert h
  cases beq v.1 0<;>cases beq v.1 1<;>cases beq v.1 2<;>cases beq v.1 4<;>cases (beq v.1 5 || (beq v.1 6 || beq v.1 7))<;>cases beq v.1 8<;>exact fun h=>Bool.noConfusion h
noncomputable def cB (v:S1):Bool:=!(((((!vOk v) || beq v.1 5) || beq v.1 6) || beq v.1 7) || (beq v.1 3 && (dX v.2.2.1 v.2.2.1 !=some .eq)) || (bne v.1 3 && blt (wr (v.2.2.1:Int)) 0))
theorem cX (a b:Int):bne a b=!(beq a b):=rfl
theorem f154_ok (v:S1) (hf:v.2.2.1 < 18446744073709551616):f154 (v,())=some ((cB v,()),()):=by
 simp only [f154,f183_f32]
 rw [f127_ok]
 simp only [Option.bind_some]
 unfold cB
 cases h0:((((!vOk v) || beq v.1 5) || beq v.1 6) || beq v.1 7) with
 | true=>rfl
 | false=>
  rw [cX]
  cases h3:beq v.1 3 with
  | true=>
   simp only [cond_false,Bool.not_true,Bool.false_or,Bool.true_and,Bool.false_and,Bool.or_false,_root_.bne,Bool.not_not]
  | false=>
   have hv:vOk v=true:=by
    simp only [Bool.or_eq_false_iff,Bool.not_eq_false'] at h0
    exact h0.1.1.1
   have hz:=vOk_flt v hv h3
   clear hv h0
   simp only [cond_false,Bool.false_or,Bool.false_and,Bool.not_false,Bool.true_and,cond_true]
   generalize v.2.2.1=a at hf hz
   rcases order_zero a hf (eq_of_beq hz) with rfl | rfl
   ·show _=_;kernel_rfl
   ·show _=_;kernel_rfl
noncomputable def tCs (pi:Nat) (vs:List S1) (i:Nat):Option aZ:=bif cB (vs.getD i jI) then none else some (3,(pi:Int),(i:Int))
noncomputable def tCo (c:aN) (i:Nat):Option aZ:=bJ (tCs i (c.getD i P0).2.2.2.2.2.2.1) (c.getD i P0).2.2.2.2.2.2.1.length 0
theorem f110_76_loop (c c':aN) (z:aZ) (pi a b:Int) (vs:List S1) (pn:Nat) (hpi:pi=(pn:Int)) (hl:vs.length≤1048576) (hv:∀ v,v∈vs→v.2.2.1 < 18446744073709551616) :
  aA f110_76 ((c,()),(z,()),pi,c',a,b,vs,(vs.length:Int),(0:Int),())=some (match bJ (tCs pn vs) vs.length 0 with | none=> .inl ((c,()),(z,()),c',a,b,()) | some e=> .inr ((e,()),())):=by
 subst hpi
 refine aP (body:=f110_76) (fun i=>((c,()),(z,()),(pn:Int),c',a,b,vs,(vs.length:Int),(i:Int),())) (fun o:Option aZ=>match o with | none=> .inl ((c,()),(z,()),c',a,b,()) | some e=> .inr ((e,()),())) (tCs pn vs) vs.length (fun i hi=>?_) ?_
 ·simp only [f110_76,Int.toNat_natCast]
  rw [aH hi,aB hi,aC hi hl,f154_ok _ (hv _ (aW hi))]
  simp only [cond_true,Option.bind_some,f112,tCs]
  cases cB (vs.getD i jI)<;>rfl
 ·simp only [f110_76]
  rw [aJ]
  rfl
theorem f67_88_loop (c c':aN) (z:aZ) (pi a b:Int) (vs:List S1) (pn:Nat) (hpi:pi=(pn:Int)) (hl:vs.length≤1048576) :
  aA f67_88 ((c,()),(z,()),pi,c',a,b,vs,(vs.length:Int),(0:Int),())=some (match bJ (tCs pn vs) vs.length 0 with | none=> .inl ((c,()),(z,()),c',a,b,()) | some e=> .inr ((e,()),())):=by
 subst hpi
 refine aP (body:=f67_88) (fun i=>((c,()),(z,()),(pn:Int),c',a,b,vs,(vs.length:Int),(i:Int),())) (fun o:Option aZ=>match o with | none=> .inl ((c,()),(z,()),c',a,b,()) | some e=> .inr ((e,()),())) (tCs pn vs) vs.length (fun i hi=>?_) ?_
 ·simp only [f67_88,Int.toNat_natCast]
  rw [aH hi,aB hi,aC hi hl,f127_ok]
  simp only [cond_true,Option.bind_some,f128,f129,jB,tCs,cB]
  generalize vs.getD i jI=v
  cases ((((!vOk v) || beq v.1 5) || beq v.1 6) || beq v.1 7)<;>cases beq v.1 3<;>cases (dX v.2.2.1 v.2.2.1 !=some .eq)<;>cases bne v.1 3<;>cases blt (wr (v.2.2.1:Int)) 0<;>rfl
 ·simp only [f67_88]
  rw [aJ]
  rfl
theorem f110_64_loop (c:aN) (z:aZ) (hn:c.length≤1048576) (hl:∀ p,p∈c→p.2.2.2.2.2.2.1.length≤1048576) (hv:∀ p,p∈c→∀ v,v∈p.2.2.2.2.2.2.1→v.2.2.1 < 18446744073709551616) :
  aA f110_64 ((c,()),(z,()),c,(c.length:Int),(0:Int),())=some (match bJ (tCo c) c.length 0 with | none=> .inl ((c,()),(z,()),()) | some e=> .inr ((e,()),())):=by
 refine aP (body:=f110_64) (fun i=>((c,()),(z,()),c,(c.length:Int),(i:Int),())) (fun o:Option aZ=>match o with | none=> .inl ((c,()),(z,()),()) | some e=> .inr ((e,()),())) (tCo c) c.length (fun i hi=>?_) ?_
 ·simp only [f110_64,Int.toNat_natCast]
  rw [aH hi,aB hi,f110_76_loop _ _ _ _ _ _ _ i rfl (hl _ (aW hi)) (hv _ (aW hi))]
  simp only [cond_true,Option.bind_some,tCo]
  cases bJ (tCs i (c.getD i P0).2.2.2.2.2.2.1) (c.getD i P0).2.2.2.2.2.2.1.length 0 with
  | none=>
   simp only []
   rw [aC hi hn]
  | some e=>rfl
 ·simp only [f110_64]
  rw [aJ]
  rfl
theorem f67_76_loop (c:aN) (z:aZ) (hn:c.length≤1048576) (hl:∀ p,p∈c→p.2.2.2.2.2.2.1.length≤1048576) :
  aA f67_76 ((c,()),(z,()),c,(c.length:Int),(0:Int),())=some (match bJ (tCo c) c.length 0 with | none=> .inl ((c,()),(z,()),()) | some e=> .inr ((e,()),())):=by
 refine aP (body:=f67_76) (fun i=>((c,()),(z,()),c,(c.length:Int),(i:Int),())) (fun o:Option aZ=>match o with | none=> .inl ((c,()),(z,()),()) | some e=> .inr ((e,()),())) (tCo c) c.length (fun i hi=>?_) ?_
 ·simp only [f67_76,Int.toNat_natCast]
  rw [aH hi,aB hi,f67_88_loop _ _ _ _ _ _ _ i rfl (hl _ (aW hi))]
  simp only [cond_true,Option.bind_some,tCo]
  cases bJ (tCs i (c.getD i P0).2.2.2.2.2.2.1) (c.getD i P0).2.2.2.2.2.2.1.length 0 with
  | none=>
   simp only []
   rw [aC hi hn]
  | some e=>rfl
 ·simp only [f67_76]
  rw [aJ]
  rfl
theorem fnd_upto {ε:Type} {a b:Nat→Option ε} {m:Nat} (h:∀ i,i≤m→a i=b i) (hm:a m≠none):∀ k i,i≤m→m < i+k→bJ a k i=bJ b k i
 | 0,i,h1,h2=>by omega
 | k+1,i,h1,h2=>by
  unfold bJ
  rw [← h i h1]
  cases hq:a i with
  | some e=>rfl
  | none=>
   have:i≠m:=fun hh=>hm (hh ▸ hq)
   exact fnd_upto h hm k (i+1) (by omega) (by omega)
def NM (p:S9) (n:S3):Prop:=(1≤(n.1.size:Int)∧(n.1.size:Int)≤40)∧(0≤n.2.1∧n.2.1≤wr (p.2.2.2.2.1 - 1))∧0≤n.2.2.1∧n.2.2.1≤n.2.2.2∧n.2.2.2≤(p.2.2.2.2.2.2.2.1.length:Int)
instance (p:S9) (n:S3):Decidable (NM p n):=by unfold NM;infer_instance
def tNm (pi:Nat) (p:S9) (i:Nat):Option aZ:=if NM p (p.2.2.2.2.2.2.2.2.getD i Dz3)∧i < 500 then none else some (4,(pi:Int),(i:Int))
def tNm' (pi:Nat) (p:S9) (i:Nat):Option aZ:=if NM p (p.2.2.2.2.2.2.2.2.getD i Dz3)∧i≠500 then none else some (4,(pi:Int),(i:Int))
theorem tNm_fnd (pi:Nat) (p:S9) (n:Nat):bJ (tNm' pi p) n 0=bJ (tNm pi p) n 0:=by
 have hle:∀ i,i≤500→tNm' pi p i=tNm pi p i:=by
  intro i hi
  unfold tNm tNm'
  by_cases h:NM p (p.2.2.2.2.2.2.2.2.getD i Dz3)∧i < 500
  ·rw [if_pos h,if_pos ⟨h.1,by omega⟩]
  ·rw [if_neg h,if_neg fun hh=>h ⟨hh.1,by have:=hh.2;omega⟩]
 by_cases h:n≤500
 ·exact fnd_congr (n:=n) (fun i hi=>hle i (by omega)) n 0 (by omega)
 ·refine fnd_upto hle ?_ n 0 (by omega) (by omega)
  unfold tNm'
  rw [if_neg (fun hh=>hh.2 rfl)]
  exact fun hh=>(by cases hh)
theorem f155_ok (p:S9) (i:Nat) (hi:i < p.2.2.2.2.2.2.2.2.length):f155 (p,(i:Int),())=some ((decide (NM p (p.2.2.2.2.2.2.2.2.getD i Dz3)∧i < 500),()),()):=by
 simp only [f155,f157,Option.bind_some,jB,Int.toNat_natCast]
 rw [aB hi]
 simp only [cond_true]
 generalize p.2.2.2.2.2.2.2.2.getD i Dz3=n
 refine congrArg (fun b=>some ((b,()),())) ?_
 rw [Bool.eq_iff_iff,decide_eq_true_iff]
 unfold NM
 simp only [Bool.and_eq_true,fZ,bS,Bool.cond_false_right]
 omega
def tNa (c:aN) (i:Nat):Option aZ:=bJ (tNm i (c.getD i P0)) (c.getD i P0).2.2.2.2.2.2.2.2.length 0
theorem f110_116_loop (c c':aN) (z:aZ) (p:S9) (pi a b:Int) (pn:Nat) (hpi:pi=(pn:Int)) (hl:p.2.2.2.2.2.2.2.2.length≤1048576) :
  aA f110_116 ((c,()),(z,()),pi,(p,()),c',a,b,(p.2.2.2.2.2.2.2.2.length:Int),(0:Int),())=some (match bJ (tNm pn p) p.2.2.2.2.2.2.2.2.length 0 with | none=> .inl ((c,()),(z,()),c',a,b,()) | some e=> .inr ((e,()),())):=by
 subst hpi
 refine aP (body:=f110_116) (fun i=>((c,()),(z,()),(pn:Int),(p,()),c',a,b,(p.2.2.2.2.2.2.2.2.length:Int),(i:Int),())) (fun o:Option aZ=>match o with | none=> .inl ((c,()),(z,()),c',a,b,()) | some e=> .inr ((e,()),())) (tNm pn p) p.2.2.2.2.2.2.2.2.length (fun i hi=>?_) ?_
 ·simp only [f110_116]
  rw [aH hi,f155_ok p i hi,aC hi hl]
  simp only [cond_true,Option.bind_some,f112,tNm]
  by_cases h:NM p (p.2.2.2.2.2.2.2.2.getD i Dz3)∧i < 500
  ·rw [if_pos h,decide_eq_true h]
   rfl
  ·rw [if_neg h,decide_eq_false h]
   rfl
 ·simp only [f110_116]
  rw [aJ]
  rfl
theorem f67_128_loop (c c':aN) (z:aZ) (p:S9) (pi a b:Int) (pn:Nat) (hpi:pi=(pn:Int)) (hl:p.2.2.2.2.2.2.2.2.length≤1048576) :
  aA f67_128 ((c,()),(z,()),pi,(p,()),c',a,b,p.2.2.2.2.2.2.2.2,(p.2.2.2.2.2.2.2.2.length:Int),(0:Int),())=some (match bJ (tNm pn p) p.2.2.2.2.2.2.2.2.length 0 with | none=> .inl ((c,()),(z,()),c',a,b,()) | some e=> .inr ((e,()),())):=by
 subst hpi
 rw [← tNm_fnd]
 refine aP (body:=f67_128) (fun i=>((c,()),(z,()),(pn:Int),(p,()),c',a,b,p.2.2.2.2.2.2.2.2,(p.2.2.2.2.2.2.2.2.length:Int),(i:Int),())) (fun o:Option aZ=>match o with | none=> .inl ((c,()),(z,()),c',a,b,()) | some e=> .inr ((e,()),())) (tNm' pn p) p.2.2.2.2.2.2.2.2.length (fun i hi=>?_) ?_
 ·simp only [f67_128,Int.toNat_natCast]
  rw [aH hi,aB hi,aC hi hl]
  simp only [cond_true,Option.bind_some,f126,jB,tNm']
  generalize p.2.2.2.2.2.2.2.2.getD i Dz3=n
  have key:(((((bif (blt (n.1.size:Int) 1 || blt 40 (n.1.size:Int)) then true else !(ble 0 n.2.1 && ble n.2.1 (wr (p.2.2.2.2.1 - 1)))) || blt n.2.2.1 0) || blt n.2.2.2 n.2.2.1) || blt (p.2.2.2.2.2.2.2.1.length:Int) n.2.2.2) || beq (i:Int) 500)=!decide (NM p n∧i≠500):=by
   rw [Bool.eq_iff_iff,Bool.not_eq_true',decide_eq_false_iff_not]
   unfold NM
   simp only [Bool.and_eq_true,Bool.or_eq_true,fZ,bS,aL,Bool.cond_true_left,Bool.not_eq_true',← Bool.not_eq_true]
   omega
  rw [key]
  by_cases h:NM p n∧i≠500
  ·rw [if_pos h,decide_eq_true h]
   rfl
  ·rw [if_neg h,decide_eq_false h]
   rfl
 ·simp only [f67_128]
  rw [aJ]
  rfl
theorem f110_104_loop (c:aN) (z:aZ) (hn:c.length≤1048576) (hl:∀ p,p∈c→p.2.2.2.2.2.2.2.2.length≤1048576) :
  aA f110_104 ((c,()),(z,()),c,(c.length:Int),(0:Int),())=some (match bJ (tNa c) c.length 0 with | none=> .inl ((c,()),(z,()),()) | some e=> .inr ((e,()),())):=by
 refine aP (body:=f110_104) (fun i=>((c,()),(z,()),c,(c.length:Int),(i:Int),())) (fun o:Option aZ=>match o with | none=> .inl ((c,()),(z,()),()) | some e=> .inr ((e,()),())) (tNa c) c.length (fun i hi=>?_) ?_
 ·simp only [f110_104,Int.toNat_natCast]
  rw [aH hi,aB hi,f110_116_loop _ _ _ _ _ _ _ i rfl (hl _ (aW hi))]
  simp only [cond_true,Option.bind_some,tNa]
  cases bJ (tNm i (c.getD i P0)) (c.getD i P0).2.2.2.2.2.2.2.2.length 0 with
  | none=>
   simp only []
   rw [aC hi hn]
  | some e=>rfl
 ·simp only [f110_104]
  rw [aJ]
  rfl
theorem f67_116_loop (c:aN) (z:aZ) (hn:c.length≤1048576) (hl:∀ p,p∈c→p.2.2.2.2.2.2.2.2.length≤1048576) :
  aA f67_116 ((c,()),(z,()),c,(c.length:Int),(0:Int),())=some (match bJ (tNa c) c.length 0 with | none=> .inl ((c,()),(z,()),()) | some e=> .inr ((e,()),())):=by
 refine aP (body:=f67_116) (fun i=>((c,()),(z,()),c,(c.length:Int),(i:Int),())) (fun o:Option aZ=>match o with | none=> .inl ((c,()),(z,()),()) | some e=> .inr ((e,()),())) (tNa c) c.length (fun i hi=>?_) ?_
 ·simp only [f67_116,Int.toNat_natCast]
  rw [aH hi,aB hi,f67_128_loop _ _ _ _ _ _ _ i rfl (hl _ (aW hi))]
  simp only [cond_true,Option.bind_some,tNa]
  cases bJ (tNm i (c.getD i P0)) (c.getD i P0).2.2.2.2.2.2.2.2.length 0 with
  | none=>
   simp only []
   rw [aC hi hn]
  | some e=>rfl
 ·simp only [f67_116]
  rw [aJ]
  rfl
end Go.Ev.L6
namespace Go.Ev.L6
open Go.Proofs
def ro (op:Int) (k:Nat):Int:=(aQ bB op).getD k 0
def fl (n:S2) (k:Nat):Int:=[n.2.1,n.2.2.1,n.2.2.2.1,n.2.2.2.2].getD k 0
def convL:List Int:=[0,1,2,3,4,5,6,11,12,7,8,9,10,16,15,17,13,14,18,19,20]
def conv (r:Int):Int:=convL.getD r.toNat 0
def sro (op:Int):List Int:=if op=42 then [21,0,0,0] else if eK bB op=true then (aQ bB op).map conv else []
theorem op_out {op:Int} (h:¬ (1≤op∧op≤42)) (k:Int) (h1:1≤k) (h2:k≤42):(k==op)=false:=by
 rw [beq_eq_false_iff_ne]
 omega
theorem thas_out {op:Int} (h:¬ (1≤op∧op≤42)):eK bB op=false:=by
 have h':=op_out h
 simp [eK,bB,h']
theorem op_nat {op:Int} (h:1≤op∧op≤42):∃ k:Nat,k < 42∧op=((k+1:Nat):Int):=⟨(op - 1).toNat,by omega,by omega⟩
theorem thas_all:(List.range 42).all (fun k=>eK bB ((k+1:Nat):Int))=true:=by kernel_rfl
theorem thas_in {op:Int} (h:1≤op∧op≤42):eK bB op=true:=by
 obtain ⟨k,hk,rfl⟩:=op_nat h
 exact List.all_eq_true.1 thas_all k (List.mem_range.2 hk)
theorem thas_iff {op:Int}:eK bB op=true↔1≤op∧op≤42:=by
 constructor
 ·intro h
  apply Decidable.byContradiction
  intro hh
  rw [thas_out hh] at h
  cases h
 ·exact thas_in
theorem f159_all:(List.range 42).all (fun k=>decide (f159 (((k+1:Nat):Int),())=some ((sro ((k+1:Nat):Int),()),())))=true:=by kernel_rfl
theorem f159_ok (op:Int):f159 (op,())=some ((sro op,()),()):=by
 by_cases h:1≤op∧op≤42
 ·obtain ⟨k,hk,rfl⟩:=op_nat h
  exact of_decide_eq_true (List.all_eq_true.1 f159_all k (List.mem_range.2 hk))
 ·have h':∀ k:Int,1≤k→k≤42→beq op k=false:=fun k h1 h2=>by
   cases hb:beq op k
   ·rfl
   ·have:=aL.1 hb
    omega
  have hs:sro op=[]:=by
   unfold sro
   rw [if_neg (by omega),if_neg (by rw [thas_out h];exact fun hh=>by cases hh)]
  rw [hs]
  simp [f159,h']
def tabP (op:Int) (k:Nat):Bool:=
 (decide ((sro op).getD k 0=conv (ro op k)) || (decide ((sro op).getD k 0=21) && decide (ro op k=1) && decide (op=42) && decide (k=0)))
 && decide (0≤ro op k) && decide (ro op k≤20)
 && (!(decide (ro op k=2) || decide (ro op k=3)) || (decide (op≠40) && (List.range k).all (fun e=>decide (ro op e≠18) && decide (ro op e≠19) && decide (ro op e≠20))))
 && (!decide (ro op k=19) || (decide (op=40) && decide (k=0)))
 && (!decide (ro op k=11) || (decide (op=11) && decide (k=1)))
 && (!decide (ro op k=1) || decide (k=0) || (decide (k=2) && decide (op=41)))
theorem tab_all:(List.range 42).all (fun j=>(List.range 4).all fun k=>tabP ((j+1:Nat):Int) k)=true:=by kernel_rfl
theorem tab_ok {op:Int} (h:eK bB op=true) {k:Nat} (hk:k < 4):tabP op k=true:=by
 obtain ⟨j,hj,rfl⟩:=op_nat (thas_iff.1 h)
 exact List.all_eq_true.1 (List.all_eq_true.1 tab_all j (List.mem_range.2 hj)) k (List.mem_range.2 hk)
theorem sro_len {op:Int} (h:eK bB op=true):(sro op).length=4:=by
 have:∀ j,j < 42→(sro ((j+1:Nat):Int)).length=4:=by
  have hh:(List.range 42).all (fun j=>decide ((sro ((j+1:Nat):Int)).length=4))=true:=by kernel_rfl
  exact fun j hj=>of_decide_eq_true (List.all_eq_true.1 hh j (List.mem_range.2 hj))
 obtain ⟨j,hj,rfl⟩:=op_nat (thas_iff.1 h)
 exact this j hj
noncomputable def fok (c:aN) (p:S9) (r x:Int):Bool:=match f170 (c,p,r,x,()) with
 | some q=>q.1.1
 | none=>false
theorem lL (c:aN) (p:S9) (r x:Int):f170 (c,p,r,x,())=some ((fok c p r x,()),()):=by
 have:∃ b,f170 (c,p,r,x,())=some ((b,()),()):=by
  simp only [f170,f126,Option.bind_some]
  repeat (first | exact ⟨_,rfl⟩ | refine ex_cond ⟨_,rfl⟩ ?_)
 obtain ⟨b,hb⟩:=this
 unfold fok
 rw [hb]
def I64 (x:Int):Prop:= -9223372036854775808≤x∧x≤9223372036854775807
theorem f184_go (c:aN) (pi:Nat) (hpi:pi < c.length) (r' r x:Int) (h:f184 (c,(pi:Int),r',x,())=bif aE (pi:Int) (c.length:Int) then f170 (c,c.getD (pi:Int).toNat P0,r,x,()) else none):f184 (c,(pi:Int),r',x,())=some ((fok c (c.getD pi P0) r x,()),()):=by
 rw [h,aB hpi,Int.toNat_natCast]
 exact lL _ _ _ _
theorem opd_eq (R x:Int) (hR:0≤R∧R≤250) (hx:I64 x):(ble (wr (0 - R)) x && ble x (wr (R - 1)))=(ble 0 (bif blt x 0 then wr (-1 - x) else x) && ble (bif blt x 0 then wr (-1 - x) else x) (wr (R - 1))):=by
 unfold I64 at hx
 rw [aY (n:=0 - R) (by omega) (by omega),aY (n:=R - 1) (by omega) (by omega)]
 rw [Bool.eq_iff_iff]
 by_cases h:x < 0
 ·rw [bD h,aY (n:= -1 - x) (by omega) (by omega)]
  simp only [Bool.and_eq_true,bS,cond_true]
  omega
 ·rw [aR (Int.not_lt.1 h)]
  simp only [Bool.and_eq_true,bS,cond_false]
  omega
theorem f184_ok (c:aN) (pi:Nat) (hpi:pi < c.length) (r x:Int) (hr:0≤r∧r≤20) (hR:0≤(c.getD pi P0).2.2.2.2.1∧(c.getD pi P0).2.2.2.2.1≤250) (hx:I64 x):f184 (c,(pi:Int),conv r,x,())=some ((fok c (c.getD pi P0) r x,()),()):=by
 have hr':r=2∨r=3∨r=0∨r=1∨r=4∨r=5∨r=6∨r=7∨r=8∨r=9∨r=10∨r=11∨r=12∨r=13∨r=14∨r=15∨r=16∨r=17∨r=18∨r=19∨r=20:=by omega
 rcases hr' with rfl | rfl | hr'
 ·have h:f184 (c,(pi:Int),conv 2,x,())=bif aE (pi:Int) (c.length:Int) then some (((ble (wr (0 - (c.getD (pi:Int).toNat P0).2.2.2.2.1)) x && ble x (wr ((c.getD (pi:Int).toNat P0).2.2.2.2.1 - 1))),()),()) else none:=by kernel_rfl
  have h2:f170 (c,c.getD pi P0,2,x,())=some (((ble 0 (bif blt x 0 then wr (-1 - x) else x) && ble (bif blt x 0 then wr (-1 - x) else x) (wr ((c.getD pi P0).2.2.2.2.1 - 1))),()),()):=by kernel_rfl
  rw [h,aB hpi,Int.toNat_natCast,cond_true,opd_eq _ _ hR hx,← h2,lL]
 ·have h:f184 (c,(pi:Int),conv 3,x,())=bif aE (pi:Int) (c.length:Int) then some (((ble (wr (0 - (c.getD (pi:Int).toNat P0).2.2.2.2.1)) x && ble x (wr ((c.getD (pi:Int).toNat P0).2.2.2.2.1 - 1))),()),()) else none:=by kernel_rfl
  have h2:f170 (c,c.getD pi P0,3,x,())=some (((ble 0 (bif blt x 0 then wr (-1 - x) else x) && ble (bif blt x 0 then wr (-1 - x) else x) (wr ((c.getD pi P0).2.2.2.2.1 - 1))),()),()):=by kernel_rfl
  rw [h,aB hpi,Int.toNat_natCast,cond_true,opd_eq _ _ hR hx,← h2,lL]
 ·rcases hr' with rfl | rfl | rfl | rfl | rfl | rfl | rfl | rfl | rfl | rfl | rfl | rfl | rfl | rfl | rfl | rfl | rfl | rfl | rfl<;>exact f184_go c pi hpi _ _ x (by kernel_rfl)
theorem f184_any (c:aN) (pi:Nat) (hpi:pi < c.length) (x:Int):f184 (c,(pi:Int),21,x,())=some ((fok c (c.getD pi P0) 1 x,()),()):=f184_go c pi hpi _ _ x (by kernel_rfl)
noncomputable def tF (c:aN) (p:S9) (n:S2) (k:Nat):Option Unit:=bif fok c p (ro n.1 k) (fl n k) then none else some ()
noncomputable def iok (c:aN) (p:S9) (n:S2):Bool:=eK bB n.1 && (bJ (tF c p n) 4 0).isNone
theorem f130_ok (c:aN) (p:S9) (n:S2):f130 (c,p,n,())=some ((iok c p n,()),()):=by
 simp only [f130,f169,Option.bind_some]
 unfold iok
 cases h:eK bB n.1 with
 | false=>rfl
 | true=>
  have hl:aA f130_20 ((c,()),(p,()),((((aQ bB n.1).getD 0 0),((aQ bB n.1).getD 1 0),((aQ bB n.1).getD 2 0),((aQ bB n.1).getD 3 0)),()),n.2,(0:Int),())=some (match bJ (tF c p n) 4 0 with | none=> .inl () | some _=> .inr (false,())):=by
   refine aP (body:=f130_20) (fun k=>((c,()),(p,()),((((aQ bB n.1).getD 0 0),((aQ bB n.1).getD 1 0),((aQ bB n.1).getD 2 0),((aQ bB n.1).getD 3 0)),()),n.2,(k:Int),())) (fun o:Option Unit=>match o with | none=> .inl () | some _=> .inr (false,())) (tF c p n) 4 (fun i hi=>?_) ?_
   ·have hi':i=0∨i=1∨i=2∨i=3:=by omega
    rcases hi' with rfl | rfl | rfl | rfl
    ·have hb:f130_20 ((c,()),(p,()),((((aQ bB n.1).getD 0 0),((aQ bB n.1).getD 1 0),((aQ bB n.1).getD 2 0),((aQ bB n.1).getD 3 0)),()),n.2,((0:Nat):Int),())=(f170 (c,p,ro n.1 0,fl n 0,())).bind fun r=>bif !r.1.1 then some (.inr (.inr (false,()))) else some (.inl ((c,()),(p,()),((((aQ bB n.1).getD 0 0),((aQ bB n.1).getD 1 0),((aQ bB n.1).getD 2 0),((aQ bB n.1).getD 3 0)),()),n.2,((1:Nat):Int),())):=by kernel_rfl
     rw [hb,lL]
     unfold tF
     cases fok c p (ro n.1 0) (fl n 0)<;>rfl
    ·have hb:f130_20 ((c,()),(p,()),((((aQ bB n.1).getD 0 0),((aQ bB n.1).getD 1 0),((aQ bB n.1).getD 2 0),((aQ bB n.1).getD 3 0)),()),n.2,((1:Nat):Int),())=(f170 (c,p,ro n.1 1,fl n 1,())).bind fun r=>bif !r.1.1 then some (.inr (.inr (false,()))) else some (.inl ((c,()),(p,()),((((aQ bB n.1).getD 0 0),((aQ bB n.1).getD 1 0),((aQ bB n.1).getD 2 0),((aQ bB n.1).getD 3 0)),()),n.2,((2:Nat):Int),())):=by kernel_rfl
     rw [hb,lL]
     unfold tF
     cases fok c p (ro n.1 1) (fl n 1)<;>rfl
    ·have hb:f130_20 ((c,()),(p,()),((((aQ bB n.1).getD 0 0),((aQ bB n.1).getD 1 0),((aQ bB n.1).getD 2 0),((aQ bB n.1).getD 3 0)),()),n.2,((2:Nat):Int),())=(f170 (c,p,ro n.1 2,fl n 2,())).bind fun r=>bif !r.1.1 then some (.inr (.inr (false,()))) else some (.inl ((c,()),(p,()),((((aQ bB n.1).getD 0 0),((aQ bB n.1).getD 1 0),((aQ bB n.1).getD 2 0),((aQ bB n.1).getD 3 0)),()),n.2,((3:Nat):Int),())):=by kernel_rfl
     rw [hb,lL]
     unfold tF
     cases fok c p (ro n.1 2) (fl n 2)<;>rfl
    ·have hb:f130_20 ((c,()),(p,()),((((aQ bB n.1).getD 0 0),((aQ bB n.1).getD 1 0),((aQ bB n.1).getD 2 0),((aQ bB n.1).getD 3 0)),()),n.2,((3:Nat):Int),())=(f170 (c,p,ro n.1 3,fl n 3,())).bind fun r=>bif !r.1.1 then some (.inr (.inr (false,()))) else some (.inl ((c,()),(p,()),((((aQ bB n.1).getD 0 0),((aQ bB n.1).getD 1 0),((aQ bB n.1).getD 2 0),((aQ bB n.1).getD 3 0)),()),n.2,((4:Nat):Int),())):=by kernel_rfl
     rw [hb,lL]
     unfold tF
     cases fok c p (ro n.1 3) (fl n 3)<;>rfl
   ·kernel_rfl
  rw [hl]
  cases bJ (tF c p n) 4 0<;>rfl
def lok (p:S9) (i:Nat) (n:S2):Bool:=(((!(beq (i:Int) (wr ((p.2.2.2.2.2.2.2.1.length:Int) - 1)))) || (beq n.1 19)) || (beq n.1 29)) || (beq n.1 30)
def NB (n:S2):Prop:=I64 n.2.1∧I64 n.2.2.1∧I64 n.2.2.2.1∧I64 n.2.2.2.2
theorem fl_b {n:S2} (h:NB n) (k:Nat):I64 (fl n k):=by
 obtain ⟨h0,h1,h2,h3⟩:=h
 unfold fl
 match k with
 | 0=>exact h0
 | 1=>exact h1
 | 2=>exact h2
 | 3=>exact h3
 | j+4=>
  show I64 0
  unfold I64
  omega
theorem f156_ok (c:aN) (pi i:Nat) (hpi:pi < c.length) (hi:i < (c.getD pi P0).2.2.2.2.2.2.2.1.length) (hR:0≤(c.getD pi P0).2.2.2.2.1∧(c.getD pi P0).2.2.2.2.1≤250) (hN:NB ((c.getD pi P0).2.2.2.2.2.2.2.1.getD i aT)) :
  f156 (c,(pi:Int),(i:Int),())=some ((iok c (c.getD pi P0) ((c.getD pi P0).2.2.2.2.2.2.2.1.getD i aT) && lok (c.getD pi P0) i ((c.getD pi P0).2.2.2.2.2.2.2.1.getD i aT),()),()):=by
 simp only [f156,Int.toNat_natCast]
 rw [aB hpi,aB hi]
 simp only [cond_true,f159_ok,f160,Option.bind_some]
 generalize hn:(c.getD pi P0).2.2.2.2.2.2.2.1.getD i aT=n
 rw [hn] at hN
 cases h:eK bB n.1 with
 | false=>
  have hs:sro n.1=[]:=by
   unfold sro
   have:n.1≠42:=fun h42=>by
    rw [thas_in (op:=n.1) (by omega)] at h
    cases h
   rw [if_neg this,if_neg (by rw [h];exact fun hh=>by cases hh)]
  rw [hs]
  unfold iok
  rw [h]
  rfl
 | true=>
  have hlen:=sro_len h
  have hl:aA f156_24 ((pi:Int),(i:Int),(c,()),(n,()),sro n.1,[n.2.1,n.2.2.1,n.2.2.2.1,n.2.2.2.2],(4:Int),(0:Int),())=some (match bJ (tF c (c.getD pi P0) n) 4 0 with | none=> .inl ((pi:Int),(i:Int),(c,()),(n,()),()) | some _=> .inr (false,())):=by
   refine aP (body:=f156_24) (fun k=>((pi:Int),(i:Int),(c,()),(n,()),sro n.1,[n.2.1,n.2.2.1,n.2.2.2.1,n.2.2.2.2],(4:Int),(k:Int),())) (fun o:Option Unit=>match o with | none=> .inl ((pi:Int),(i:Int),(c,()),(n,()),()) | some _=> .inr (false,())) (tF c (c.getD pi P0) n) 4 (fun k hk=>?_) ?_
   ·have ht:=tab_ok h hk
    have hf:f184 (c,(pi:Int),(sro n.1).getD k 0,[n.2.1,n.2.2.1,n.2.2.2.1,n.2.2.2.2].getD k 0,())=some ((fok c (c.getD pi P0) (ro n.1 k) (fl n k),()),()):=by
     unfold tabP at ht
     simp only [Bool.and_eq_true,Bool.or_eq_true,decide_eq_true_eq] at ht
     rcases ht.1.1.1.1.1.1 with h1 | h1
     ·rw [h1]
      exact f184_ok c pi hpi _ _ ⟨ht.1.1.1.1.1.2,ht.1.1.1.1.2⟩ hR (fl_b hN k)
     ·rw [h1.1.1.1,h1.1.1.2]
      exact f184_any c pi hpi _
    simp only [f156_24,Int.toNat_natCast]
    rw [show (4:Int)=((4:Nat):Int) from rfl,aH hk,hlen,aB hk,show ([n.2.1,n.2.2.1,n.2.2.2.1,n.2.2.2.2].length:Int)=((4:Nat):Int) from rfl,aB hk,hf,aC hk (by omega)]
    simp only [cond_true,Option.bind_some,tF]
    cases fok c (c.getD pi P0) (ro n.1 k) (fl n k)<;>rfl
   ·simp only [f156_24]
    rfl
  rw [hlen]
  have h4:beq ((4:Nat):Int) 0=false:=by kernel_rfl
  rw [h4]
  simp only [cond_false]
  have hl':aA f156_24 ((pi:Int),(i:Int),(c,()),(n,()),sro n.1,[n.2.1,n.2.2.1,n.2.2.2.1,n.2.2.2.2],([n.2.1,n.2.2.1,n.2.2.2.1,n.2.2.2.2].length:Int),(0:Int),())=_:=hl
  rw [hl']
  unfold iok lok
  rw [h]
  cases bJ (tF c (c.getD pi P0) n) 4 0 with
  | none=>
   simp only [Option.bind_some,Int.toNat_natCast]
   rw [aB hpi]
   rfl
  | some _=>rfl
noncomputable def tI1 (c:aN) (pi:Nat) (p:S9) (i:Nat):Option aZ:=bif (iok c p (p.2.2.2.2.2.2.2.1.getD i aT) && lok p i (p.2.2.2.2.2.2.2.1.getD i aT)) then none else some (5,(pi:Int),(i:Int))
noncomputable def tIn (c:aN) (pi:Nat):Option aZ:=bif beq ((c.getD pi P0).2.2.2.2.2.2.2.1.length:Int) 0 then some (5,(pi:Int),0) else bJ (tI1 c pi (c.getD pi P0)) (c.getD pi P0).2.2.2.2.2.2.2.1.length 0
theorem f110_164_loop (c c':aN) (z:aZ) (pi a b:Int) (pn:Nat) (hpi:pi=(pn:Int)) (hp:pn < c.length) (hl:(c.getD pn P0).2.2.2.2.2.2.2.1.length≤1048576) (hR:0≤(c.getD pn P0).2.2.2.2.1∧(c.getD pn P0).2.2.2.2.1≤250) (hN:∀ n,n∈(c.getD pn P0).2.2.2.2.2.2.2.1→NB n) :
  aA f110_164 ((c,()),(z,()),pi,c',a,b,((c.getD pn P0).2.2.2.2.2.2.2.1.length:Int),(0:Int),())=some (match bJ (tI1 c pn (c.getD pn P0)) (c.getD pn P0).2.2.2.2.2.2.2.1.length 0 with | none=> .inl ((c,()),(z,()),c',a,b,()) | some e=> .inr ((e,()),())):=by
 subst hpi
 refine aP (body:=f110_164) (fun i=>((c,()),(z,()),(pn:Int),c',a,b,((c.getD pn P0).2.2.2.2.2.2.2.1.length:Int),(i:Int),())) (fun o:Option aZ=>match o with | none=> .inl ((c,()),(z,()),c',a,b,()) | some e=> .inr ((e,()),())) (tI1 c pn (c.getD pn P0)) _ (fun i hi=>?_) ?_
 ·simp only [f110_164]
  rw [aH hi,f156_ok c pn i hp hi hR (hN _ (aW hi)),aC hi hl]
  simp only [cond_true,Option.bind_some,f112,tI1]
  cases (iok c (c.getD pn P0) ((c.getD pn P0).2.2.2.2.2.2.2.1.getD i aT) && lok (c.getD pn P0) i ((c.getD pn P0).2.2.2.2.2.2.2.1.getD i aT))<;>rfl
 ·simp only [f110_164]
  rw [aJ]
  rfl
theorem f67_176_loop (c c':aN) (z:aZ) (p:S9) (pi a b:Int) (pn:Nat) (hpi:pi=(pn:Int)) (hl:p.2.2.2.2.2.2.2.1.length≤1048576) :
  aA f67_176 ((c,()),(z,()),pi,(p,()),c',a,b,p.2.2.2.2.2.2.2.1,(p.2.2.2.2.2.2.2.1.length:Int),(0:Int),())=some (match bJ (tI1 c pn p) p.2.2.2.2.2.2.2.1.length 0 with | none=> .inl ((c,()),(z,()),c',a,b,()) | some e=> .inr ((e,()),())):=by
 subst hpi
 refine aP (body:=f67_176) (fun i=>((c,()),(z,()),(pn:Int),(p,()),c',a,b,p.2.2.2.2.2.2.2.1,(p.2.2.2.2.2.2.2.1.length:Int),(i:Int),())) (fun o:Option aZ=>match o with | none=> .inl ((c,()),(z,()),c',a,b,()) | some e=> .inr ((e,()),())) (tI1 c pn p) _ (fun i hi=>?_) ?_
 ·simp only [f67_176,Int.toNat_natCast]
  rw [aH hi,aB hi,f130_ok,aC hi hl]
  simp only [cond_true,Option.bind_some,tI1,lok,cX]
  generalize p.2.2.2.2.2.2.2.1.getD i aT=n
  cases iok c p n<;>cases beq (i:Int) (wr ((p.2.2.2.2.2.2.2.1.length:Int) - 1))<;>cases beq n.1 19<;>cases beq n.1 29<;>cases beq n.1 30<;>rfl
 ·simp only [f67_176]
  rw [aJ]
  rfl
theorem f110_144_loop (c:aN) (z:aZ) (hn:c.length≤1048576) (hl:∀ p,p∈c→p.2.2.2.2.2.2.2.1.length≤1048576) (hR:∀ p,p∈c→0≤p.2.2.2.2.1∧p.2.2.2.2.1≤250) (hN:∀ p,p∈c→∀ n,n∈p.2.2.2.2.2.2.2.1→NB n) :
  aA f110_144 ((c,()),(z,()),c,(c.length:Int),(0:Int),())=some (match bJ (tIn c) c.length 0 with | none=> .inl ((z,()),()) | some e=> .inr ((e,()),())):=by
 refine aP (body:=f110_144) (fun i=>((c,()),(z,()),c,(c.length:Int),(i:Int),())) (fun o:Option aZ=>match o with | none=> .inl ((z,()),()) | some e=> .inr ((e,()),())) (tIn c) c.length (fun i hi=>?_) ?_
 ·have hm:c.getD i P0∈c:=aW hi
  simp only [f110_144,Int.toNat_natCast]
  rw [aH hi,aB hi,f110_164_loop _ _ _ _ _ _ i rfl hi (hl _ hm) (hR _ hm) (hN _ hm)]
  simp only [cond_true,Option.bind_some,tIn,f112]
  cases beq ((c.getD i P0).2.2.2.2.2.2.2.1.length:Int) 0 with
  | true=>rfl
  | false=>
   simp only [cond_false]
   cases bJ (tI1 c i (c.getD i P0)) (c.getD i P0).2.2.2.2.2.2.2.1.length 0 with
   | none=>
    simp only []
    rw [aC hi hn]
   | some e=>rfl
 ·simp only [f110_144]
  rw [aJ]
  rfl
theorem f67_156_loop (c:aN) (z:aZ) (hn:c.length≤1048576) (hl:∀ p,p∈c→p.2.2.2.2.2.2.2.1.length≤1048576) :
  aA f67_156 ((c,()),(z,()),c,(c.length:Int),(0:Int),())=some (match bJ (tIn c) c.length 0 with | none=> .inl ((c,()),(z,()),()) | some e=> .inr ((e,()),())):=by
 refine aP (body:=f67_156) (fun i=>((c,()),(z,()),c,(c.length:Int),(i:Int),())) (fun o:Option aZ=>match o with | none=> .inl ((c,()),(z,()),()) | some e=> .inr ((e,()),())) (tIn c) c.length (fun i hi=>?_) ?_
 ·have hm:c.getD i P0∈c:=aW hi
  simp only [f67_156,Int.toNat_natCast]
  rw [aH hi,aB hi,f67_176_loop _ _ _ _ _ _ _ i rfl (hl _ hm)]
  simp only [cond_true,Option.bind_some,tIn]
  cases beq ((c.getD i P0).2.2.2.2.2.2.2.1.length:Int) 0 with
  | true=>rfl
  | false=>
   simp only [cond_false]
   cases bJ (tI1 c i (c.getD i P0)) (c.getD i P0).2.2.2.2.2.2.2.1.length 0 with
   | none=>
    simp only []
    rw [aC hi hn]
   | some e=>rfl
 ·simp only [f67_156]
  rw [aJ]
  rfl
end Go.Ev.L6
namespace Go.Ev.L6
open Go.Proofs
def upT (p:S9) (u:S0):Bool:=(u.1 && !(ble 0 u.2 && ble u.2 (wr (p.2.2.2.2.1 - 1)))) || (!u.1 && !(ble 0 u.2 && ble u.2 (wr ((p.2.2.2.2.2.1.length:Int) - 1))))
def upF (p:S9) (us:List S0) (j:Nat):Option Unit:=bif upT p (us.getD j U0) then some () else none
def kF (p:S9) (us:List S0):Bool:=(bJ (upF p us) us.length 0).isSome
theorem f111_ok (c:aN) (pi:Nat) (g:Int) (hpi:pi < c.length) (hg:0≤g∧g < (c.length:Int)) (hl:(c.getD g.toNat P0).2.2.2.2.2.1.length≤1048576) :
  f111 (c,(pi:Int),g,())=some ((!(kF (c.getD pi P0) (c.getD g.toNat P0).2.2.2.2.2.1),()),()):=by
 simp only [f111]
 rw [aK hg.1 hg.2]
 generalize (c.getD g.toNat P0).2.2.2.2.2.1=us at hl
 have hloop:aA f111_8 ((pi:Int),(c,()),us,(us.length:Int),(0:Int),())=some (match bJ (upF (c.getD pi P0) us) us.length 0 with | none=> .inl () | some _=> .inr (false,())):=by
  refine aP (body:=f111_8) (fun j=>((pi:Int),(c,()),us,(us.length:Int),(j:Int),())) (fun o:Option Unit=>match o with | none=> .inl () | some _=> .inr (false,())) (upF (c.getD pi P0) us) us.length (fun j hj=>?_) ?_
  ·simp only [f111_8,f157,Option.bind_some,Int.toNat_natCast]
   rw [aH hj,aB hj,aB hpi,aC hj hl]
   simp only [cond_true,upF,upT]
   generalize us.getD j U0=u
   cases u.1<;>cases (ble 0 u.2 && ble u.2 (wr ((c.getD pi P0).2.2.2.2.1 - 1)))<;>cases (ble 0 u.2 && ble u.2 (wr (((c.getD pi P0).2.2.2.2.2.1.length:Int) - 1)))<;>rfl
  ·simp only [f111_8]
   rw [aJ]
   rfl
 simp only [cond_true]
 rw [hloop]
 unfold kF
 cases bJ (upF (c.getD pi P0) us) us.length 0<;>rfl
theorem run_any (p:S9) (us:List S0):∀ (k i:Nat) (b:Bool),run (ε:=Unit) (fun j b=> .inl (upT p (us.getD j U0) || b)) k i b= .inl ((bJ (upF p us) k i).isSome || b)
 | 0,i,b=>rfl
 | k+1,i,b=>by
  unfold run bJ
  simp only []
  rw [run_any p us k (i+1)]
  unfold upF
  cases upT p (us.getD i U0) with
  | true=>
   simp only [cond_true,Bool.true_or,Bool.or_true]
   rfl
  | false=>
   simp only [cond_false,Bool.false_or]
theorem f67_244_loop (c l:aN) (z:aZ) (m:List Bool) (pi:Int) (p:S9) (k:Int) (b0:Bool) (x1 x2:Int) (is:List S2) (x3 x4:Int) (us:List S0) (hl:us.length≤1048576) :
  aA f67_244 ((c,()),(z,()),m,pi,(p,()),k,b0,l,x1,x2,is,x3,x4,us,(us.length:Int),(0:Int),())=some ((c,()),(z,()),m,pi,(p,()),k,(kF p us || b0),l,x1,x2,is,x3,x4,()):=by
 refine (bW (body:=f67_244) (mk:=fun i (b:Bool)=>((c,()),(z,()),m,pi,(p,()),k,b,l,x1,x2,is,x3,x4,us,(us.length:Int),(i:Int),())) (ε:=Unit) (fin:=fun t=>match t with | .inl b=>((c,()),(z,()),m,pi,(p,()),k,b,l,x1,x2,is,x3,x4,()) | .inr _=>((c,()),(z,()),m,pi,(p,()),k,b0,l,x1,x2,is,x3,x4,())) (step:=fun j b=> .inl (upT p (us.getD j U0) || b)) (I:=fun _ _=>True) (n:=us.length) (fun i b hi _=>?_) (fun _ _ _ _ _ _=>trivial) (fun b _=>?_) us.length 0 b0 (by omega) trivial).trans ?_
 ·simp only [f67_244,f126,Option.bind_some,jB,Int.toNat_natCast]
  rw [aH hi,aB hi,aC hi hl]
  simp only [cond_true,upT]
  generalize us.getD i U0=u
  cases u.1<;>cases (ble 0 u.2 && ble u.2 (wr (p.2.2.2.2.1 - 1)))<;>cases (ble 0 u.2 && ble u.2 (wr ((p.2.2.2.2.2.1.length:Int) - 1)))<;>rfl
 ·simp only [f67_244]
  rw [aJ]
  rfl
 ·rw [run_any]
  rfl
def mkS (c:aN) (pi:Nat) (is:List S2) (i:Nat) (m:List Bool):List Bool ⊕ aZ:=
 let n:=is.getD i aT
 bif bne n.1 11 then .inl m
 else bif (ble n.2.2.1 (pi:Int) || m.getD n.2.2.1.toNat false) || kF (c.getD pi P0) (c.getD n.2.2.1.toNat P0).2.2.2.2.2.1 then .inr (6,(pi:Int),(i:Int))
 else .inl (m.set n.2.2.1.toNat true)
def mkP (c:aN) (pi:Nat) (m:List Bool):List Bool ⊕ aZ:=run (mkS c pi (c.getD pi P0).2.2.2.2.2.2.2.1) (c.getD pi P0).2.2.2.2.2.2.2.1.length 0 m
theorem run_len {c:aN} {pi:Nat} {is:List S2}:∀ (k i:Nat) (m m':List Bool),run (mkS c pi is) k i m= .inl m'→m'.length=m.length
 | 0,i,m,m',h=>by
  cases h
  rfl
 | k+1,i,m,m',h=>by
  unfold run at h
  cases hq:mkS c pi is i m with
  | inr e=>rw [hq] at h;cases h
  | inl m1=>
   rw [hq] at h
   rw [run_len k (i+1) m1 m' h]
   unfold mkS at hq
   simp only [] at hq
   cases h1:bne (is.getD i aT).1 11<;>rw [h1] at hq
   ·simp only [cond_false] at hq
    cases h2:(ble (is.getD i aT).2.2.1 (pi:Int) || m.getD (is.getD i aT).2.2.1.toNat false) || kF (c.getD pi P0) (c.getD (is.getD i aT).2.2.1.toNat P0).2.2.2.2.2.1<;>rw [h2] at hq<;>cases hq
    exact List.length_set
   ·cases hq
    rfl
def FB (c:aN) (is:List S2):Prop:=∀ n,n∈is→n.1=11→0≤n.2.2.1∧n.2.2.1 < (c.length:Int)
theorem kT {a b:Int} (h:bne a b=false):a=b:=by
 rw [cX,Bool.not_eq_false'] at h
 exact aL.1 h
theorem f62_36_loop (c l:aN) (z:aZ) (m:List Bool) (pn:Nat) (a b pi:Int) (hpi:pi=(pn:Int)) (is:List S2) (hp:pn < c.length) (hm:m.length=c.length) (hl:is.length≤1048576) (hF:FB c is) (hu:∀ p,p∈c→p.2.2.2.2.2.1.length≤1048576) :
  aA f62_36 ((c,()),(z,()),m,pi,l,a,b,is,(is.length:Int),(0:Int),())=some (match run (mkS c pn is) is.length 0 m with | .inl m=> .inl ((c,()),(z,()),m,l,a,b,()) | .inr e=> .inr ((e,()),())):=by
 subst hpi
 refine bW (body:=f62_36) (mk:=fun i (m:List Bool)=>((c,()),(z,()),m,(pn:Int),l,a,b,is,(is.length:Int),(i:Int),())) (fin:=fun t:List Bool ⊕ aZ=>match t with | .inl m=> .inl ((c,()),(z,()),m,l,a,b,()) | .inr e=> .inr ((e,()),())) (step:=mkS c pn is) (I:=fun _ m=>m.length=c.length) (n:=is.length) (fun i m hi hm=>?_) (fun i m m' hi hm h=>?_) (fun m _=>?_) is.length 0 m (by omega) hm
 ·simp only [f62_36,Int.toNat_natCast]
  rw [aH hi,aB hi,aC hi hl]
  simp only [cond_true,Option.bind_some,f112,mkS]
  have hF':=hF _ (aW (d:=aT) hi)
  generalize is.getD i aT=n at hF'
  cases h1:bne n.1 11 with
  | true=>rfl
  | false=>
   obtain ⟨g0,g1⟩:=hF' (kT h1)
   rw [aK g0 (by omega),f111_ok c pn n.2.2.1 hp ⟨g0,g1⟩ (hu _ (aW (by omega)))]
   simp only [cond_true,cond_false,Option.bind_some,jB,Bool.not_not]
   cases ble n.2.2.1 (pn:Int)<;>cases m.getD n.2.2.1.toNat false<;>cases kF (c.getD pn P0) (c.getD n.2.2.1.toNat P0).2.2.2.2.2.1<;>rfl
 ·rw [← hm]
  have:=run_len (c:=c) (pi:=pn) (is:=is) 1 i m m' (by unfold run;rw [h];rfl)
  exact this
 ·simp only [f62_36]
  rw [aJ]
  rfl
theorem f67_220_loop (c l:aN) (z:aZ) (m:List Bool) (pn:Nat) (a b pi:Int) (hpi:pi=(pn:Int)) (is:List S2) (hm:m.length=c.length) (hl:is.length≤1048576) (hF:FB c is) (hu:∀ p,p∈c→p.2.2.2.2.2.1.length≤1048576) :
  aA f67_220 ((c,()),(z,()),m,pi,(c.getD pn P0,()),l,a,b,is,(is.length:Int),(0:Int),())=some (match run (mkS c pn is) is.length 0 m with | .inl m=> .inl ((c,()),(z,()),m,l,a,b,()) | .inr e=> .inr ((e,()),())):=by
 subst hpi
 refine bW (body:=f67_220) (mk:=fun i (m:List Bool)=>((c,()),(z,()),m,(pn:Int),(c.getD pn P0,()),l,a,b,is,(is.length:Int),(i:Int),())) (fin:=fun t:List Bool ⊕ aZ=>match t with | .inl m=> .inl ((c,()),(z,()),m,l,a,b,()) | .inr e=> .inr ((e,()),())) (step:=mkS c pn is) (I:=fun _ m=>m.length=c.length) (n:=is.length) (fun i m hi hm=>?_) (fun i m m' hi hm h=>?_) (fun m _=>?_) is.length 0 m (by omega) hm
 ·simp only [f67_220,Int.toNat_natCast]
  rw [aH hi,aB hi]
  simp only [cond_true,mkS]
  have hF':=hF _ (aW (d:=aT) hi)
  generalize is.getD i aT=n at hF'
  cases h1:bne n.1 11 with
  | true=>
   simp only [cond_true]
   rw [aC hi hl]
  | false=>
   obtain ⟨g0,g1⟩:=hF' (kT h1)
   rw [aK g0 (show n.2.2.1 < (m.length:Int) by omega),aK g0 g1]
   simp only [cond_true,cond_false,jB,Option.bind_some]
   rw [f67_244_loop _ _ _ _ _ _ _ _ _ _ _ _ _ _ (hu _ (aW (by omega)))]
   simp only [Option.bind_some]
   rw [aC hi hl]
   cases ble n.2.2.1 (pn:Int)<;>cases m.getD n.2.2.1.toNat false<;>cases kF (c.getD pn P0) (c.getD n.2.2.1.toNat P0).2.2.2.2.2.1<;>rfl
 ·rw [← hm]
  have:=run_len (c:=c) (pi:=pn) (is:=is) 1 i m m' (by unfold run;rw [h];rfl)
  exact this
 ·simp only [f67_220]
  rw [aJ]
  rfl
theorem f62_24_loop (c:aN) (z:aZ) (m:List Bool) (hn:c.length≤1048576) (hm:m.length=c.length) (hl:∀ p,p∈c→p.2.2.2.2.2.2.2.1.length≤1048576) (hF:∀ p,p∈c→FB c p.2.2.2.2.2.2.2.1) (hu:∀ p,p∈c→p.2.2.2.2.2.1.length≤1048576) :
  aA f62_24 ((c,()),(z,()),m,c,(c.length:Int),(0:Int),())=some (match run (mkP c) c.length 0 m with | .inl m=> .inl ((c,()),(z,()),m,()) | .inr e=> .inr ((e,()),())):=by
 refine bW (body:=f62_24) (mk:=fun i (m:List Bool)=>((c,()),(z,()),m,c,(c.length:Int),(i:Int),())) (fin:=fun t:List Bool ⊕ aZ=>match t with | .inl m=> .inl ((c,()),(z,()),m,()) | .inr e=> .inr ((e,()),())) (step:=mkP c) (I:=fun _ m=>m.length=c.length) (n:=c.length) (fun i m hi hm=>?_) (fun i m m' hi hm h=>?_) (fun m _=>?_) c.length 0 m (by omega) hm
 ·have hmem:c.getD i P0∈c:=aW hi
  simp only [f62_24,Int.toNat_natCast]
  rw [aH hi,aB hi]
  simp only [cond_true]
  rw [f62_36_loop c c z m i _ _ _ rfl _ hi hm (hl _ hmem) (hF _ hmem) hu]
  simp only [Option.bind_some,mkP]
  cases run (mkS c i (c.getD i P0).2.2.2.2.2.2.2.1) (c.getD i P0).2.2.2.2.2.2.2.1.length 0 m with
  | inl m'=>
   simp only []
   rw [aC hi hn]
  | inr e=>rfl
 ·rw [← hm]
  exact run_len _ _ _ _ h
 ·simp only [f62_24]
  rw [aJ]
  rfl
theorem f67_208_loop (c:aN) (z:aZ) (m:List Bool) (hn:c.length≤1048576) (hm:m.length=c.length) (hl:∀ p,p∈c→p.2.2.2.2.2.2.2.1.length≤1048576) (hF:∀ p,p∈c→FB c p.2.2.2.2.2.2.2.1) (hu:∀ p,p∈c→p.2.2.2.2.2.1.length≤1048576) :
  aA f67_208 ((c,()),(z,()),m,c,(c.length:Int),(0:Int),())=some (match run (mkP c) c.length 0 m with | .inl m=> .inl ((c,()),(z,()),m,()) | .inr e=> .inr ((e,()),())):=by
 refine bW (body:=f67_208) (mk:=fun i (m:List Bool)=>((c,()),(z,()),m,c,(c.length:Int),(i:Int),())) (fin:=fun t:List Bool ⊕ aZ=>match t with | .inl m=> .inl ((c,()),(z,()),m,()) | .inr e=> .inr ((e,()),())) (step:=mkP c) (I:=fun _ m=>m.length=c.length) (n:=c.length) (fun i m hi hm=>?_) (fun i m m' hi hm h=>?_) (fun m _=>?_) c.length 0 m (by omega) hm
 ·have hmem:c.getD i P0∈c:=aW hi
  simp only [f67_208,Int.toNat_natCast]
  rw [aH hi,aB hi]
  simp only [cond_true]
  rw [f67_220_loop c c z m i _ _ _ rfl _ hm (hl _ hmem) (hF _ hmem) hu]
  simp only [Option.bind_some,mkP]
  cases run (mkS c i (c.getD i P0).2.2.2.2.2.2.2.1) (c.getD i P0).2.2.2.2.2.2.2.1.length 0 m with
  | inl m'=>
   simp only []
   rw [aC hi hn]
  | inr e=>rfl
 ·rw [← hm]
  exact run_len _ _ _ _ h
 ·simp only [f67_208]
  rw [aJ]
  rfl
def tMd (m:List Bool) (i:Nat):Option aZ:=bif (blt 0 (i:Int) && !(m.getD i false)) then some (7,(i:Int),0) else none
theorem runP_len {c:aN}:∀ (k i:Nat) (m m':List Bool),run (mkP c) k i m= .inl m'→m'.length=m.length
 | 0,i,m,m',h=>by
  cases h
  rfl
 | k+1,i,m,m',h=>by
  unfold run at h
  cases hq:mkP c i m with
  | inr e=>rw [hq] at h;cases h
  | inl m1=>
   rw [hq] at h
   rw [runP_len k (i+1) m1 m' h]
   exact run_len _ _ _ _ hq
theorem f67_284_loop (z:aZ) (m:List Bool) (n:Nat) (hm:m.length=n) (hn:n≤1048576) :
  aA f67_284 ((z,()),m,(n:Int),(0:Int),())=some (match bJ (tMd m) n 0 with | none=> .inl ((z,()),()) | some e=> .inr ((e,()),())):=by
 refine aP (body:=f67_284) (fun i=>((z,()),m,(n:Int),(i:Int),())) (fun o:Option aZ=>match o with | none=> .inl ((z,()),()) | some e=> .inr ((e,()),())) (tMd m) n (fun i hi=>?_) ?_
 ·simp only [f67_284,Int.toNat_natCast]
  rw [aH hi,aB (show i < m.length by omega),aC hi hn]
  simp only [cond_true,jB,Option.bind_some,tMd]
  cases blt 0 (i:Int)<;>cases m.getD i false<;>rfl
 ·simp only [f67_284]
  rw [aJ]
  rfl
theorem f62_72_loop (c:aN) (z:aZ) (m:List Bool) (hm:m.length=c.length) (hn:c.length≤1048576) (h0:0 < c.length) :
  aA f62_72 ((c,()),(z,()),m,(1:Int),())=some (match bJ (tMd m) c.length 0 with | none=> .inl ((z,()),()) | some e=> .inr ((e,()),())):=by
 have hf:bJ (tMd m) c.length 0=bJ (tMd m) (c.length - 1) 1:=by
  obtain ⟨k,hk⟩:∃ k,c.length=k+1:=⟨c.length - 1,by omega⟩
  rw [hk]
  rfl
 rw [hf]
 refine loop_fnd (body:=f62_72) (fun i=>((c,()),(z,()),m,(i:Int),())) (fun o:Option aZ=>match o with | none=> .inl ((z,()),()) | some e=> .inr ((e,()),())) (fun i=>bif m.getD i false then none else some (7,(i:Int),0)) c.length (fun i hi=>?_) ?_ (c.length - 1) 1 (by omega) |>.trans ?_
 ·simp only [f62_72,Int.toNat_natCast]
  rw [aH hi,aB (show i < m.length by omega),aC hi hn]
  simp only [cond_true,f112,Option.bind_some]
  cases m.getD i false<;>rfl
 ·simp only [f62_72]
  rw [aJ]
  rfl
 ·have:∀ k i,0 < i→bJ (fun i=>bif m.getD i false then none else some ((7,(i:Int),0):aZ)) k i=bJ (tMd m) k i:=by
   intro k
   induction k with
   | zero=>intro i _;rfl
   | succ k ih=>
    intro i hi
    unfold bJ
    rw [ih (i+1) (by omega)]
    unfold tMd
    rw [bD (show (0:Int) < (i:Int) by omega)]
    cases m.getD i false<;>rfl
  rw [this _ 1 (by omega)]
def orr {α:Type} (a b:Option α):Option α:=match a with
 | some e=>some e
 | none=>b
theorem orr_none {α:Type} {a b:Option α} (h:orr a b=none):a=none∧b=none:=by
 cases a with
 | none=>exact ⟨rfl,h⟩
 | some e=>cases h
theorem f110_12_loop (c:aN) (z:aZ) (hn:c.length≤1048576):∃ t,aA f110_12 ((c,()),(z,()),(0:Int),c,(c.length:Int),(0:Int),())=some ((c,()),(z,()),t,()):=by
 refine ⟨_,(bW (body:=f110_12) (mk:=fun i (t:Int)=>((c,()),(z,()),t,c,(c.length:Int),(i:Int),())) (ε:=Unit) (fin:=fun t=>((c,()),(z,()),(match t with | .inl t=>t | .inr _=>0),())) (step:=fun i t=> .inl (wr (t+((c.getD i P0).2.2.2.2.2.2.2.1.length:Int)))) (I:=fun _ _=>True) (n:=c.length) (fun i t hi _=>?_) (fun _ _ _ _ _ _=>trivial) (fun t _=>?_) c.length 0 0 (by omega) trivial)⟩
 ·simp only [f110_12,Int.toNat_natCast]
  rw [aH hi,aB hi,aC hi hn]
  rfl
 ·simp only [f110_12]
  rw [aJ]
  rfl
theorem f67_12_eq:f67_12=f110_12:=rfl
noncomputable def tot (c:aN):Int:=match aA f110_12 ((c,()),((0,0,0),()),(0:Int),c,(c.length:Int),(0:Int),()) with
 | some r=>r.2.2.1
 | none=>0
noncomputable def shp5 (c:aN):Option aZ:=
 bif ((blt (c.length:Int) 1 || blt 200 (c.length:Int)) || blt 6000 (tot c)) then some (1,0,0)
 else orr (bJ (tHd c) c.length 0) (orr (bJ (tCo c) c.length 0) (orr (bJ (tNa c) c.length 0) (bJ (tIn c) c.length 0)))
def shp7 (c:aN):Option aZ:=match run (mkP c) c.length 0 (List.replicate c.length false) with
 | .inl m=>bJ (tMd m) c.length 0
 | .inr e=>some e
noncomputable def shp (c:aN):Option aZ:=orr (shp5 c) (shp7 c)
structure CW (c:aN):Prop where
 len:c.length≤1048576
 ups:∀ p,p∈c→p.2.2.2.2.2.1.length≤1048576
 consts:∀ p,p∈c→p.2.2.2.2.2.2.1.length≤1048576
 ins:∀ p,p∈c→p.2.2.2.2.2.2.2.1.length≤1048576
 named:∀ p,p∈c→p.2.2.2.2.2.2.2.2.length≤1048576
 flt:∀ p,p∈c→∀ v,v∈p.2.2.2.2.2.2.1→v.2.2.1 < 18446744073709551616
 nb:∀ p,p∈c→∀ n,n∈p.2.2.2.2.2.2.2.1→NB n
theorem i64_bnd {x:Int} (h:(Ty.int .i64).bnd x):I64 x:=by
 have h':(decide (-9223372036854775808≤x) && decide (x≤9223372036854775807))=true:=h
 rw [Bool.and_eq_true,decide_eq_true_iff,decide_eq_true_iff] at h'
 exact h'
theorem cw_of (c:aN) (hb:Y5.bnd c) (hB:CB c):CW c where
 len:=hB.len
 ups:=fun p hp=>(hB.each p hp).ups
 consts:=fun p hp=>(hB.each p hp).consts
 ins:=fun p hp=>(hB.each p hp).ins
 named:=fun p hp=>(hB.each p hp).named
 flt:=fun p hp v hv=>by
  obtain ⟨b1,b2,b3,b4,b5,b6,b7,b8,b9⟩:=hb.2 p hp
  exact of_decide_eq_true (b7.2 v hv).2.2.1
 nb:=fun p hp n hn=>by
  obtain ⟨b1,b2,b3,b4,b5,b6,b7,b8,b9⟩:=hb.2 p hp
  obtain ⟨c1,c2,c3,c4,c5⟩:=b8.2 n hn
  exact ⟨i64_bnd c2,i64_bnd c3,i64_bnd c4,i64_bnd c5⟩
end Go.Ev.L6
namespace Go.Ev.L6
open Go.Proofs
theorem eX {ε:Type} {a:Nat→Option ε} {e:ε}:∀ k i,bJ a k i=some e→∃ j,i≤j∧j < i+k∧a j=some e
 | 0,i,h=>by cases h
 | k+1,i,h=>by
  unfold bJ at h
  cases hq:a i with
  | some e'=>
   rw [hq] at h
   cases h
   exact ⟨i,by omega,by omega,hq⟩
  | none=>
   rw [hq] at h
   obtain ⟨j,h1,h2,h3⟩:=eX k (i+1) h
   exact ⟨j,by omega,by omega,h3⟩
theorem jT {ε:Type} {a:Nat→Option ε} {n:Nat} (h:bJ a n 0=none):∀ j,j < n→a j=none:=fun j hj=>(hZ (n:=n) n 0 (by omega)).1 h j (by omega) hj
theorem mem_getD {α:Type} {l:List α} {x:α} (d:α) (h:x∈l):∃ i,i < l.length∧l.getD i d=x:=by
 obtain ⟨i,hi,rfl⟩:=List.getElem_of_mem h
 exact ⟨i,hi,fX hi⟩
theorem hd_of {c:aN} (h:bJ (tHd c) c.length 0=none) (i:Nat) (hi:i < c.length):HD (c.getD i P0) i:=by
 have:=jT h i hi
 unfold tHd at this
 by_cases hh:HD (c.getD i P0) i
 ·exact hh
 ·rw [if_neg hh] at this
  cases this
theorem regs_of {c:aN} (h:bJ (tHd c) c.length 0=none):∀ p,p∈c→0≤p.2.2.2.2.1∧p.2.2.2.2.1≤250:=by
 intro p hp
 obtain ⟨i,hi,rfl⟩:=mem_getD P0 hp
 exact (hd_of h i hi).2.2.1
theorem iok_of {c:aN} {p:S9} {n:S2} (h:iok c p n=true):eK bB n.1=true∧∀ k,k < 4→fok c p (ro n.1 k) (fl n k)=true:=by
 unfold iok at h
 rw [Bool.and_eq_true] at h
 refine ⟨h.1,fun k hk=>?_⟩
 have hn:bJ (tF c p n) 4 0=none:=by
  cases hq:bJ (tF c p n) 4 0 with
  | none=>rfl
  | some e=>rw [hq] at h;cases h.2
 have:=jT hn k hk
 unfold tF at this
 cases hf:fok c p (ro n.1 k) (fl n k) with
 | true=>rfl
 | false=>rw [hf] at this;cases this
theorem in_of {c:aN} (h:bJ (tIn c) c.length 0=none) (pi:Nat) (hpi:pi < c.length):0 < (c.getD pi P0).2.2.2.2.2.2.2.1.length∧∀ i,i < (c.getD pi P0).2.2.2.2.2.2.2.1.length→iok c (c.getD pi P0) ((c.getD pi P0).2.2.2.2.2.2.2.1.getD i aT)=true∧lok (c.getD pi P0) i ((c.getD pi P0).2.2.2.2.2.2.2.1.getD i aT)=true:=by
 have:=jT h pi hpi
 unfold tIn at this
 cases h0:beq ((c.getD pi P0).2.2.2.2.2.2.2.1.length:Int) 0 with
 | true=>rw [h0] at this;cases this
 | false=>
  rw [h0] at this
  refine ⟨?_,fun i hi=>?_⟩
  ·have h1:((c.getD pi P0).2.2.2.2.2.2.2.1.length:Int)≠0:=fun hh=>by
    rw [aL.2 hh] at h0
    cases h0
   omega
  ·have:=jT (show bJ (tI1 c pi (c.getD pi P0)) _ 0=none from this) i hi
   unfold tI1 at this
   rw [← Bool.and_eq_true]
   cases hq:(iok c (c.getD pi P0) ((c.getD pi P0).2.2.2.2.2.2.2.1.getD i aT) && lok (c.getD pi P0) i ((c.getD pi P0).2.2.2.2.2.2.2.1.getD i aT)) with
   | true=>rfl
   | false=>rw [hq] at this;cases this
theorem fok11 {c:aN} {p:S9} {x:Int} (hl:c.length≤1048576) (h:fok c p 11 x=true):0≤x∧x < (c.length:Int):=by
 have h':(ble 0 x && ble x (wr ((c.length:Int) - 1)))=true:=h
 rw [Bool.and_eq_true,bS,bS,aY (by omega) (by omega)] at h'
 omega
theorem fb_of {c:aN} (hl:c.length≤1048576) (h:bJ (tIn c) c.length 0=none):∀ p,p∈c→FB c p.2.2.2.2.2.2.2.1:=by
 intro p hp n hn h11
 obtain ⟨pi,hpi,rfl⟩:=mem_getD P0 hp
 obtain ⟨i,hi,rfl⟩:=mem_getD aT hn
 have h1:=(iok_of ((in_of h pi hpi).2 i hi).1).2 1 (by omega)
 rw [h11,show ro 11 1=11 from by kernel_rfl] at h1
 exact fok11 hl h1
theorem hd_code {c:aN} {e:aZ} (h:bJ (tHd c) c.length 0=some e):bne e.1 0=true:=by
 obtain ⟨j,-,-,h⟩:=eX _ _ h
 unfold tHd at h
 split at h
 ·cases h
 ·cases h
  rfl
theorem co_code {c:aN} {e:aZ} (h:bJ (tCo c) c.length 0=some e):bne e.1 0=true:=by
 obtain ⟨j,-,-,h⟩:=eX _ _ h
 obtain ⟨j',-,-,h⟩:=eX _ _ h
 unfold tCs at h
 cases hb:cB ((c.getD j P0).2.2.2.2.2.2.1.getD j' jI)<;>rw [hb] at h<;>cases h
 rfl
theorem na_code {c:aN} {e:aZ} (h:bJ (tNa c) c.length 0=some e):bne e.1 0=true:=by
 obtain ⟨j,-,-,h⟩:=eX _ _ h
 obtain ⟨j',-,-,h⟩:=eX _ _ h
 unfold tNm at h
 split at h
 ·cases h
 ·cases h
  rfl
theorem in_code {c:aN} {e:aZ} (h:bJ (tIn c) c.length 0=some e):bne e.1 0=true:=by
 obtain ⟨j,-,-,h⟩:=eX _ _ h
 unfold tIn at h
 cases h0:beq ((c.getD j P0).2.2.2.2.2.2.2.1.length:Int) 0 with
 | true=>
  rw [h0] at h
  cases h
  rfl
 | false=>
  rw [h0] at h
  obtain ⟨j',-,-,h⟩:=eX _ _ h
  unfold tI1 at h
  cases hb:(iok c (c.getD j P0) ((c.getD j P0).2.2.2.2.2.2.2.1.getD j' aT) && lok (c.getD j P0) j' ((c.getD j P0).2.2.2.2.2.2.2.1.getD j' aT))<;>rw [hb] at h<;>cases h
  rfl
theorem run_code {c:aN} {pi:Nat} {is:List S2} {e:aZ}:∀ (k i:Nat) (m:List Bool),run (mkS c pi is) k i m= .inr e→bne e.1 0=true
 | 0,i,m,h=>by cases h
 | k+1,i,m,h=>by
  unfold run at h
  cases hq:mkS c pi is i m with
  | inl m1=>
   rw [hq] at h
   exact run_code k (i+1) m1 h
  | inr e'=>
   rw [hq] at h
   cases h
   unfold mkS at hq
   simp only [] at hq
   cases h1:bne (is.getD i aT).1 11<;>rw [h1] at hq
   ·simp only [cond_false] at hq
    cases h2:(ble (is.getD i aT).2.2.1 (pi:Int) || m.getD (is.getD i aT).2.2.1.toNat false) || kF (c.getD pi P0) (c.getD (is.getD i aT).2.2.1.toNat P0).2.2.2.2.2.1<;>rw [h2] at hq<;>cases hq
    rfl
   ·cases hq
theorem runP_code {c:aN} {e:aZ}:∀ (k i:Nat) (m:List Bool),run (mkP c) k i m= .inr e→bne e.1 0=true
 | 0,i,m,h=>by cases h
 | k+1,i,m,h=>by
  unfold run at h
  cases hq:mkP c i m with
  | inl m1=>
   rw [hq] at h
   exact runP_code k (i+1) m1 h
  | inr e'=>
   rw [hq] at h
   cases h
   exact run_code _ _ _ hq
theorem md_code {m:List Bool} {n:Nat} {e:aZ} (h:bJ (tMd m) n 0=some e):bne e.1 0=true:=by
 obtain ⟨j,-,-,h⟩:=eX _ _ h
 unfold tMd at h
 cases hb:(blt 0 (j:Int) && !(m.getD j false))<;>rw [hb] at h<;>cases h
 rfl
theorem shp7_code {c:aN} {e:aZ} (h:shp7 c=some e):bne e.1 0=true:=by
 unfold shp7 at h
 cases hq:run (mkP c) c.length 0 (List.replicate c.length false) with
 | inl m=>
  rw [hq] at h
  exact md_code h
 | inr e'=>
  rw [hq] at h
  cases h
  exact runP_code _ _ _ hq
noncomputable def tFew (c:aN):Bool:=(blt (c.length:Int) 1 || blt 200 (c.length:Int)) || blt 6000 (tot c)
theorem tot_ok (c:aN) (hn:c.length≤1048576):aA f110_12 ((c,()),((0,0,0),()),(0:Int),c,(c.length:Int),(0:Int),())=some ((c,()),((0,0,0),()),tot c,()):=by
 obtain ⟨t,ht⟩:=f110_12_loop c (0,0,0) hn
 unfold tot
 rw [ht]
theorem len_few (n:Nat):beq (n:Int) 0=blt (n:Int) 1:=by
 rw [Bool.eq_iff_iff,aL,fZ]
 omega
theorem shp5_eq (c:aN):shp5 c=bif tFew c then some (1,0,0) else orr (bJ (tHd c) c.length 0) (orr (bJ (tCo c) c.length 0) (orr (bJ (tNa c) c.length 0) (bJ (tIn c) c.length 0))):=rfl
theorem shp5_code {c:aN} {e:aZ} (h:shp5 c=some e):bne e.1 0=true:=by
 rw [shp5_eq] at h
 cases hf:tFew c with
 | true=>
  rw [hf] at h
  cases h
  rfl
 | false=>
  rw [hf] at h
  simp only [cond_false] at h
  cases h1:bJ (tHd c) c.length 0 with
  | some e1=>
   rw [h1] at h
   cases h
   exact hd_code h1
  | none=>
   rw [h1] at h
   cases h2:bJ (tCo c) c.length 0 with
   | some e1=>
    rw [h2] at h
    cases h
    exact co_code h2
   | none=>
    rw [h2] at h
    cases h3:bJ (tNa c) c.length 0 with
    | some e1=>
     rw [h3] at h
     cases h
     exact na_code h3
    | none=>
     rw [h3] at h
     exact in_code h
theorem shp_code {c:aN} {e:aZ} (h:shp c=some e):bne e.1 0=true:=by
 unfold shp at h
 cases h5:shp5 c with
 | some e'=>
  rw [h5] at h
  cases h
  exact shp5_code h5
 | none=>
  rw [h5] at h
  exact shp7_code h
theorem f110_ok (c:aN) (w:CW c):f110 (c,())=some (((shp5 c).getD (0,0,0),()),()):=by
 simp only [f110]
 rw [tot_ok c w.len,shp5_eq]
 simp only [Option.bind_some,f112]
 rw [len_few,show ((blt (c.length:Int) 1 || blt 200 (c.length:Int)) || blt 6000 (tot c))=tFew c from rfl]
 cases hf:tFew c with
 | true=>rfl
 | false=>
  simp only [cond_false]
  rw [f110_40_loop c _ w.len]
  cases h1:bJ (tHd c) c.length 0 with
  | some e=>rfl
  | none=>
   simp only [Option.bind_some]
   rw [f110_64_loop c _ w.len w.consts w.flt]
   cases h2:bJ (tCo c) c.length 0 with
   | some e=>rfl
   | none=>
    simp only [Option.bind_some]
    rw [f110_104_loop c _ w.len w.named]
    cases h3:bJ (tNa c) c.length 0 with
    | some e=>rfl
    | none=>
     simp only [Option.bind_some]
     rw [f110_144_loop c _ w.len w.ins (regs_of h1) w.nb]
     cases h4:bJ (tIn c) c.length 0<;>rfl
theorem few_of {c:aN} (h:shp5 c=none):tFew c=false∧bJ (tHd c) c.length 0=none∧bJ (tCo c) c.length 0=none∧bJ (tNa c) c.length 0=none∧bJ (tIn c) c.length 0=none:=by
 rw [shp5_eq] at h
 cases hf:tFew c with
 | true=>rw [hf] at h;cases h
 | false=>
  rw [hf] at h
  obtain ⟨h1,h⟩:=orr_none h
  obtain ⟨h2,h⟩:=orr_none h
  obtain ⟨h3,h⟩:=orr_none h
  exact ⟨rfl,h1,h2,h3,h⟩
theorem pos_of {c:aN} (h:tFew c=false):0 < c.length:=by
 unfold tFew at h
 rw [Bool.or_eq_false_iff,Bool.or_eq_false_iff] at h
 rcases Nat.eq_zero_or_pos c.length with h0 | h0
 ·rw [h0] at h
  have:=h.1.1
  cases this
 ·exact h0
theorem f62_ok (c:aN) (w:CW c):f62 (c,())=some (((shp c).getD (0,0,0),()),()):=by
 simp only [f62]
 rw [f110_ok c w]
 unfold shp
 simp only [Option.bind_some]
 cases h5:shp5 c with
 | some e=>
  show (bif bne e.1 0 then _ else _)=_
  rw [shp5_code h5]
  rfl
 | none=>
  obtain ⟨hf,h1,h2,h3,h4⟩:=few_of h5
  show (bif inE (c.length:Int) ((281474976710656:Nat):Int) then _ else _)=_
  have hl:=w.len
  rw [cC (by omega) (by omega)]
  simp only [cond_true,Int.toNat_natCast]
  rw [f62_24_loop c _ _ w.len List.length_replicate w.ins (fb_of w.len h4) w.ups]
  simp only [orr,shp7]
  cases hr:run (mkP c) c.length 0 (List.replicate c.length false) with
  | inr e=>rfl
  | inl m=>
   simp only [Option.bind_some]
   rw [f62_72_loop c _ m (by rw [runP_len _ _ _ _ hr,List.length_replicate]) w.len (pos_of hf)]
   cases bJ (tMd m) c.length 0<;>rfl
theorem f67_ok (c:aN) (w:CW c):f67 (c,())=some (((shp c).getD (0,0,0),()),()):=by
 simp only [f67,f67_12_eq]
 rw [tot_ok c w.len]
 unfold shp
 rw [shp5_eq]
 simp only [Option.bind_some]
 rw [show ((blt (c.length:Int) 1 || blt 200 (c.length:Int)) || blt 6000 (tot c))=tFew c from rfl]
 cases hf:tFew c with
 | true=>rfl
 | false=>
  simp only [cond_false]
  rw [f67_40_loop c _ w.len]
  cases h1:bJ (tHd c) c.length 0 with
  | some e=>rfl
  | none=>
   simp only [Option.bind_some]
   rw [f67_76_loop c _ w.len w.consts]
   cases h2:bJ (tCo c) c.length 0 with
   | some e=>rfl
   | none=>
    simp only [Option.bind_some]
    rw [f67_116_loop c _ w.len w.named]
    cases h3:bJ (tNa c) c.length 0 with
    | some e=>rfl
    | none=>
     simp only [Option.bind_some]
     rw [f67_156_loop c _ w.len w.ins]
     cases h4:bJ (tIn c) c.length 0 with
     | some e=>rfl
     | none=>
      have hl:=w.len
      simp only [Option.bind_some,orr,shp7]
      rw [cC (by omega) (by omega)]
      simp only [cond_true,Int.toNat_natCast]
      rw [f67_208_loop c _ _ w.len List.length_replicate w.ins (fb_of w.len h4) w.ups]
      cases hr:run (mkP c) c.length 0 (List.replicate c.length false) with
      | inr e=>rfl
      | inl m=>
       simp only [Option.bind_some]
       rw [f67_284_loop _ m c.length (by rw [runP_len _ _ _ _ hr,List.length_replicate]) w.len]
       cases bJ (tMd m) c.length 0<;>rfl
structure IN (c:aN) (p:S9) (n:S2):Prop where
 th:eK bB n.1=true
 fo:∀ k,k < 4→fok c p (ro n.1 k) (fl n k)=true
 up:n.1=11→∀ u,u∈(c.getD n.2.2.1.toNat P0).2.2.2.2.2.1→u.1=true→0≤u.2∧u.2 < p.2.2.2.2.1
 nb:NB n
structure PW (c:aN) (p:S9):Prop where
 regs:0≤p.2.2.2.2.1∧p.2.2.2.2.1≤250
 params:0≤p.2.2.1∧p.2.2.1≤(bif p.2.2.2.1 then p.2.2.2.2.1 - 1 else p.2.2.2.2.1)
 pos:0 < p.2.2.2.2.2.2.2.1.length
 len:p.2.2.2.2.2.2.2.1.length≤1048576
 ins:∀ i,i < p.2.2.2.2.2.2.2.1.length→IN c p (p.2.2.2.2.2.2.2.1.getD i aT)
 last:∀ i,i < p.2.2.2.2.2.2.2.1.length→(p.2.2.2.2.2.2.2.1.getD i aT).1=19∨(p.2.2.2.2.2.2.2.1.getD i aT).1=29∨(p.2.2.2.2.2.2.2.1.getD i aT).1=30∨i+1 < p.2.2.2.2.2.2.2.1.length
theorem up_of {c:aN} {pi:Nat} {is:List S2}:∀ (k i:Nat) (m m':List Bool),run (mkS c pi is) k i m= .inl m'→∀ j,i≤j→j < i+k→(is.getD j aT).1=11→kF (c.getD pi P0) (c.getD (is.getD j aT).2.2.1.toNat P0).2.2.2.2.2.1=false
 | 0,i,m,m',h,j,h1,h2,_=>by omega
 | k+1,i,m,m',h,j,h1,h2,h11=>by
  unfold run at h
  cases hq:mkS c pi is i m with
  | inr e=>rw [hq] at h;cases h
  | inl m1=>
   rw [hq] at h
   by_cases hj:j=i
   ·subst hj
    unfold mkS at hq
    simp only [] at hq
    rw [h11,aS] at hq
    simp only [cond_false] at hq
    cases h3:kF (c.getD pi P0) (c.getD (is.getD j aT).2.2.1.toNat P0).2.2.2.2.2.1 with
    | false=>rfl
    | true=>
     rw [h3,Bool.or_true] at hq
     cases hq
   ·exact up_of k (i+1) m1 m' h j (by omega) (by omega) h11
theorem upP_of {c:aN}:∀ (k i:Nat) (m m':List Bool),run (mkP c) k i m= .inl m'→∀ j,i≤j→j < i+k→∀ x,x < (c.getD j P0).2.2.2.2.2.2.2.1.length→((c.getD j P0).2.2.2.2.2.2.2.1.getD x aT).1=11→kF (c.getD j P0) (c.getD ((c.getD j P0).2.2.2.2.2.2.2.1.getD x aT).2.2.1.toNat P0).2.2.2.2.2.1=false
 | 0,i,m,m',h,j,h1,h2,_,_,_=>by omega
 | k+1,i,m,m',h,j,h1,h2,x,hx,h11=>by
  unfold run at h
  cases hq:mkP c i m with
  | inr e=>rw [hq] at h;cases h
  | inl m1=>
   rw [hq] at h
   by_cases hj:j=i
   ·subst hj
    exact up_of _ _ _ _ hq x (by omega) (by omega) h11
   ·exact upP_of k (i+1) m1 m' h j (by omega) (by omega) x hx h11
theorem upBad_of {p:S9} {us:List S0} (h:kF p us=false) (hR:0≤p.2.2.2.2.1∧p.2.2.2.2.1≤250):∀ u,u∈us→u.1=true→0≤u.2∧u.2 < p.2.2.2.2.1:=by
 intro u hu h1
 obtain ⟨j,hj,rfl⟩:=mem_getD U0 hu
 unfold kF at h
 have hn:bJ (upF p us) us.length 0=none:=by
  cases hq:bJ (upF p us) us.length 0 with
  | none=>rfl
  | some e=>rw [hq] at h;cases h
 have:=jT hn j hj
 unfold upF at this
 cases ht:upT p (us.getD j U0) with
 | true=>rw [ht] at this;cases this
 | false=>
  unfold upT at ht
  rw [h1,Bool.or_eq_false_iff] at ht
  have h2:=ht.1
  rw [Bool.true_and,Bool.not_eq_false',Bool.and_eq_true,bS,bS,aY (by omega) (by omega)] at h2
  omega
theorem pw_of {c:aN} (w:CW c) (h:shp c=none) (pi:Nat) (hpi:pi < c.length):PW c (c.getD pi P0):=by
 obtain ⟨h5,h7⟩:=orr_none h
 obtain ⟨hf,h1,h2,h3,h4⟩:=few_of h5
 have hd:=hd_of h1 pi hpi
 have hi:=in_of h4 pi hpi
 have hm:c.getD pi P0∈c:=aW hpi
 have hlen:=w.ins _ hm
 have hR:=hd.2.2.1
 refine ⟨hR,?_,hi.1,hlen,fun i hii=>?_,fun i hii=>?_⟩
 ·have hp:=hd.2.2.2.1
  rw [aY (n:=(c.getD pi P0).2.2.2.2.1 - 1) (by omega) (by omega)] at hp
  exact hp
 ·obtain ⟨a,b⟩:=hi.2 i hii
  obtain ⟨a1,a2⟩:=iok_of a
  refine ⟨a1,a2,fun h11=>?_,w.nb _ hm _ (aW hii)⟩
  unfold shp7 at h7
  cases hq:run (mkP c) c.length 0 (List.replicate c.length false) with
  | inr e=>rw [hq] at h7;cases h7
  | inl m=>exact upBad_of (upP_of _ _ _ _ hq pi (by omega) (by omega) i hii h11) hR
 ·obtain ⟨a,b⟩:=hi.2 i hii
  unfold lok at b
  rw [Bool.or_eq_true,Bool.or_eq_true,Bool.or_eq_true,aL,aL,aL,Bool.not_eq_true'] at b
  rcases b with ((b | b) | b) | b
  ·refine .inr (.inr (.inr ?_))
   have:¬ ((i:Int)=wr (((c.getD pi P0).2.2.2.2.2.2.2.1.length:Int) - 1)):=fun hh=>by
    rw [aL.2 hh] at b
    cases b
   rw [aY (by omega) (by omega)] at this
   omega
  ·exact .inl b
  ·exact .inr (.inl b)
  ·exact .inr (.inr (.inl b))
end Go.Ev.L6
