/-
 The law FnExactBegin in plain terms: inputs.
-/
import Derived.Test.YtgpjfmjceamonaaGreatDoorL7
import Derived.Test.YtgpjfmjceamonaaGreatDoorL6QD
namespace Go.Ev.L7
open Go.Proofs Go.Ev.L6
theorem maxLen_eq:maxLen=9223372036854775807:=rfl
abbrev E0:ByteArray:=⟨#[]⟩
theorem f34_sz:f34=szF (fun x=>some ((wr (x.2.1 - (x.1.size:Int)),()),())) E0:=rfl
theorem f34_ok (l:List ByteArray) (hl:l.length≤maxLen) (hs:∀ s,s∈l→s.size≤maxLen):Sz f34 l (l.length≤1048576):=by
 intro n h0 h1
 rw [f34_sz]
 obtain ⟨r,h2,h3⟩:=szF_ok (g:=fun x=>some ((wr (x.2.1 - (x.1.size:Int)),()),())) (d:=E0) (Q:=fun _=>True) l hl (fun x hx n h0 h1=>by
  have:=hs x hx
  rw [maxLen_eq] at this
  refine ⟨n - (x.size:Int),?_,?_⟩
  ·show some ((wr (n - (x.size:Int)),()),())=_
   rw [aY (n:=n - (x.size:Int)) (by omega) (by omega)]
  ·by_cases h:n - (x.size:Int) < 0
   ·exact .inl h
   ·exact .inr ⟨by omega,by omega,trivial⟩) n h0 h1
 refine ⟨r,h2,?_⟩
 rcases h3 with h3 | ⟨a,b,d,-⟩
 ·exact .inl h3
 ·exact .inr ⟨a,b,d⟩
structure IB (s:aN):Prop where
 a:s.1.length≤1048576
 b:s.2.1.length≤1048576
theorem f14_ok (s:aN) (h:Y9.bnd s) (r:Int) (hr:0≤r) (h1:r≤1048576):∃ q,f14 (s,r,())=some ((q,()),())∧(q < 0∨(0≤q∧IB s)):=by
 obtain ⟨⟨a1,a2⟩,⟨b1,b2⟩,-⟩:=h
 obtain ⟨x,h2,h3⟩:=f34_ok s.1 a1 a2 r hr h1
 simp only [f14]
 rw [h2]
 simp only [Option.bind_some]
 rcases h3 with h3 | ⟨h3,h4,h5⟩
 ·rw [bD h3]
  exact ⟨-1,rfl, .inl (by omega)⟩
 rw [aR h3]
 obtain ⟨y,g2,g3⟩:=f34_ok s.2.1 b1 b2 x h3 (by omega)
 simp only [cond_false]
 rw [g2]
 simp only [Option.bind_some]
 rcases g3 with g3 | ⟨g3,g4,g5⟩
 ·rw [bD g3]
  exact ⟨-1,rfl, .inl (by omega)⟩
 rw [aR g3]
 exact ⟨y,rfl, .inr ⟨g3,h5,g5⟩⟩
theorem f38_cp:f38=cpF 17592186044416 (fun x=>some (x.1,())) id E0:=rfl
theorem f38_ok (l:List ByteArray) (hl:l.length≤1048576):f38 (l,())=some ((l,()),()):=by
 rw [f38_cp]
 exact cpF_ok l (by omega) hl (fun x _=>⟨x,rfl,rfl⟩)
theorem f16_ok (s:aN) (h:IB s):f16 (s,())=some (((s.1,s.2.1,s.2.2.1,s.2.2.2.1,s.2.2.2.2,()),()),()):=by
 simp only [f16]
 rw [f38_ok s.1 h.a,f38_ok s.2.1 h.b]
 rfl
theorem f47_eq:f47=eqF (fun x=>some ((jL x.1 x.2.1,()),())) E0:=rfl
theorem f47_ok (l:List ByteArray) (hl:l.length≤1048576):Eqs f47 l:=by
 rw [f47_eq]
 exact eqF_ok l hl (fun x _=>by unfold Eqs;simp only [dW])
theorem f19_ok (s:aN) (h:IB s):Eqs f19 s:=by
 unfold Eqs
 simp only [f19]
 rw [show f47 (s.1,s.1,())=_ from f47_ok s.1 h.a,show f47 (s.2.1,s.2.1,())=_ from f47_ok s.2.1 h.b,aS,aS,aS]
 rfl
def fits (s:ByteArray):Bool:=!(blt 4000 (s.size:Int))
theorem fit_loop {A B:Type} {body:A→Option (A ⊕ B)} (mk:Nat→A) (y n:B) (l:List ByteArray)
  (hs:∀ i,i < l.length→body (mk i)=some (bif blt 4000 ((l.getD i E0).size:Int) then .inr n else .inl (mk (i+1))))
  (hf:body (mk l.length)=some (.inr y)) :
  ∀ k i,i+k=l.length→aA body (mk i)=some (bif (l.drop i).all fits then y else n)
 | 0,i,hi=>by
  obtain rfl:i=l.length:=by omega
  rw [aM,hf,List.drop_of_length_le (Nat.le_refl _)]
  rfl
 | k+1,i,hi=>by
  have hlt:i < l.length:=by omega
  rw [aM,hs i hlt,List.drop_eq_getElem_cons hlt,List.all_cons,fX hlt]
  unfold fits
  cases hd:blt 4000 (l[i].size:Int) with
  | true=>rfl
  | false=>exact fit_loop mk y n l hs hf k (i+1) (by omega)
theorem f78_16_loop (X:aN×Unit) (l:List ByteArray) (hl:l.length≤1048576):aA f78_16 (X,l,(l.length:Int),(0:Int),())=some (bif l.all fits then .inl (X,()) else .inr (false,())):=
 fit_loop (body:=f78_16) (fun i=>(X,l,(l.length:Int),(i:Int),())) (.inl (X,())) (.inr (false,())) l (fun i hi=>by
  simp only [f78_16,g3,Int.toNat_natCast]
  rw [aH hi,aB hi,aC hi hl]
  cases blt 4000 ((l.getD i E0).size:Int)<;>rfl) (by
  simp only [f78_16]
  rw [aJ]
  rfl) l.length 0 (by omega)
theorem f78_40_loop (X:aN×Unit) (l:List ByteArray) (hl:l.length≤1048576):aA f78_40 (X,l,(l.length:Int),(0:Int),())=some (bif l.all fits then .inl (X,()) else .inr (false,())):=
 f78_16_loop X l hl
theorem f86_28_loop (X:aN×Unit) (L:List (List ByteArray)) (n j:Int) (l:List ByteArray) (hl:l.length≤1048576):aA f86_28 (X,L,n,j,l,(l.length:Int),(0:Int),())=some (bif l.all fits then .inl (X,L,n,j,()) else .inr (false,())):=
 fit_loop (body:=f86_28) (fun i=>(X,L,n,j,l,(l.length:Int),(i:Int),())) (.inl (X,L,n,j,())) (.inr (false,())) l (fun i hi=>by
  simp only [f86_28,g6,Int.toNat_natCast]
  rw [aH hi,aB hi,aC hi hl]
  cases blt 4000 ((l.getD i E0).size:Int)<;>rfl) (by
  simp only [f86_28]
  rw [aJ]
  rfl) l.length 0 (by omega)
def nums (s:aN):Bool:=((((ble 0 s.2.2.1 && ble s.2.2.1 5000) && ble 1 s.2.2.2.1) && ble s.2.2.2.1 60) && ble 0 s.2.2.2.2) && ble s.2.2.2.2 20000
def good (s:aN):Bool:=bif blt 200 (s.1.length:Int) || blt 200 (s.2.1.length:Int) then false else s.1.all fits && (s.2.1.all fits && nums s)
theorem f78_ok (s:aN) (h:IB s):f78 (s,())=some ((good s,()),()):=by
 simp only [f78,good]
 cases hc:(blt 200 (s.1.length:Int) || blt 200 (s.2.1.length:Int)) with
 | true=>rfl
 | false=>
  simp only [cond_false]
  rw [f78_16_loop _ s.1 h.a]
  cases hA:s.1.all fits with
  | false=>rfl
  | true=>
   simp only [cond_true,Option.bind_some,Bool.true_and]
   rw [f78_40_loop _ s.2.1 h.b]
   cases hB:s.2.1.all fits with
   | false=>rfl
   | true=>rfl
theorem f86_ok (s:aN) (h:IB s):f86 (s,())=some ((good s,()),()):=by
 simp only [f86,good]
 cases hc:(blt 200 (s.1.length:Int) || blt 200 (s.2.1.length:Int)) with
 | true=>rfl
 | false=>
  simp only [cond_false]
  have e0:f86_16 ((s,()),[s.1,s.2.1],(2:Int),(0:Int),())=some (bif s.1.all fits then .inl ((s,()),[s.1,s.2.1],2,1,()) else .inr (.inr (false,()))):=by
   show ((aA f86_28 ((s,()),[s.1,s.2.1],(2:Int),(0:Int),s.1,(s.1.length:Int),(0:Int),())).bind _)=_
   rw [f86_28_loop _ _ _ _ _ h.a]
   cases s.1.all fits<;>rfl
  have e1:f86_16 ((s,()),[s.1,s.2.1],(2:Int),(1:Int),())=some (bif s.2.1.all fits then .inl ((s,()),[s.1,s.2.1],2,2,()) else .inr (.inr (false,()))):=by
   show ((aA f86_28 ((s,()),[s.1,s.2.1],(2:Int),(1:Int),s.2.1,(s.2.1.length:Int),(0:Int),())).bind _)=_
   rw [f86_28_loop _ _ _ _ _ h.b]
   cases s.2.1.all fits<;>rfl
  have e2:f86_16 ((s,()),[s.1,s.2.1],(2:Int),(2:Int),())=some (.inr (.inl ((s,()),()))):=rfl
  show ((aA f86_16 ((s,()),[s.1,s.2.1],(2:Int),(0:Int),())).bind _)=_
  rw [aM,e0]
  cases hA:s.1.all fits with
  | false=>rfl
  | true=>
   simp only [cond_true]
   rw [aM,e1]
   cases hB:s.2.1.all fits with
   | false=>rfl
   | true=>
    simp only [cond_true]
    rw [aM,e2]
    rfl
noncomputable def ok (c:aZ) (s:aN) (p:Int):Bool:=((bif beq (chk c).1 0 then good s else false) && ble 0 p) && ble p 1000
theorem f35_ok (c:aZ) (w:CW c) (s:aN) (h:IB s) (p:Int):f35 (c,s,p,())=some ((ok c s p,()),()):=by
 simp only [f35]
 rw [f24_ok c w,f78_ok s h]
 unfold ok
 cases hb:beq (chk c).1 0 with
 | true=>
  simp only [Option.bind_some,bK,hb]
 | false=>
  simp only [Option.bind_some,bK,hb]
end Go.Ev.L7
namespace Go.Ev.L7
open Go.Proofs Go.Ev.L6
theorem app_loop {A B α:Type} {body:A→Option (A ⊕ B)} {mk:Int→List α→A} {fin:List α→B} {l:List α} {d:α}
  (hs:∀ i t,i < l.length→t.length=i→body (mk (i:Int) t)=some (.inl (mk ((i+1:Nat):Int) (t ++[l.getD i d]))))
  (hf:body (mk (l.length:Int) l)=some (.inr (fin l))) :
  ∀ k i t,i+k=l.length→t=l.take i→aA body (mk (i:Int) t)=some (fin l)
 | 0,i,t,hi,ht=>by
  obtain rfl:i=l.length:=by omega
  rw [ht,List.take_length,aM,hf]
 | k+1,i,t,hi,ht=>by
  have hlt:i < l.length:=by omega
  rw [aM,hs i t hlt (by rw [ht,List.length_take];omega)]
  exact app_loop hs hf k (i+1) _ (by omega) (by rw [ht,fX hlt,List.take_append_getElem hlt])
theorem app_ok {A B α:Type} {body:A→Option (A ⊕ B)} (mk:Int→List α→A) (fin:List α→B) (l:List α) (d:α)
  (hs:∀ i t,i < l.length→t.length=i→body (mk (i:Int) t)=some (.inl (mk ((i+1:Nat):Int) (t ++[l.getD i d]))))
  (hf:body (mk (l.length:Int) l)=some (.inr (fin l))):aA body (mk 0 [])=some (fin l):=
 app_loop hs hf l.length 0 [] (by omega) rfl
theorem wr_up {i n:Nat} (h:i < n) (hn:n≤4611686018427387904):wr ((i:Int)+1)=((i+1:Nat):Int):=by
 rw [aY (by omega) (by omega)]
 omega
theorem cK {α:Type} {t:List α} {x:α} {i n N:Nat} (ht:t.length=i) (hi:i < n) (h:n≤N):cN (t.length+[x].length) N=true:=
 bH (by simp only [List.length_cons,List.length_nil];omega)
theorem f80_ok (l:List S1) (hl:l.length≤1048576):f80 (l,())=some ((l,()),()):=by
 simp only [f80]
 rw [app_ok (body:=f80_12) (fun i t=>(t,l,(l.length:Int),i,())) (fun t=>(t,())) l d1 (fun i t hi ht=>by
  simp only [f80_12,g3,Int.toNat_natCast]
  rw [aH hi,aB hi,cK ht hi (by omega),aC hi hl]
  rfl) (by
  simp only [f80_12,g3]
  rw [aJ]
  rfl)]
 rfl
theorem f90_ok (l:List S1) (hl:l.length≤1048576):f90 (l,())=some ((l,()),()):=by
 simp only [f90,List.nil_append,List.length_nil]
 rw [bH (by omega)]
 rfl
theorem f140_ok (l:List S1) (hl:l.length≤1048576):f140 (l,[],())=some ((l,()),()):=by
 simp only [f140]
 rw [app_ok (body:=f140_12) (fun i t=>([],t,l,(l.length:Int),i,())) (fun t=>([],t,())) l d1 (fun i t hi ht=>by
  simp only [f140_12,g3,g4,Int.toNat_natCast]
  rw [aH hi,aB hi,cK ht hi (by omega),aC hi hl]
  rfl) (by
  simp only [f140_12,g3,g4]
  rw [aJ]
  rfl)]
 simp only [Option.bind_some]
 rw [aM]
 rfl
inductive OKR:eC→Prop
 | none:OKR d3
 | val (v:S1) (h:Y1.bnd v):OKR (1,v,0,[])
 | rest (l:List S1) (h:l.length≤1048576) (hb:∀ v,v∈l→Y1.bnd v):OKR (3,d1,0,l)
def r1 (args:List S1) (i:Nat) (t:List eC):List eC:=t.set i (1,args.getD i d1,0,[])
structure RI (R i:Nat) (t:List eC):Prop where
 len:t.length=R
 new:∀ j,i≤j→t.getD j d3=d3
 ok:∀ r,r∈t→OKR r
def AB (args:List S1):Prop:=args.length≤1048576∧∀ v,v∈args→Y1.bnd v
theorem d1_bnd:Y1.bnd d1:=by
 refine ⟨rfl,rfl,?_,?_,rfl⟩
 ·rfl
 ·exact Nat.zero_le _
theorem args_bnd {args:List S1} (h:AB args) (i:Nat):Y1.bnd (args.getD i d1):=by
 by_cases hi:i < args.length
 ·exact h.2 _ (aW hi)
 ·rw [List.getD_eq_getElem?_getD,List.getElem?_eq_none (by omega)]
  exact d1_bnd
theorem set_ok {R i:Nat} {t:List eC} {x:eC} (h:RI R i t) (hx:OKR x):RI R (i+1) (t.set i x) where
 len:=by rw [List.length_set,h.len]
 new:=fun j hj=>by
  rw [L6.getD_set_ne (by omega)]
  exact h.new j (by omega)
 ok:=fun r hr=>by
  rcases List.mem_or_eq_of_mem_set hr with hr | rfl
  ·exact h.ok r hr
  ·exact hx
theorem rep_ok (R:Nat):RI R 0 (List.replicate R d3) where
 len:=List.length_replicate
 new:=fun j _=>by
  rw [List.getD_eq_getElem?_getD,List.getElem?_replicate]
  split<;>rfl
 ok:=fun r hr=>by
  rw [List.eq_of_mem_replicate hr]
  exact .none
def RG (args:List S1) (R P:Nat):List eC:=itr (r1 args) P 0 (List.replicate R d3)
def FR (p:S9) (args:List S1):List eC:=
 bif p.2.2.2.1 then (RG args p.2.2.2.2.1.toNat p.2.2.1.toNat).set p.2.2.1.toNat (3,d1,0,args.drop p.2.2.1.toNat) else RG args p.2.2.2.2.1.toNat p.2.2.1.toNat
theorem f139_ok (args:List S1) (i:Nat):f139 (args,(i:Int),())=some ((args.getD i d1,()),()):=by
 simp only [f139,Int.toNat_natCast]
 by_cases hi:i < args.length
 ·rw [ble_false (by omega),aB hi]
  rfl
 ·rw [ble_true (by omega),List.getD_eq_getElem?_getD,List.getElem?_eq_none (by omega)]
  rfl
theorem f85_20_loop (V:T6) (args:List S1) (p:S9) (R:Nat) (hA:AB args) (h0:0≤p.2.2.1) (h1:p.2.2.1≤R) (h2:R≤250) (a0 a1 a2 a4 a5 a6 a7 a8 a14 a17:Int) (a3:List S1) (a10:List Int) (a11:List eV) (a12 a13:Bool) (a15:List S1) (a16:ByteArray) :
  aA f85_20 (V,args,(p,()),(a0,a1,a2,a3,a4,a5,a6,a7,a8,List.replicate R d3,a10,a11,a12,a13,a14,a15,a16,a17,()),(0:Int),())=some (V,args,(p,()),(a0,a1,a2,a3,a4,a5,a6,a7,a8,RG args R p.2.2.1.toNat,a10,a11,a12,a13,a14,a15,a16,a17,()),())∧RI R p.2.2.1.toNat (RG args R p.2.2.1.toNat):=by
 refine iT (body:=f85_20) (mk:=fun i t=>(V,args,(p,()),(a0,a1,a2,a3,a4,a5,a6,a7,a8,t,a10,a11,a12,a13,a14,a15,a16,a17,()),(i:Int),())) (fin:=fun t=>(V,args,(p,()),(a0,a1,a2,a3,a4,a5,a6,a7,a8,t,a10,a11,a12,a13,a14,a15,a16,a17,()),())) (step:=r1 args) (I:=fun i t=>RI R i t) (n:=p.2.2.1.toNat) (fun i t hi ht=>?_) (fun i t hi ht=>set_ok ht (.val _ (args_bnd hA i))) (fun t ht=>?_) _ 0 _ (by omega) (rep_ok R)
 ·have hl:=ht.len
  simp only [f85_20,g3,g4,g9,u9,Int.toNat_natCast]
  rw [bD (by omega),f139_ok]
  simp only [cond_true,Option.bind_some]
  rw [aK (by omega) (by omega),aY (by omega) (by omega)]
  rfl
 ·simp only [f85_20,g3,g4]
  rw [aR (by omega)]
  rfl
theorem f88_16_loop (V:S32) (args:List S1) (p:S9) (Z:T2) (R:Nat) (hA:AB args) (h0:0≤p.2.2.1) (h1:p.2.2.1≤R) (h2:R≤250) (a0 a1 a2 a5 a6 a7 a8 a9 a14 a17:Int) (a3 a12 a13:Bool) (a4:List S1) (a11:List eV) (a15:List S1) (a16:ByteArray) :
  aA f88_16 ((V,()),args,Z,(p,()),(a0,a1,a2,a3,a4,a5,a6,a7,a8,a9,List.replicate R d3,a11,a12,a13,a14,a15,a16,a17,()),p.2.2.1,(0:Int),())=some ((V,()),args,Z,(p,()),(a0,a1,a2,a3,a4,a5,a6,a7,a8,a9,RG args R p.2.2.1.toNat,a11,a12,a13,a14,a15,a16,a17,()),()):=by
 refine (iT (body:=f88_16) (mk:=fun i t=>((V,()),args,Z,(p,()),(a0,a1,a2,a3,a4,a5,a6,a7,a8,a9,t,a11,a12,a13,a14,a15,a16,a17,()),p.2.2.1,(i:Int),())) (fin:=fun t=>((V,()),args,Z,(p,()),(a0,a1,a2,a3,a4,a5,a6,a7,a8,a9,t,a11,a12,a13,a14,a15,a16,a17,()),())) (step:=r1 args) (I:=fun i t=>RI R i t) (n:=p.2.2.1.toNat) (fun i t hi ht=>?_) (fun i t hi ht=>set_ok ht (.val _ (args_bnd hA i))) (fun t ht=>?_) _ 0 _ (by omega) (rep_ok R)).1
 ·have hl:=ht.len
  have hn:=ht.new i (Nat.le_refl _)
  simp only [f88_16,g3,g4,g5,g6,dQ,u10,Int.toNat_natCast,List.length_set,List.set_set,hn,L6.getD_set_eq (show i < t.length by omega)]
  rw [bD (by omega),aK (by omega) (by omega),aY (by omega) (by omega)]
  simp only [cond_true]
  unfold r1
  by_cases hi:i < args.length
  ·rw [aH hi,aB hi]
   rfl
  ·rw [aR (by omega),List.getD_eq_getElem?_getD,List.getElem?_eq_none (by omega)]
   rfl
 ·simp only [f88_16,g3,g4,g5,g6]
  rw [aR (by omega)]
  rfl
end Go.Ev.L7
namespace Go.Ev.L7
open Go.Proofs Go.Ev.L6
structure GB (c:aZ) (s:aN):Prop where
 w:CW c
 hs:shp c=none
 pos:0 < c.length
 ib:IB s
 ab:Y9.bnd s
def av (s:aN):List S1:=s.1.map (fun b=>((4:Int),(0:Int),(0:Nat),b,(0:Int)))
theorem av_len (s:aN):(av s).length=s.1.length:=List.length_map _
theorem av_get (s:aN) {i:Nat} (hi:i < s.1.length):(av s).getD i d1=((4:Int),(0:Int),(0:Nat),s.1.getD i E0,(0:Int)):=by
 rw [fX (by rw [av_len];exact hi),fX hi]
 exact List.getElem_map _
theorem av_ab {s:aN} (h:IB s) (hb:Y9.bnd s):AB (av s):=by
 refine ⟨by rw [av_len];exact h.a,fun v hv=>?_⟩
 obtain ⟨b,hm,rfl⟩:=List.mem_map.1 hv
 exact ⟨rfl,rfl,rfl,hb.1.2 b hm,rfl⟩
theorem regs_ok {c:aZ} {s:aN} (g:GB c s):PW c (c.getD 0 P0):=pw_of g.w g.hs 0 g.pos
theorem f25_ok {c:aZ} {s:aN} (g:GB c s):f25 (c,())=some ((((prep c).1,(prep c).2,()),()),()):=by
 simp only [f25]
 rw [(f25_12_loop _ c g.w.len (fun i hi=>pq_of g.w g.hs i hi)).1]
 rfl
theorem f8_go {c:aZ} {s:aN} (g:GB c s) (h:bne (chk c).1 0=false):f8 (c,())=some ((((prep c).1,(prep c).2,()),()),()):=by
 rw [f8_ok c g.w]
 unfold quick
 rw [h]
 rfl
theorem prep_b {c:aZ} {s:aN} (g:GB c s):0≤(prep c).2∧(prep c).2≤1099511627776:=by
 obtain ⟨a,b,d,e⟩:=(f25_12_loop ([],0,()) c g.w.len (fun i hi=>pq_of g.w g.hs i hi)).2
 have:=g.w.len
 omega
theorem f141_ok (V:T6) (it:S22) (t:S21) (h17:iM V=[t]) (h18:g18 V=0) (ht:t.2.2.1=[]):f141 (V,it,())=some ((),u17 V [u2 t [it]],()):=by
 simp only [f141,h17,h18,show [t].getD (Int.toNat 0) d8=t from rfl,ht,List.nil_append]
 rw [show aE 0 (([t].length:Nat):Int)=true from aB (i:=0) (n:=1) (by omega),bH (show _≤628292358729 by show 0+1≤628292358729;omega)]
 rfl
def frS (p:S9) (args:List S1):S22:=((1:Int),(0:Int),(0:Int),([]:List S1),(0:Int),(-1:Int),(0:Int),(0:Int),(0:Int),FR p args,([]:List Int),([]:List eV),false,false,((0:Int),([]:List S1),E0),(-1:Int))
theorem f85_ok {c:aZ} {s:aN} (g:GB c s) (V:T6) (t:S21) (hc:V.1=c) (h17:iM V=[t]) (h18:g18 V=0) (ht:t.2.2.1=[]):f85 (V,(0:Int),(-1:Int),av s,())=some ((),u17 V [u2 t [frS (c.getD 0 P0) (av s)]],()):=by
 have pw:=regs_ok g
 have hA:=av_ab g.ib g.ab
 generalize hp:c.getD 0 P0=p at pw
 obtain ⟨hR,hP,-,-,-,-⟩:=pw
 have hP2:p.2.2.1≤(p.2.2.2.2.1.toNat:Int):=by
  cases hq:p.2.2.2.1 with
  | true=>rw [hq] at hP;simp only [cond_true] at hP;omega
  | false=>rw [hq] at hP;simp only [cond_false] at hP;omega
 have hg:c.getD (0:Int).toNat d10=p:=hp
 simp only [f85,hc,hg]
 rw [aK (by omega) (by have:=g.pos;omega),cC (show 0≤g4 p from hR.1) (show g4 p≤_ by have:=hR.2;show p.2.2.2.2.1≤_;omega),ble_false (show (-1:Int) < 0 by omega)]
 simp only [cond_true,cond_false]
 obtain ⟨l1,l2⟩:=f85_20_loop V (av s) p p.2.2.2.2.1.toNat hA hP.1 hP2 (by omega) 1 0 0 0 (-1) 0 0 0 0 (-1) [] [] [] false false [] E0
 rw [l1]
 simp only [Option.bind_some,g3,g4,g5,g6,g7,g8,g9,dQ,fF,gB,fN,fE,jR,kM]
 have hl:=l2.len
 unfold frS FR
 cases hq:p.2.2.2.1 with
 | false=>
  simp only [cond_false]
  rw [f141_ok V _ t h17 h18 ht]
  rfl
 | true=>
  rw [hq] at hP
  simp only [cond_true] at hP
  simp only [cond_true]
  rw [aK hP.1 (by omega)]
  by_cases h:p.2.2.1 < ((av s).length:Int)
  ·rw [bD h,cC hP.1 (by omega),f140_ok _ (by rw [List.length_drop];have:=hA.1;omega)]
   simp only [cond_true,Option.bind_some]
   rw [f141_ok V _ t h17 h18 ht]
   rfl
  ·rw [aR (by omega),List.drop_of_length_le (by omega)]
   simp only [cond_true,cond_false]
   rw [f141_ok V _ t h17 h18 ht]
   rfl
end Go.Ev.L7
namespace Go.Ev.L7
open Go.Proofs Go.Ev.L6
theorem FR_ok {c:aZ} {s:aN} (g:GB c s):(FR (c.getD 0 P0) (av s)).length≤250∧∀ r,r∈FR (c.getD 0 P0) (av s)→OKR r:=by
 have pw:=regs_ok g
 have hA:=av_ab g.ib g.ab
 generalize c.getD 0 P0=p at pw
 obtain ⟨hR,hP,-,-,-,-⟩:=pw
 have hP2:p.2.2.1≤(p.2.2.2.2.1.toNat:Int):=by
  cases hq:p.2.2.2.1 with
  | true=>rw [hq] at hP;simp only [cond_true] at hP;omega
  | false=>rw [hq] at hP;simp only [cond_false] at hP;omega
 have l2:=(f85_20_loop ([],[],0,[],[],0,0,0,0,0,0,0,0,[],[],0,0,[],0,[],false,0,[],E0,false,0,0,0,0,0,[],[],E0,E0,0,0,0,false,0,[],()) (av s) p p.2.2.2.2.1.toNat hA hP.1 hP2 (by omega) 1 0 0 0 (-1) 0 0 0 0 (-1) [] [] [] false false [] E0).2
 have hl:=l2.len
 unfold FR
 cases hq:p.2.2.2.1 with
 | false=>exact ⟨by simp only [cond_false];omega,l2.ok⟩
 | true=>
  have h3:=set_ok l2 (.rest ((av s).drop p.2.2.1.toNat) (by rw [List.length_drop];have:=hA.1;omega) (fun v hv=>hA.2 v (List.mem_of_mem_drop hv)))
  have hl3:=h3.len
  exact ⟨by simp only [cond_true];omega,h3.ok⟩
theorem one_ok {A B:Type} {body:A→Option (A ⊕ B)} {a0 a1:A} {b:B} (h0:body a0=some (.inl a1)) (h1:body a1=some (.inr b)):aA body a0=some b:=by
 rw [aM,h0]
 simp only []
 rw [aM,h1]
theorem eU {A B:Type} {body:A→Option (A ⊕ B)} {a0:A} {b:B} (h0:body a0=some (.inr b)):aA body a0=some b:=by
 rw [aM,h0]
theorem w01:wr (0+1)=1:=aY (by omega) (by omega)
def frM (p:S9) (args:List S1):dH:=((1:Int),(0:Int),(0:Int),false,([]:List S1),(0:Int),(-1:Int),(0:Int),(0:Int),(0:Int),FR p args,([]:List eV),false,false,((0:Int),([]:List S1),E0),(-1:Int))
def frT (p:S9) (args:List S1):T2:=((1:Int),(0:Int),(0:Int),false,([]:List S1),(0:Int),(-1:Int),(0:Int),(0:Int),(0:Int),FR p args,([]:List eV),false,false,(0:Int),([]:List S1),E0,(-1:Int),())
def tkM (f:dH):dM:=((2:Int),d1,[f],(-1:Int),false,[])
theorem f83_76_loop (X:S22×Unit) (Z:T2) (l:List eC) (hl:l.length≤1048576) (ho:∀ r,r∈l→OKR r) (a0 a1 a2 a5 a6 a7 a8 a9 a14 a17:Int) (a3 a12 a13:Bool) (a4:List S1) (a11:List eV) (a15:List S1) (a16:ByteArray) :
  aA f83_76 (X,Z,(a0,a1,a2,a3,a4,a5,a6,a7,a8,a9,[],a11,a12,a13,a14,a15,a16,a17,()),l,(l.length:Int),(0:Int),())=some (X,Z,(a0,a1,a2,a3,a4,a5,a6,a7,a8,a9,l,a11,a12,a13,a14,a15,a16,a17,()),()):=
 app_ok (body:=f83_76) (fun i t=>(X,Z,(a0,a1,a2,a3,a4,a5,a6,a7,a8,a9,t,a11,a12,a13,a14,a15,a16,a17,()),l,(l.length:Int),i,())) (fun t=>(X,Z,(a0,a1,a2,a3,a4,a5,a6,a7,a8,a9,t,a11,a12,a13,a14,a15,a16,a17,()),())) l d3 (fun i t hi ht=>by
  simp only [f83_76,g3,g4,g5,dQ,u10,Int.toNat_natCast]
  have hr:=ho _ (aW (d:=d3) hi)
  rw [aH hi,aB hi,aC hi hl]
  generalize l.getD i d3=r at hr
  cases hr with
  | none=>
   simp only []
   rw [cK ht hi (by omega)]
   rfl
  | val v h=>
   simp only []
   rw [cK ht hi (by omega)]
   rfl
  | rest q h hb=>
   simp only []
   rw [f80_ok q h]
   simp only [Option.bind_some]
   rw [cK (α:=eC) (x:=(3,d1,0,q)) ht hi (by omega)]
   rfl) (by
  simp only [f83_76,g3,g4,g5]
  rw [aJ]
  rfl)
theorem f83_ok {c:aZ} {s:aN} (g:GB c s):f83 (frS (c.getD 0 P0) (av s),())=some ((frT (c.getD 0 P0) (av s),()),()):=by
 obtain ⟨h1,h2⟩:=FR_ok g
 unfold frS frT
 generalize FR (c.getD 0 P0) (av s)=l at h1 h2
 simp only [f83,g3,g4,g5,g6,g7,g9,fF,gB,t15]
 rw [f80_ok [] (by simp)]
 simp only [Option.bind_some]
 rw [show beq 1 2=false from rfl,show beq 1 3=false from rfl,show beq 1 1=true from rfl,f83_76_loop _ _ l (by omega) h2]
 simp only [Option.bind_some,cond_true,cond_false]
 rw [eU (body:=f83_128) (b:=_) rfl]
 rfl
end Go.Ev.L7
namespace Go.Ev.L7
open Go.Proofs Go.Ev.L6
abbrev M0:S27:=((0:Int),([]:List lY),([]:List ByteArray),E0,E0,(0:Int),(0:Int))
abbrev W0:S20:=((0:Int),([]:List S1),E0)
def mM (p:Int) (K:List jH) (f:dH):S31:=(p,(0:Int),(0:Int),(0:Int),(0:Int),([]:List cW),K,(0:Int),(0:Int),[tkM f],(0:Int),false,([]:List S1),W0,false,(0:Int),(0:Int),(0:Int),M0)
def mT (p:Int) (K:List jH) (f:dH):T4:=(p,(0:Int),(0:Int),(0:Int),(0:Int),([]:List cW),K,(0:Int),(0:Int),[tkM f],(0:Int),false,([]:List S1),(0:Int),([]:List S1),E0,false,(0:Int),(0:Int),(0:Int),(0:Int),([]:List lY),([]:List ByteArray),E0,E0,(0:Int),(0:Int),())
def mS (c:aZ) (q:S29) (s:aN) (p:Int) (K:List jH) (f:S22):S28:=(c,q,s,p,(0:Int),(0:Int),(0:Int),(0:Int),([]:List cW),K,(0:Int),(0:Int),[((2:Int),d1,[f],(-1:Int),false,([]:List S1))],(0:Int),([]:List S1),false,W0,false,(0:Int),(0:Int),(0:Int),(0:Int),M0,(-1:Int),(false,(0:Int),([]:List S23)))
theorem f36_20_nil (X:S28×Unit) (Z a:T4):aA f36_20 (X,Z,a,[],((([]:List cW).length:Nat):Int),(0:Int),())=some (X,Z,a,()):=eU rfl
theorem f79_ok:f79 (M0,())=some (((0,[],[],E0,E0,0,0,()),()),()):=by
 simp only [f79,g3,g4,g5,t6]
 rw [eU (body:=f79_16) (b:=_) rfl]
 simp only [Option.bind_some,u2]
 rw [eU (body:=f79_40) (b:=_) rfl]
 rfl
theorem f81_ok:f81 (W0,())=some (((0,[],E0,()),()),()):=by
 simp only [f81]
 rw [f80_ok [] (by simp)]
 rfl
theorem f36_40_loop (X:S28×Unit) (Z:T4) (K:List jH) (hK:K.length≤1099511627776) (a0 a1 a2 a3 a4:Int) (a5:List cW) (r:Int×Int×(List dM)×Int×Bool×(List S1)×Int×(List S1)×ByteArray×Bool×Int×Int×Int×Int×(List lY)×(List ByteArray)×ByteArray×ByteArray×Int×Int×Unit) :
  aA f36_40 (X,Z,(a0,a1,a2,a3,a4,a5,[],r),K,(K.length:Int),(0:Int),())=some (X,Z,(a0,a1,a2,a3,a4,a5,K,r),()):=
 app_ok (body:=f36_40) (fun i t=>(X,Z,(a0,a1,a2,a3,a4,a5,t,r),K,(K.length:Int),i,())) (fun t=>(X,Z,(a0,a1,a2,a3,a4,a5,t,r),())) K d7 (fun i t hi ht=>by
  simp only [f36_40,g3,g4,g5,g6,u6,Int.toNat_natCast]
  rw [aH hi,aB hi,wr_up hi (by omega),cK ht hi (by omega)]
  rfl) (by
  simp only [f36_40,g3,g4,g5]
  rw [aJ]
  rfl)
theorem f36_76_loop {c:aZ} {s:aN} (g:GB c s) (X:S28×Unit) (Z a:T4) (b0 b1 b2 b4:Int) (b3:Nat) (b5:ByteArray) (b6:Int) (b7:Bool) (b8:List S1) (v:List S21) (n i:Int) :
  aA f36_76 (X,Z,a,(b0,b1,b2,b3,b5,b4,[],b6,b7,b8,()),v,n,i,[frS (c.getD 0 P0) (av s)],(([frS (c.getD 0 P0) (av s)].length:Nat):Int),(0:Int),())=some (X,Z,a,(b0,b1,b2,b3,b5,b4,[frM (c.getD 0 P0) (av s)],b6,b7,b8,()),v,n,i,()):=by
 refine one_ok (a1:=(X,Z,a,(b0,b1,b2,b3,b5,b4,[frM (c.getD 0 P0) (av s)],b6,b7,b8,()),v,n,i,[frS (c.getD 0 P0) (av s)],1,(1:Int),())) ?_ rfl
 simp only [f36_76,g3,g4,g5,g6,g7,g8,g9,u6,List.length_cons,List.length_nil,Int.toNat_zero]
 rw [show blt 0 ((0+1:Nat):Int)=true from rfl,show aE 0 ((0+1:Nat):Int)=true from rfl,w01,show [frS (c.getD 0 P0) (av s)].getD 0 d9=frS (c.getD 0 P0) (av s) from rfl,f83_ok g]
 simp only [cond_true,Option.bind_some,List.nil_append]
 rw [bH (by omega)]
 rfl
theorem f36_60_loop {c:aZ} {s:aN} (g:GB c s) (X:S28×Unit) (Z:T4) (a0 a1 a2 a3 a4:Int) (a5:List cW) (a6:List jH) (a7 a8:Int) (r:Int×Bool×(List S1)×Int×(List S1)×ByteArray×Bool×Int×Int×Int×Int×(List lY)×(List ByteArray)×ByteArray×ByteArray×Int×Int×Unit) :
  aA f36_60 (X,Z,(a0,a1,a2,a3,a4,a5,a6,a7,a8,[],r),[((2:Int),d1,[frS (c.getD 0 P0) (av s)],(-1:Int),false,([]:List S1))],(([((2:Int),d1,[frS (c.getD 0 P0) (av s)],(-1:Int),false,([]:List S1))].length:Nat):Int),(0:Int),())=some (X,Z,(a0,a1,a2,a3,a4,a5,a6,a7,a8,[tkM (frM (c.getD 0 P0) (av s))],r),()):=by
 refine one_ok (a1:=(X,Z,(a0,a1,a2,a3,a4,a5,a6,a7,a8,[tkM (frM (c.getD 0 P0) (av s))],r),[((2:Int),d1,[frS (c.getD 0 P0) (av s)],(-1:Int),false,([]:List S1))],1,(1:Int),())) ?_ rfl
 simp only [f36_60,g3,g4,g5,t5,t4,List.length_cons,List.length_nil,Int.toNat_zero]
 rw [show blt 0 ((0+1:Nat):Int)=true from rfl,show aE 0 ((0+1:Nat):Int)=true from rfl,show [((2:Int),d1,[frS (c.getD 0 P0) (av s)],(-1:Int),false,([]:List S1))].getD 0 d8=((2:Int),d1,[frS (c.getD 0 P0) (av s)],(-1:Int),false,([]:List S1)) from rfl,f80_ok [] (by simp)]
 simp only [cond_true,Option.bind_some]
 rw [show ([frS (c.getD 0 P0) (av s)].length:Int)=(([frS (c.getD 0 P0) (av s)].length:Nat):Int) from rfl,f36_76_loop g]
 simp only [Option.bind_some,g6,g7,g8,g9,u9,List.nil_append,List.length_nil]
 rw [bH (by omega),w01]
 rfl
theorem f36_ok {c:aZ} {s:aN} (g:GB c s) (q:S29) (p:Int) (K:List jH) (hK:K.length≤1099511627776):∃ b,f36 ((mS c q s p K (frS (c.getD 0 P0) (av s)),()),())=some ((mT p K (frM (c.getD 0 P0) (av s)),()),b):=by
 unfold mS
 simp only [f36,g3,g4,g5,g6,g7,g8,g9,dQ,fF,gB,fN,fE,jR,kM,iM,g18,g19,g20,g22]
 rw [f80_ok [] (by simp),f81_ok]
 simp only [Option.bind_some,cond_false]
 rw [f36_20_nil]
 simp only [Option.bind_some]
 rw [f36_40_loop _ _ _ hK]
 simp only [Option.bind_some]
 rw [f36_60_loop g]
 simp only [Option.bind_some]
 rw [f79_ok]
 exact ⟨_,rfl⟩
end Go.Ev.L7
namespace Go.Ev.L7
open Go.Proofs Go.Ev.L6
def vT (c:aZ) (q:S29) (s:aN) (p:Int) (K:List jH) (t:List S21):T6:=(c,q.1,q.2,s.1,s.2.1,s.2.2.1,s.2.2.2.1,s.2.2.2.2,p,(0:Int),(0:Int),(0:Int),(0:Int),([]:List cW),K,(0:Int),(0:Int),t,(0:Int),([]:List S1),false,(0:Int),([]:List S1),E0,false,(0:Int),(0:Int),(0:Int),(0:Int),(0:Int),([]:List lY),([]:List ByteArray),E0,E0,(0:Int),(0:Int),(-1:Int),false,(0:Int),([]:List S23),())
theorem f37_20_loop (X:T6) (s:aN) (h:IB s):aA f37_20 (X,[],s.1,(s.1.length:Int),(0:Int),())=some (X,av s,()):=by
 have hl:=av_len s
 have hi2:=h.a
 exact app_ok (body:=f37_20) (fun i t=>(X,t,s.1,(s.1.length:Int),i,())) (fun t=>(X,t,())) (av s) d1 (fun i t hi ht=>by
  rw [hl] at hi
  simp only [f37_20,f84,g3,g4,Int.toNat_natCast,Option.bind_some]
  rw [aH hi,aB hi,aC hi hi2,cK ht hi (by omega),av_get s hi]
  rfl) (by
  rw [hl]
  simp only [f37_20,g3,g4]
  rw [aJ]
  rfl)
theorem f39_32_loop (X:T9) (s:aN) (h:IB s):aA f39_32 (X,[],s.1,(s.1.length:Int),(0:Int),())=some (X,av s,()):=by
 have hl:=av_len s
 have hi2:=h.a
 exact app_ok (body:=f39_32) (fun i t=>(X,t,s.1,(s.1.length:Int),i,())) (fun t=>(X,t,())) (av s) d1 (fun i t hi ht=>by
  rw [hl] at hi
  simp only [f39_32,f87,g3,g4,Int.toNat_natCast,Option.bind_some]
  rw [aH hi,aB hi,aC hi hi2,cK ht hi (by omega),av_get s hi]
  rfl) (by
  rw [hl]
  simp only [f39_32,g3,g4]
  rw [aJ]
  rfl)
abbrev Kn (c:aZ):List jH:=List.replicate (prep c).2.toNat d7
theorem Kn_len {c:aZ} {s:aN} (g:GB c s):(Kn c).length≤1099511627776:=by
 have:=prep_b g
 rw [List.length_replicate]
 omega
theorem f37_ok {c:aZ} {s:aN} (g:GB c s) (p:Int):f37 (c,s,p,(-1:Int),())=some ((vT c (prep c) s p (Kn c) [((2:Int),d1,[frS (c.getD 0 P0) (av s)],(-1:Int),false,([]:List S1))],()),()):=by
 have hb:=prep_b g
 simp only [f37,g3,t4]
 rw [f25_ok g]
 simp only [Option.bind_some]
 rw [cC hb.1 (by omega),f37_20_loop _ s g.ib]
 simp only [Option.bind_some,cond_true,iM,u17,List.nil_append,List.length_nil,List.length_cons]
 rw [bH (by omega),f85_ok g _ ((2:Int),d1,[],(-1:Int),false,[]) rfl rfl rfl rfl]
 rfl
theorem f15_ok {c:aZ} {s:aN} (g:GB c s) (p:Int) (h:ok c s p=true):f15 (c,s,p,())=some ((mM p (Kn c) (frM (c.getD 0 P0) (av s)),()),()):=by
 obtain ⟨b,hb⟩:=f36_ok g (prep c) p (Kn c) (Kn_len g)
 simp only [f15]
 rw [f35_ok c g.w s g.ib p,h]
 simp only [Option.bind_some,Bool.not_true,cond_false]
 rw [f37_ok g p]
 simp only [Option.bind_some]
 show (f36 ((mS c (prep c) s p (Kn c) (frS (c.getD 0 P0) (av s)),()),())).bind _=_
 rw [hb]
 rfl
abbrev zM:S31:=((0:Int),(0:Int),(0:Int),(0:Int),(0:Int),([]:List cW),([]:List jH),(0:Int),(0:Int),([]:List dM),(0:Int),false,([]:List S1),W0,false,(0:Int),(0:Int),(0:Int),M0)
abbrev zT:T4:=((0:Int),(0:Int),(0:Int),(0:Int),(0:Int),([]:List cW),([]:List jH),(0:Int),(0:Int),([]:List dM),(0:Int),false,([]:List S1),(0:Int),([]:List S1),E0,false,(0:Int),(0:Int),(0:Int),(0:Int),([]:List lY),([]:List ByteArray),E0,E0,(0:Int),(0:Int),())
theorem f15_no {c:aZ} {s:aN} (w:CW c) (h:IB s) (p:Int) (hk:ok c s p=false):f15 (c,s,p,())=some ((zM,()),()):=by
 simp only [f15]
 rw [f35_ok c w s h p,hk]
 rfl
theorem f88_ok {c:aZ} {s:aN} (g:GB c s) (m:S31) (s2:aN) (q:S29) (k:Int):f88 (((m,c,s2,q,k,()),()),(0:Int),(-1:Int),av s,())=some ((frT (c.getD 0 P0) (av s),()),((m,c,s2,q,k,()),()),()):=by
 have pw:=regs_ok g
 have hA:=av_ab g.ib g.ab
 unfold frT
 generalize hp:c.getD 0 P0=p at pw
 obtain ⟨hR,hP,-,-,-,-⟩:=pw
 have hP2:p.2.2.1≤(p.2.2.2.2.1.toNat:Int):=by
  cases hq:p.2.2.2.1 with
  | true=>rw [hq] at hP;simp only [cond_true] at hP;omega
  | false=>rw [hq] at hP;simp only [cond_false] at hP;omega
 have hg:c.getD (0:Int).toNat d10=p:=hp
 simp only [f88,hg,g3,g4]
 rw [aK (by omega) (by have:=g.pos;omega),cC (show 0≤p.2.2.2.2.1 from hR.1) (show p.2.2.2.2.1≤_ by have:=hR.2;omega)]
 simp only [cond_true]
 have l2:=(f85_20_loop ([],[],0,[],[],0,0,0,0,0,0,0,0,[],[],0,0,[],0,[],false,0,[],E0,false,0,0,0,0,0,[],[],E0,E0,0,0,0,false,0,[],()) (av s) p p.2.2.2.2.1.toNat hA hP.1 hP2 (by omega) 1 0 0 0 (-1) 0 0 0 0 (-1) [] [] [] false false [] E0).2
 have hl:=l2.len
 have hn:=l2.new p.2.2.1.toNat (Nat.le_refl _)
 have hL:=f88_16_loop (m,c,s2,q,k,()) (av s) p ((0:Int),(0:Int),(0:Int),false,([]:List S1),(0:Int),(0:Int),(0:Int),(0:Int),(0:Int),([]:List eC),([]:List eV),false,false,(0:Int),([]:List S1),E0,(0:Int),()) p.2.2.2.2.1.toNat hA hP.1 hP2 (by omega) 1 0 0 0 (-1) 0 0 0 0 (-1) false false false [] [] [] E0
 rw [hL]
 simp only [Option.bind_some]
 unfold FR
 cases hq:p.2.2.2.1 with
 | false=>rfl
 | true=>
  rw [hq] at hP
  simp only [cond_true] at hP
  simp only [cond_true,dQ,u10]
  rw [aK hP.1 (by omega),hn]
  by_cases h:p.2.2.1 < ((av s).length:Int)
  ·rw [bD h,cC hP.1 (by omega),f90_ok _ (by rw [List.length_drop];have:=hA.1;omega),L6.getD_set_eq (by omega)]
   simp only [cond_true,Option.bind_some,List.set_set]
  ·rw [aR (by omega),List.drop_of_length_le (by omega)]
   rfl
end Go.Ev.L7
