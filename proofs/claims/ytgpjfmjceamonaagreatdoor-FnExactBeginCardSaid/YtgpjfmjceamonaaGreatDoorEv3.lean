/-
 The abstract evaluator: how its states stand to the machine's; what moves leave them standing.
-/
import Derived.Test.YtgpjfmjceamonaaGreatDoorEv2
namespace Go.Ev
def All2 {α β:Type} (R:α→β→Prop):List α→List β→Prop
 | [],[]=>True
 | a ::as,b ::bs=>R a b∧All2 R as bs
 | _,_=>False
section
variable {α β:Type} {R R':α→β→Prop}
theorem All2.length:∀ {as:List α} {bs:List β},All2 R as bs→as.length=bs.length
 | [],[],_=>rfl
 | _ ::_,_ ::_,h=>by simp [All2.length h.2]
theorem All2.imp (hR:∀ a b,R a b→R' a b):∀ {as:List α} {bs:List β},All2 R as bs→All2 R' as bs
 | [],[],_=>trivial
 | _ ::_,_ ::_,h=>⟨hR _ _ h.1,All2.imp hR h.2⟩
theorem All2.append:∀ {as as':List α} {bs bs':List β},All2 R as bs→All2 R as' bs'→All2 R (as ++as') (bs ++bs')
 | [],_,[],_,_,h=>h
 | _ ::_,_,_ ::_,_,h,h'=>⟨h.1,All2.append h.2 h'⟩
theorem All2.split:∀ {as as':List α} {cs:List β},All2 R (as ++as') cs→∃ bs bs',cs=bs ++bs'∧All2 R as bs∧All2 R as' bs'
 | [],_,cs,h=>⟨[],cs,rfl,trivial,h⟩
 | _ ::_,_,c ::cs,h=>by
  obtain ⟨bs,bs',e,h1,h2⟩:=All2.split h.2
  exact ⟨c ::bs,bs',by rw [e];rfl,⟨h.1,h1⟩,h2⟩
theorem All2.take:∀ (n:Nat) {as:List α} {bs:List β},All2 R as bs→All2 R (as.take n) (bs.take n)
 | 0,_,_,_=>by simp [All2]
 | _+1,[],[],_=>trivial
 | n+1,_ ::_,_ ::_,h=>⟨h.1,All2.take n h.2⟩
theorem All2.drop:∀ (n:Nat) {as:List α} {bs:List β},All2 R as bs→All2 R (as.drop n) (bs.drop n)
 | 0,_,_,h=>h
 | _+1,[],[],_=>trivial
 | n+1,_ ::_,_ ::_,h=>All2.drop n h.2
theorem All2.get_left:∀ {as:List α} {bs:List β},All2 R as bs→∀ (i:Nat) (a:α),as[i]?=some a→∃ b,bs[i]?=some b∧R a b
 | a ::as,b ::bs,h,0,_,ha=>by
  simp at ha
  subst ha
  exact ⟨b,rfl,h.1⟩
 | _ ::as,_ ::bs,h,i+1,a,ha=>by
  obtain ⟨b,hb,hr⟩:=All2.get_left h.2 i a (by simpa using ha)
  exact ⟨b,by simpa using hb,hr⟩
end
def KF (Fz:Nat→Prop) (w:World):(t:Ty)→t.den→List Value→Prop
 | .int k,n,cs=>cs=[.int k n]
 | .bool,b,cs=>cs=[.bool b]
 | .str,s,cs=>cs=[.string s]
 | .flt,b,cs=>cs=[.float .f64 b]
 | .np,_,cs=>cs=[.pointer none]
 | .nf,_,cs=>cs=[.nilFunc]
 | .st t,x,cs=>KF Fz w t x cs
 | .pair a b,x,cs=>∃ c1 c2,cs=c1 ++c2∧KF Fz w a x.1 c1∧KF Fz w b x.2 c2
 | .row t,xs,cs=>∃ A c,cs=[.slice A xs.length c]∧xs.length≤c∧(A=none→c=0)∧∀ (i:Nat) (x:t.den),xs[i]?=some x→
   ∃ ad es,A=some ad∧Fz ad.block∧KF Fz w t x es∧∀ (j:Nat) (u:Value),es[j]?=some u→w.cell? (ad.add (i*t.sz+j))=some u
theorem KF.len {Fz:Nat→Prop} {w:World}:∀ {t:Ty} {x:t.den} {cs:List Value},KF Fz w t x cs→cs.length=t.sz
 | .int _,_,_,h=>by rw [show _=_ from h];rfl
 | .bool,_,_,h=>by rw [show _=_ from h];rfl
 | .str,_,_,h=>by rw [show _=_ from h];rfl
 | .flt,_,_,h=>by rw [show _=_ from h];rfl
 | .np,_,_,h=>by rw [show _=_ from h];rfl
 | .nf,_,_,h=>by rw [show _=_ from h];rfl
 | .st t,x,cs,h=>KF.len (t:=t) (x:=x) (cs:=cs) h
 | .pair _ _,_,_,h=>by
  obtain ⟨c1,c2,rfl,h1,h2⟩:=h
  rw [List.length_append,KF.len h1,KF.len h2]
  rfl
 | .row _,_,_,h=>by
  obtain ⟨A,c,rfl,_⟩:=h
  rfl
theorem KF.one {Fz:Nat→Prop} {w:World}:∀ {t:Ty} {x:t.den} {cs:List Value},KF Fz w t x cs→∀ u∈cs,u.oneCell'=true
 | .int _,_,_,h,u,hu=>by rw [show _=_ from h] at hu;simp at hu;subst hu;rfl
 | .bool,_,_,h,u,hu=>by rw [show _=_ from h] at hu;simp at hu;subst hu;rfl
 | .str,_,_,h,u,hu=>by rw [show _=_ from h] at hu;simp at hu;subst hu;rfl
 | .flt,_,_,h,u,hu=>by rw [show _=_ from h] at hu;simp at hu;subst hu;rfl
 | .np,_,_,h,u,hu=>by rw [show _=_ from h] at hu;simp at hu;subst hu;rfl
 | .nf,_,_,h,u,hu=>by rw [show _=_ from h] at hu;simp at hu;subst hu;rfl
 | .st t,x,cs,h,u,hu=>KF.one (t:=t) (x:=x) (cs:=cs) h u hu
 | .pair _ _,_,_,h,u,hu=>by
  obtain ⟨c1,c2,rfl,h1,h2⟩:=h
  rcases List.mem_append.1 hu with hu | hu
  ·exact KF.one h1 u hu
  ·exact KF.one h2 u hu
 | .row _,_,_,h,u,hu=>by
  obtain ⟨A,c,rfl,_⟩:=h
  simp at hu
  subst hu
  rfl
theorem block_lt {w:World} {a:Addr} {v:Value} (h:w.cell? a=some v):a.block < w.heap.size:=by
 unfold World.cell? at h
 cases hb:w.heap[a.block]? with
 | none=>rw [hb] at h;cases h
 | some o=>exact (Array.getElem?_eq_some_iff.1 hb).1
theorem iP (a:Addr) (n:Nat):(a.add n).block=a.block:=by unfold Addr.add;split<;>rfl
theorem KF.move {Fz Fz':Nat→Prop} {w w':World} (hF:∀ k,Fz k→Fz' k) (hw:∀ k,Fz k→k < w.heap.size→w'.heap[k]?=w.heap[k]?) :
  ∀ {t:Ty} {x:t.den} {cs:List Value},KF Fz w t x cs→KF Fz' w' t x cs
 | .int _,_,_,h=>h
 | .bool,_,_,h=>h
 | .str,_,_,h=>h
 | .flt,_,_,h=>h
 | .np,_,_,h=>h
 | .nf,_,_,h=>h
 | .st t,x,cs,h=>KF.move (t:=t) (x:=x) (cs:=cs) hF hw h
 | .pair _ _,_,_,h=>by
  obtain ⟨c1,c2,e,h1,h2⟩:=h
  exact ⟨c1,c2,e,KF.move hF hw h1,KF.move hF hw h2⟩
 | .row t,xs,_,h=>by
  obtain ⟨A,c,e,hl,hz,hx⟩:=h
  refine ⟨A,c,e,hl,hz,fun i x hi=>?_⟩
  obtain ⟨ad,es,e1,hf,hk,hc⟩:=hx i x hi
  refine ⟨ad,es,e1,hF _ hf,KF.move hF hw hk,fun j u hj=>?_⟩
  have h1:=hc j u hj
  have hb:(ad.add (i*t.sz+j)).block=ad.block:=iP _ _
  have hlt:=block_lt h1
  rw [hb] at hlt
  rw [World.cell?_of_block (w:=w) (by rw [hb];exact hw _ hf hlt)]
  exact h1
structure Ctx where
 σ:Nat→Value
 Fz:Nat→Prop
 Dm:Nat→Prop
 ex:Nat→List Nat
 hd:Nat→Nat→Nat→Value
def bI:Value→Option Nat
 | .pointer (some a)=>some a.block
 | .slice (some a) _ _=>some a.block
 | .map (some r)=>some r
 | _=>none
def Ctx.fp (C:Ctx) (i:Nat):List Nat:=(bI (C.σ i)).toList ++C.ex i
theorem dK {C:Ctx} {i g:Nat} (h:bI (C.σ i)=some g):g∈C.fp i:=by
 unfold Ctx.fp
 rw [h]
 exact List.mem_append_left _ (List.mem_singleton.2 rfl)
theorem lK {C:Ctx} {i g:Nat} (h:C.ex i=[]):g∈C.fp i↔bI (C.σ i)=some g:=by
 unfold Ctx.fp
 rw [h,List.append_nil]
 cases bI (C.σ i)<;>simp [eq_comm]
def CRel (C:Ctx) (w:World):CV→Value→Prop
 | .junk,_=>True
 | .int k n,v=>v= .int k n
 | .bool b,v=>v= .bool b
 | .str s,v=>v= .string s
 | .flt b,v=>v= .float .f64 b
 | .nilf,v=>v= .nilFunc
 | .nil,v=>v= .slice none 0 0
 | .fz t xs,v=>KF C.Fz w (.row t) xs [v]
 | .own o,v=>C.Dm o∧v=C.σ o
 | .pbox b off,v=>C.Dm b∧∃ g,C.σ b= .pointer (some ⟨g,0,none⟩)∧v= .pointer (some ⟨g,off,none⟩)
 | .pel o t i off,v=>C.Dm o∧∃ ad l c,C.σ o= .slice (some ad) l c∧0≤i∧i.toNat < l∧v= .pointer (some (ad.add (i.toNat*t.sz+off)))
 | .pfz t x off,v=>∃ ad cs,v= .pointer (some ad)∧C.Fz ad.block∧KF C.Fz w t x cs∧∀ (j:Nat) (u:Value),cs[off+j]?=some u→w.cell? (ad.add j)=some u
 | .nilp,v=>v= .pointer none
 | .clo f caps,v=>∃ vs:List Value,v= .func (.func f) #[] vs.toArray∧All2 (fun b u=>C.Dm b∧∃ g,C.σ b= .pointer (some ⟨g,0,none⟩)∧u= .pointer (some ⟨g,0,none⟩)) caps vs
 | .glob g,v=>v= .pointer (some ⟨g,0,none⟩)
 | .gmap g,v=>∃ r,v= .map (some r)∧w.cell? ⟨g,0,none⟩=some v∧C.Fz g
 | .mref o,v=>C.Dm o∧v=C.σ o
 | .sub o i off,v=>C.Dm o∧(∃ ad l c,C.σ o= .slice (some ad) l c∧i.toNat < l)∧v=C.hd o i.toNat off∧v.oneCell'=true
structure CLe (C C':Ctx):Prop where
 σ:∀ i,C.Dm i→C'.σ i=C.σ i
 Fz:∀ k,C.Fz k→C'.Fz k
 Dm:∀ i,C.Dm i→C'.Dm i
 hd:∀ i,C.Dm i→C'.hd i=C.hd i
theorem CLe.refl (C:Ctx):CLe C C:=⟨fun _ _=>rfl,fun _ h=>h,fun _ h=>h,fun _ _=>rfl⟩
theorem CLe.trans {A B C:Ctx} (h:CLe A B) (k:CLe B C):CLe A C:=⟨fun i hi=>(k.σ i (h.Dm i hi)).trans (h.σ i hi),fun x hx=>k.Fz x (h.Fz x hx),fun i hi=>k.Dm i (h.Dm i hi),fun i hi=>(k.hd i (h.Dm i hi)).trans (h.hd i hi)⟩
theorem CRel.move {C C':Ctx} {w w':World} (hle:CLe C C') (hw:∀ k,C.Fz k→k < w.heap.size→w'.heap[k]?=w.heap[k]?) :
  ∀ {c:CV} {v:Value},CRel C w c v→CRel C' w' c v
 | .junk,_,_=>trivial
 | .int _ _,_,h=>h
 | .bool _,_,h=>h
 | .str _,_,h=>h
 | .flt _,_,h=>h
 | .nilf,_,h=>h
 | .nil,_,h=>h
 | .fz _ _,_,h=>KF.move hle.Fz hw h
 | .own o,_,h=>⟨hle.Dm _ h.1,by rw [hle.σ _ h.1];exact h.2⟩
 | .pbox b off,_,⟨hd,g,h1,h2⟩=>⟨hle.Dm _ hd,g,by rw [hle.σ _ hd];exact h1,h2⟩
 | .pel o t i off,_,⟨hd,ad,l,c,h1,h2⟩=>⟨hle.Dm _ hd,ad,l,c,by rw [hle.σ _ hd];exact h1,h2⟩
 | .pfz t x off,_,⟨ad,cs,h1,hf,hk,hc⟩=>⟨ad,cs,h1,hle.Fz _ hf,KF.move hle.Fz hw hk,fun j u hj=>by
   have h2:=hc j u hj
   have hb:(ad.add j).block=ad.block:=iP _ _
   have hlt:=block_lt h2
   rw [hb] at hlt
   rw [World.cell?_of_block (w:=w) (by rw [hb];exact hw _ hf hlt)]
   exact h2⟩
 | .nilp,_,h=>h
 | .clo f caps,_,⟨vs,h1,h2⟩=>⟨vs,h1,h2.imp fun b u ⟨hd,g,h3,h4⟩=>⟨hle.Dm _ hd,g,by rw [hle.σ _ hd];exact h3,h4⟩⟩
 | .glob _,_,h=>h
 | .gmap g,_,⟨r,h0,h1,h2⟩=>⟨r,h0,by rw [World.cell?_of_block (w:=w) (hw _ h2 (block_lt h1))];exact h1,hle.Fz _ h2⟩
 | .mref o,_,h=>⟨hle.Dm _ h.1,by rw [hle.σ _ h.1];exact h.2⟩
 | .sub o i off,_,h=>⟨hle.Dm _ h.1,by rw [hle.σ _ h.1];exact h.2.1,by rw [hle.hd _ h.1];exact h.2.2.1,h.2.2.2⟩
def VRel (C:Ctx) (w:World):Vl→Value→Prop
 | .one c,v=>CRel C w c v
 | .agg cs,v=>∃ arr:Array Value,v= .agg arr∧All2 (CRel C w) cs arr.toList
theorem VRel.move {C C':Ctx} {w w':World} (hle:CLe C C') (hw:∀ k,C.Fz k→k < w.heap.size→w'.heap[k]?=w.heap[k]?) :
  ∀ {c:Vl} {v:Value},VRel C w c v→VRel C' w' c v
 | .one _,_,h=>CRel.move hle hw h
 | .agg _,_,⟨arr,h1,h2⟩=>⟨arr,h1,h2.imp fun _ _ h=>CRel.move hle hw h⟩
def ARel (C:Ctx) (w:World):AV→Value→Prop
 | .v x,v=>VRel C w x v
 | .tup xs,v=>∃ arr:Array Value,v= .tuple arr∧All2 (VRel C w) xs arr.toList
theorem ARel.move {C C':Ctx} {w w':World} (hle:CLe C C') (hw:∀ k,C.Fz k→k < w.heap.size→w'.heap[k]?=w.heap[k]?) :
  ∀ {c:AV} {v:Value},ARel C w c v→ARel C' w' c v
 | .v _,_,h=>VRel.move hle hw h
 | .tup _,_,⟨arr,h1,h2⟩=>⟨arr,h1,h2.imp fun _ _ h=>VRel.move hle hw h⟩
theorem KF.cells {C:Ctx} {w:World}:∀ {t:Ty} {x:t.den} {vs:List Value},KF C.Fz w t x vs→All2 (CRel C w) (t.cells x) vs
 | .int _,_,_,h=>by rw [show _=_ from h];exact ⟨rfl,trivial⟩
 | .bool,_,_,h=>by rw [show _=_ from h];exact ⟨rfl,trivial⟩
 | .str,_,_,h=>by rw [show _=_ from h];exact ⟨rfl,trivial⟩
 | .flt,_,_,h=>by rw [show _=_ from h];exact ⟨rfl,trivial⟩
 | .np,_,_,h=>by rw [show _=_ from h];exact ⟨rfl,trivial⟩
 | .nf,_,_,h=>by rw [show _=_ from h];exact ⟨rfl,trivial⟩
 | .st t,x,cs,h=>KF.cells (t:=t) (x:=x) (vs:=cs) h
 | .pair _ _,_,_,h=>by
  obtain ⟨c1,c2,rfl,h1,h2⟩:=h
  exact (KF.cells h1).append (KF.cells h2)
 | .row t,xs,vs,h=>by
  have h0:KF C.Fz w (.row t) xs vs:=h
  obtain ⟨A,c,rfl,_⟩:=h
  exact ⟨h0,trivial⟩
theorem aG (m:aX) (i:Nat) (b:Bk) (j:Nat):aF (aI m i b) j=if j=i then some b else aF m j:=by
 induction m with
 | nil=>
  simp only [aI,aF]
  by_cases h:j=i
  ·subst h;simp
  ·have:Nat.beq i j=false:=by
    rw [Bool.eq_false_iff];intro hh;exact h (Nat.eq_of_beq_eq_true hh).symm
   simp [h,this]
 | cons p r ih=>
  obtain ⟨k,c⟩:=p
  simp only [aI]
  cases h1:Nat.beq k i with
  | true=>
   have hk:=Nat.eq_of_beq_eq_true h1
   subst hk
   simp only [cond_true,aF]
   by_cases h:j=k
   ·subst h;simp
   ·have:Nat.beq k j=false:=by
     rw [Bool.eq_false_iff];intro hh;exact h (Nat.eq_of_beq_eq_true hh).symm
    simp [h,this]
  | false=>
   simp only [cond_false]
   cases h2:Nat.blt i k with
   | true=>
    simp only [cond_true,aF]
    by_cases h:j=i
    ·subst h;simp
    ·have:Nat.beq i j=false:=by
      rw [Bool.eq_false_iff];intro hh;exact h (Nat.eq_of_beq_eq_true hh).symm
     simp [h,this]
   | false=>
    simp only [cond_false,aF,ih]
    cases h3:Nat.beq k j with
    | true=>
     have hk:=Nat.eq_of_beq_eq_true h3
     subst hk
     have:¬ k=i:=fun hh=>by subst hh;rw [show Nat.beq k k=true from Nat.beq_refl k] at h1;cases h1
     simp [this]
    | false=>simp
def hoL (n:Nat) (ho:List (Nat×Value)):List (Nat×Value):=ho.filter fun p=>Nat.blt p.1 n
def hoR (n:Nat) (ho:List (Nat×Value)):List (Nat×Value):=(ho.filter fun p=>!(Nat.blt p.1 n)).map fun p=>(p.1 - n,p.2)
def hoHere (ho:List (Nat×Value)):Option Value:=(ho.find? fun p=>Nat.beq p.1 0).map (·.2)
def Elts {α:Type} (R:Nat→α→List Value→List Nat→Prop):Nat→List α→List Value→List Nat→Prop
 | _,[],cells,bs=>cells=[]∧bs=[]
 | k,x ::xs,cells,bs=>∃ c1 c2 b1 b2,cells=c1 ++c2∧bs=b1 ++b2∧R k x c1 b1∧Elts R (k+1) xs c2 b2
def DVH (Fz:Nat→Prop) (w:World):List (Nat×Value)→(d:DT)→d.ty.den→List Value→List Nat→Prop
 | _, .fl t,x,cs,bs=>KF Fz w t x cs∧bs=[]
 | ho, .st d,x,cs,bs=>DVH Fz w ho d x cs bs
 | ho, .pair a b,x,cs,bs=>∃ c1 c2 b1 b2,cs=c1 ++c2∧bs=b1 ++b2∧DVH Fz w (hoL a.ty.sz ho) a x.1 c1 b1∧DVH Fz w (hoR a.ty.sz ho) b x.2 c2 b2
 | ho, .row E d,xs,cs,bs=>(∃ v,hoHere ho=some v∧cs=[v]∧v.oneCell'=true∧bs=[])∨
   (hoHere ho=none∧∃ u cells b2,cs=[u]∧bs=(bI u).toList ++b2∧w.ownsRow 0 E d.ty.sz u xs.length cells∧Elts (fun _=>DVH Fz w [] d) 0 xs cells b2)
def OwnD (Fz:Nat→Prop) (w:World) (E:Nat) (d:DT) (xs:List d.ty.den) (u:Value) (bs:List Nat):Prop:=
 ∃ cells b2,bs=(bI u).toList ++b2∧w.ownsRow 0 E d.ty.sz u xs.length cells∧Elts (fun _=>DVH Fz w [] d) 0 xs cells b2
def eW (C:Ctx) (hs:List (Int×Nat×Nat)) (k:Nat):List (Nat×Value):=(hs.filter fun p=>Nat.beq p.1.toNat k).map fun p=>(p.2.1,C.σ p.2.2)
def gY:DT→Nat→Bool
 | .fl _,_=>false
 | .st d,off=>gY d off
 | .pair a b,off=>bif Nat.blt off a.ty.sz then gY a off else gY b (off - a.ty.sz)
 | .row _ _,off=>Nat.beq off 0
def Heads (C:Ctx) (i:Nat) (d:DT) (n:Nat) (cells:List Value):Prop:=∀ k off,k < n→off < d.ty.sz→gY d off=true→cells[k*d.ty.sz+off]?=some (C.hd i k off)
def gF:Bk→Bool
 | .dead=>false
 | .frz _ _=>false
 | _=>true
def RowC (Fz:Nat→Prop) (w:World) (t:Ty) (xs:List t.den) (cells:List Value):Prop:=
 ∀ (i:Nat) (x:t.den),xs[i]?=some x→∃ es,KF Fz w t x es∧∀ (j:Nat) (u:Value),es[j]?=some u→cells[i*t.sz+j]?=some u
def Born (l:List MapEntry) (ck:Nat):Prop:=(∀ m,m∈l→m.born < ck)∧(l.map (·.born)).Nodup
def BRel (D:Nat→Prop) (C:Ctx) (w:World) (i:Nat):Bk→Prop
 | .dead=>True
 | .box T cs=>(∃ g arr,C.σ i= .pointer (some ⟨g,0,none⟩)∧w.heap[g]?=some (.cells arr T (0,0))∧All2 (CRel C w) cs arr.toList∧¬ C.Fz g∧D g)∧C.ex i=[]
 | .row E t xs=>(∃ cells,w.ownsRow 0 E t.sz (C.σ i) xs.length cells∧RowC C.Fz w t xs cells∧∀ g,bI (C.σ i)=some g→¬ C.Fz g∧D g)∧C.ex i=[]
 | .frz t xs=>KF C.Fz w (.row t) xs [C.σ i]
 | .mp es=>(∃ g ents ck,C.σ i= .map (some g)∧w.heap[g]?=some (.map ents ck)∧(All2 (fun (p:Int×Int) (m:MapEntry)=>m.key= .int .i64 p.1∧m.val= .int .i64 p.2) es ents.toList∧Born ents.toList ck)∧¬ C.Fz g∧D g)∧C.ex i=[]
 | .deep E d xs fx hs=>(∃ cells b2,w.ownsRow 0 E d.ty.sz (C.σ i) xs.length cells∧Elts (fun k=>DVH C.Fz w (eW C hs k) d) 0 xs cells b2∧(C.ex i).Perm b2∧(fx=true→Heads C i d xs.length cells))∧(C.fp i).Nodup∧(∀ g,g∈C.fp i→¬ C.Fz g∧D g∧g < w.heap.size)∧(∀ p,p∈hs→C.Dm p.2.2)∧(hs.map fun p=>p.2.1).Nodup∧∀ p,p∈hs→p.1.toNat < xs.length
structure RelM (D:Nat→Prop) (C:Ctx) (w:World) (m:aX):Prop where
 blk:∀ i b,aF m i=some b→BRel D C w i b
 inj:∀ i j b c,aF m i=some b→aF m j=some c→gF b=true→gF c=true→i≠j→∀ g,g∈C.fp i→g∉C.fp j
 dm:∀ i,C.Dm i↔(aF m i).isSome=true
 one:∀ i,C.Dm i→(C.σ i).oneCell'=true
structure Ch (w w':World) (X:Nat→Prop):Prop where
 os:w'.os=w.os
 tape:w'.tape=w.tape
 output:w'.output=w.output
 size:w.heap.size≤w'.heap.size
 block:∀ k,k < w.heap.size→¬ X k→w'.heap[k]?=w.heap[k]?
theorem Ch.refl (w:World) (X:Nat→Prop):Ch w w X:=⟨rfl,rfl,rfl,Nat.le_refl _,fun _ _ _=>rfl⟩
theorem Ch.mono {a b:World} {X Y:Nat→Prop} (h:Ch a b X) (hxy:∀ k,k < a.heap.size→X k→Y k):Ch a b Y:=
 ⟨h.os,h.tape,h.output,h.size,fun k hk hy=>h.block k hk (fun hx=>hy (hxy k hk hx))⟩
theorem kE {v:Value}:∀ {w:World} {base e size n:Nat} {xs:List Value},w.ownsRow base e size v n xs→bI v=v.ownBlock:=by
 intro w base e size n xs h
 rcases h.2 with ⟨rfl,_⟩ | ⟨g,cap,cur,rfl,_⟩<;>rfl
theorem own_heap {w w':World} {base e size n:Nat} {v:Value} {xs:List Value} (h:w.ownsRow base e size v n xs) (hk:∀ g,bI v=some g→w'.heap[g]?=w.heap[g]?):w'.ownsRow base e size v n xs:=by
 obtain ⟨h1,h2⟩:=h
 refine ⟨h1,?_⟩
 rcases h2 with h2 | ⟨g,cap,cur,rfl,hb,hg,r⟩
 ·exact .inl h2
 ·exact .inr ⟨g,cap,cur,rfl,hb,by rw [hk g rfl];exact hg,r⟩
theorem own_blk_lt {w:World} {base e size n:Nat} {v:Value} {xs:List Value} (h:w.ownsRow base e size v n xs) {g:Nat} (hg:bI v=some g):g < w.heap.size:=by
 rcases h.2 with ⟨rfl,_⟩ | ⟨g',cap,cur,rfl,_,hh,_⟩
 ·cases hg
 ·have:g'=g:=by simpa [bI] using hg
  subst this
  exact (Array.getElem?_eq_some_iff.1 hh).1
theorem Elts.imp {α:Type} {R R':Nat→α→List Value→List Nat→Prop}:∀ {k:Nat} {xs:List α} {cells:List Value} {bs:List Nat},(∀ j x c b,x∈xs→(∀ g,g∈b→g∈bs)→R j x c b→R' j x c b)→Elts R k xs cells bs→Elts R' k xs cells bs
 | _,[],_,_,_,h=>h
 | k,x ::xs,cells,bs,hR,h=>by
  obtain ⟨c1,c2,b1,b2,rfl,rfl,h1,h2⟩:=h
  exact ⟨c1,c2,b1,b2,rfl,rfl,hR k x c1 b1 List.mem_cons_self (fun g hg=>List.mem_append_left _ hg) h1,Elts.imp (fun j y c b hy hb hr=>hR j y c b (List.mem_cons_of_mem _ hy) (fun g hg=>List.mem_append_right _ (hb g hg)) hr) h2⟩
theorem own_one {w:World} {E n sz:Nat} {u:Value} {cells:List Value} (h:w.ownsRow 0 E sz u n cells):u.oneCell'=true:=by
 rcases h.2 with ⟨rfl,_⟩ | ⟨g,cap,cur,rfl,_⟩<;>rfl
theorem DVH.len {Fz:Nat→Prop} {w:World}:∀ {d:DT} {ho:List (Nat×Value)} {x:d.ty.den} {cs:List Value} {bs:List Nat},DVH Fz w ho d x cs bs→cs.length=d.ty.sz
 | .fl _,_,_,_,_,h=>h.1.len
 | .st d,ho,x,cs,bs,h=>DVH.len (d:=d) (ho:=ho) (x:=x) (bs:=bs) h
 | .pair _ _,_,_,_,_,h=>by
  obtain ⟨c1,c2,b1,b2,rfl,_,h1,h2⟩:=h
  rw [List.length_append,DVH.len h1,DVH.len h2]
  rfl
 | .row _ _,_,_,_,_,h=>by
  rcases h with ⟨v,_,rfl,_⟩ | ⟨_,u,cells,b2,rfl,_⟩<;>rfl
theorem DVH.one {Fz:Nat→Prop} {w:World}:∀ {d:DT} {ho:List (Nat×Value)} {x:d.ty.den} {cs:List Value} {bs:List Nat},DVH Fz w ho d x cs bs→∀ u∈cs,u.oneCell'=true
 | .fl _,_,_,_,_,h,u,hu=>h.1.one u hu
 | .st d,ho,x,cs,bs,h,u,hu=>DVH.one (d:=d) (ho:=ho) (x:=x) (bs:=bs) h u hu
 | .pair _ _,_,_,_,_,h,u,hu=>by
  obtain ⟨c1,c2,b1,b2,rfl,_,h1,h2⟩:=h
  rcases List.mem_append.1 hu with hu | hu
  ·exact DVH.one h1 u hu
  ·exact DVH.one h2 u hu
 | .row _ _,_,_,_,_,h,u,hu=>by
  rcases h with ⟨v,_,rfl,hv,_⟩ | ⟨_,v,cells,b2,rfl,_,ho,_⟩
  ·rw [List.mem_singleton] at hu
   rw [hu]
   exact hv
  ·rw [List.mem_singleton] at hu
   rw [hu]
   exact own_one ho
theorem DVH.move {Fz Fz':Nat→Prop} {w w':World} (hF:∀ k,Fz k→Fz' k) (hw:∀ k,Fz k→k < w.heap.size→w'.heap[k]?=w.heap[k]?) :
  ∀ {d:DT} {ho:List (Nat×Value)} {x:d.ty.den} {cs:List Value} {bs:List Nat},(∀ g,g∈bs→w'.heap[g]?=w.heap[g]?)→DVH Fz w ho d x cs bs→DVH Fz' w' ho d x cs bs
 | .fl _,_,_,_,_,_,h=>⟨KF.move hF hw h.1,h.2⟩
 | .st d,ho,x,cs,bs,hb,h=>DVH.move hF hw (d:=d) (ho:=ho) (x:=x) (bs:=bs) hb h
 | .pair _ _,_,_,_,_,hb,h=>by
  obtain ⟨c1,c2,b1,b2,rfl,rfl,h1,h2⟩:=h
  exact ⟨c1,c2,b1,b2,rfl,rfl,DVH.move hF hw (fun g hg=>hb g (List.mem_append_left _ hg)) h1,DVH.move hF hw (fun g hg=>hb g (List.mem_append_right _ hg)) h2⟩
 | .row _ d,_,_,_,_,hb,h=>by
  rcases h with h | ⟨hh,u,cells,b2,rfl,rfl,ho,he⟩
  ·exact .inl h
  ·refine .inr ⟨hh,u,cells,b2,rfl,rfl,own_heap ho (fun g hg=>hb g (List.mem_append_left _ (by rw [hg];exact List.mem_singleton.2 rfl))),he.imp fun j x c b _ hbb hr=>?_⟩
   exact DVH.move hF hw (fun g hg=>hb g (List.mem_append_right _ (hbb g hg))) hr
theorem BRel.exNil {D:Nat→Prop} {C:Ctx} {w:World} {i:Nat} {b:Bk} (h:BRel D C w i b) (hl:gF b=true):C.ex i=[]∨∃ E d xs fx hs,b= .deep E d xs fx hs:=by
 cases b with
 | dead=>cases hl
 | frz t xs=>cases hl
 | box T cs=>exact .inl h.2
 | row E t xs=>exact .inl h.2
 | mp es=>exact .inl h.2
 | deep E d xs fx hs=>exact .inr ⟨E,d,xs,fx,hs,rfl⟩
theorem BRel.lt {D:Nat→Prop} {C:Ctx} {w:World} {i:Nat} {b:Bk} (h:BRel D C w i b) (hl:gF b=true) {g:Nat} (hg:g∈C.fp i):g < w.heap.size:=by
 cases b with
 | dead=>cases hl
 | frz t xs=>cases hl
 | box T cs=>
  obtain ⟨⟨g',arr,hs,hh,_⟩,he⟩:=h
  rw [lK he,hs] at hg
  have:g'=g:=by simpa [bI] using hg
  subst this
  exact (Array.getElem?_eq_some_iff.1 hh).1
 | row E t xs=>
  obtain ⟨⟨cells,ho,_⟩,he⟩:=h
  rw [lK he] at hg
  exact own_blk_lt ho hg
 | mp es=>
  obtain ⟨⟨g',en,ck,hs,hh,_⟩,he⟩:=h
  rw [lK he,hs] at hg
  have:g'=g:=by simpa [bI] using hg
  subst this
  exact (Array.getElem?_eq_some_iff.1 hh).1
 | deep E d xs fx hs=>exact (h.2.2.1 g hg).2.2
theorem BRel.nf {D:Nat→Prop} {C:Ctx} {w:World} {i:Nat} {b:Bk} (h:BRel D C w i b) (hl:gF b=true) {g:Nat} (hg:g∈C.fp i):¬ C.Fz g∧D g:=by
 cases b with
 | dead=>cases hl
 | frz t xs=>cases hl
 | box T cs=>
  obtain ⟨⟨g',arr,hs,hh,_,h1,h2⟩,he⟩:=h
  rw [lK he,hs] at hg
  have:g'=g:=by simpa [bI] using hg
  subst this
  exact ⟨h1,h2⟩
 | row E t xs=>
  obtain ⟨⟨cells,ho,_,h1⟩,he⟩:=h
  rw [lK he] at hg
  exact h1 g hg
 | mp es=>
  obtain ⟨⟨g',en,ck,hs,hh,_,h1,h2⟩,he⟩:=h
  rw [lK he,hs] at hg
  have:g'=g:=by simpa [bI] using hg
  subst this
  exact ⟨h1,h2⟩
 | deep E d xs fx hs=>exact ⟨(h.2.2.1 g hg).1,(h.2.2.1 g hg).2.1⟩
theorem BRel.nod {D:Nat→Prop} {C:Ctx} {w:World} {i:Nat} {b:Bk} (h:BRel D C w i b) (hl:gF b=true):(C.fp i).Nodup:=by
 rcases h.exNil hl with he | ⟨E,d,xs,fx,hs,rfl⟩
 ·unfold Ctx.fp
  rw [he,List.append_nil]
  cases bI (C.σ i) with
  | none=>exact List.nodup_nil
  | some g=>exact List.nodup_cons.2 ⟨fun hh=>(by cases hh),List.nodup_nil⟩
 ·exact h.2.1
theorem RowC.move {Fz Fz':Nat→Prop} {w w':World} {t:Ty} {xs:List t.den} {cells:List Value} (hF:∀ k,Fz k→Fz' k) (hw:∀ k,Fz k→k < w.heap.size→w'.heap[k]?=w.heap[k]?)
  (h:RowC Fz w t xs cells):RowC Fz' w' t xs cells:=fun i x hi=>by
 obtain ⟨es,hk,hc⟩:=h i x hi
 exact ⟨es,KF.move hF hw hk,hc⟩
theorem BRel.move {D:Nat→Prop} {C C':Ctx} {w w':World} {i:Nat} {b:Bk} (hle:CLe C C') (hw:∀ k,C.Fz k→k < w.heap.size→w'.heap[k]?=w.heap[k]?) (hsz:w.heap.size≤w'.heap.size)
  (hi:C.Dm i) (hex:C'.ex i=C.ex i) (hg:gF b=true→∀ g,g∈C.fp i→w'.heap[g]?=w.heap[g]?∧¬ C'.Fz g) (h:BRel D C w i b):BRel D C' w' i b:=by
 have hfp:C'.fp i=C.fp i:=by
  unfold Ctx.fp
  rw [hle.σ i hi,hex]
 cases b with
 | dead=>trivial
 | box T cs=>
  obtain ⟨⟨g,arr,hs,hh,ha,hf,hd⟩,he⟩:=h
  obtain ⟨h1,h2⟩:=hg rfl g (dK (by rw [hs];rfl))
  exact ⟨⟨g,arr,by rw [hle.σ i hi];exact hs,by rw [h1];exact hh,ha.imp fun _ _ hr=>CRel.move hle hw hr,h2,hd⟩,by rw [hex];exact he⟩
 | row E t xs=>
  obtain ⟨⟨cells,ho,hr,hf⟩,he⟩:=h
  refine ⟨⟨cells,?_,hr.move hle.Fz hw,fun g hgg=>?_⟩,by rw [hex];exact he⟩
  ·rw [hle.σ i hi]
   exact own_heap ho fun g hgg=>(hg rfl g (dK hgg)).1
  ·rw [hle.σ i hi] at hgg
   exact ⟨(hg rfl g (dK hgg)).2,(hf g hgg).2⟩
 | frz t xs=>
  show KF C'.Fz w' (.row t) xs [C'.σ i]
  rw [hle.σ i hi]
  exact KF.move hle.Fz hw h
 | mp es=>
  obtain ⟨⟨g,en,ck,hs,hh,ha,hf,hd⟩,he⟩:=h
  obtain ⟨h1,h2⟩:=hg rfl g (dK (by rw [hs];rfl))
  exact ⟨⟨g,en,ck,by rw [hle.σ i hi];exact hs,by rw [h1];exact hh,ha,h2,hd⟩,by rw [hex];exact he⟩
 | deep E d xs fx hs=>
  obtain ⟨⟨cells,b2,ho',he,hp,hx⟩,hn,hf,hj,hj2⟩:=h
  refine ⟨⟨cells,b2,?_,?_,by rw [hex];exact hp,fun hfx k off h1 h2 h3=>by rw [hle.hd i hi];exact hx hfx k off h1 h2 h3⟩,by rw [hfp];exact hn,fun g hgg=>?_,fun p hp=>hle.Dm _ (hj p hp),hj2⟩
  ·rw [hle.σ i hi]
   exact own_heap ho' fun g hgg=>(hg rfl g (dK hgg)).1
  ·have hat:∀ k,eW C' hs k=eW C hs k:=fun k=>by
    unfold eW
    refine List.map_congr_left fun p hp=>?_
    rw [hle.σ p.2.2 (hj p (List.mem_filter.1 hp).1)]
   refine he.imp fun j x c b _ hbb hr=>?_
   rw [hat]
   exact DVH.move hle.Fz hw (fun g hgb=>(hg rfl g (List.mem_append_right _ (hp.mem_iff.2 (hbb g hgb)))).1) hr
  ·rw [hfp] at hgg
   exact ⟨(hg rfl g hgg).2,(hf g hgg).2.1,Nat.lt_of_lt_of_le (hf g hgg).2.2 hsz⟩
theorem RelM.put {D:Nat→Prop} {C C':Ctx} {w w':World} {m:aX} {i0:Nat} {b0:Bk} {X:Nat→Prop} (h:RelM D C w m) (hle:CLe C C') (hch:Ch w w' X)
  (hX:∀ k,C.Fz k→¬ X k) (hXo:∀ j b,aF m j=some b→gF b=true→j≠i0→∀ g,g∈C.fp j→¬ X g∧¬ C'.Fz g)
  (hb:BRel D C' w' i0 b0) (hnew:gF b0=true→∀ j b,aF m j=some b→gF b=true→j≠i0→∀ g,g∈C'.fp i0→g∉C.fp j)
  (hdm:∀ i,C'.Dm i↔C.Dm i∨i=i0) (hone:(C'.σ i0).oneCell'=true) (hex:∀ j,j≠i0→C'.ex j=C.ex j):RelM D C' w' (aI m i0 b0):=by
 have hw:∀ k,C.Fz k→k < w.heap.size→w'.heap[k]?=w.heap[k]?:=fun k hf hk=>hch.block k hk (hX k hf)
 have hfp:∀ j,j≠i0→C.Dm j→C'.fp j=C.fp j:=fun j hj hd=>by
  unfold Ctx.fp
  rw [hle.σ j hd,hex j hj]
 refine ⟨fun i b hi=>?_,fun i j b c hi hj hlb hlc hij g hg=>?_,fun i=>?_,fun i hi=>?_⟩
 ·rw [aG] at hi
  by_cases hii:i=i0
  ·subst hii
   simp at hi
   subst hi
   exact hb
  ·rw [if_neg hii] at hi
   have hd:C.Dm i:=(h.dm i).2 (by rw [hi];rfl)
   refine BRel.move hle hw hch.size hd (hex i hii) (fun hlv g hg=>?_) (h.blk i b hi)
   obtain ⟨h1,h2⟩:=hXo i b hi hlv hii g hg
   exact ⟨hch.block g ((h.blk i b hi).lt hlv hg) h1,h2⟩
 ·rw [aG] at hi hj
  by_cases hii:i=i0
  ·subst hii
   simp at hi
   subst hi
   have hji:j≠i:=fun hh=>hij hh.symm
   rw [if_neg hji] at hj
   have hd:C.Dm j:=(h.dm j).2 (by rw [hj];rfl)
   rw [hfp j hji hd]
   exact hnew hlb j c hj hlc hji g hg
  ·rw [if_neg hii] at hi
   have hdi:C.Dm i:=(h.dm i).2 (by rw [hi];rfl)
   rw [hfp i hii hdi] at hg
   by_cases hjj:j=i0
   ·subst hjj
    simp at hj
    subst hj
    intro hh
    exact hnew hlc i b hi hlb hii g hh hg
   ·rw [if_neg hjj] at hj
    have hdj:C.Dm j:=(h.dm j).2 (by rw [hj];rfl)
    rw [hfp j hjj hdj]
    exact h.inj i j b c hi hj hlb hlc hij g hg
 ·rw [hdm,aG]
  by_cases hii:i=i0
  ·simp [hii]
  ·simp [hii,h.dm]
 ·by_cases hii:i=i0
  ·rw [hii];exact hone
  ·have hd:C.Dm i:=((hdm i).1 hi).resolve_right hii
   rw [hle.σ i hd]
   exact h.one i hd
end Go.Ev
