/-
 Words for printed functions: comparisons without instances; loops that count up.
-/
import Derived.Test.YtgpjfmjceamonaaGreatDoorEv20
import Derived.WalkKit
import Derived.ProofKit
import Derived.OpenShut
import Derived.Below
import Derived.Carry
import Derived.Laws.Cover2
import Derived.ChangeOld
import Derived.Maps.Range
import Derived.Maps.RangeWalk
namespace Go.Ev
def blt (a b:Int):Bool:=decide (a < b)
def ble (a b:Int):Bool:=decide (a≤b)
def beq (a b:Int):Bool:=a==b
def bne (a b:Int):Bool:=a !=b
def jF (a b:Bool):Bool:=a==b
def jL (a b:ByteArray):Bool:=a.toList==b.toList
def aE (i n:Int):Bool:=decide (0≤i) && decide (i < n)
def inE (i n:Int):Bool:=decide (0≤i) && decide (i≤n)
def cN (a b:Nat):Bool:=decide (a≤b)
def imin (a b:Int):Int:=if b < a then b else a
def wr (n:Int):Int:=IntKind.wrap .i64 n
theorem aY {n:Int} (h0: -9223372036854775808≤n) (h1:n < 9223372036854775808):wr n=n:=by
 unfold wr
 rw [IntKind.wrap_i64]
 omega
theorem bD {a b:Int} (h:a < b):blt a b=true:=decide_eq_true h
theorem aR {a b:Int} (h:b≤a):blt a b=false:=decide_eq_false (by omega)
theorem ble_true {a b:Int} (h:a≤b):ble a b=true:=decide_eq_true h
theorem ble_false {a b:Int} (h:b < a):ble a b=false:=decide_eq_false (by omega)
theorem aK {i n:Int} (h:0≤i) (h':i < n):aE i n=true:=by
 unfold aE
 rw [decide_eq_true h,decide_eq_true h']
 rfl
theorem cC {i n:Int} (h:0≤i) (h':i≤n):inE i n=true:=by
 unfold inE
 rw [decide_eq_true h,decide_eq_true h']
 rfl
theorem bH {a b:Nat} (h:a≤b):cN a b=true:=decide_eq_true h
theorem aL {a b:Int}:beq a b=true↔a=b:=by
 unfold beq
 exact beq_iff_eq
theorem jW {a b:Int}:bne a b=true↔a≠b:=by
 unfold bne
 exact bne_iff_ne
theorem fZ {a b:Int}:blt a b=true↔a < b:=decide_eq_true_iff
theorem bS {a b:Int}:ble a b=true↔a≤b:=decide_eq_true_iff
theorem gA (a:Int):beq a a=true:=aL.2 rfl
theorem aS (a:Int):bne a a=false:=by
 unfold bne
 exact bne_self_eq_false a
theorem gR (a:Bool):jF a a=true:=by cases a<;>rfl
theorem dW (a:ByteArray):jL a a=true:=by
 unfold jL
 exact beq_self_eq_true _
end Go.Ev
namespace Go.Ev
open Go.ChangeShapes Go.WideShapes Go.RowKit
def Ty.bnd:(t:Ty)→t.den→Prop
 | .int k,n=>(Lit.int k n).wf=true
 | .bool,_=>True
 | .str,s=>s.size≤maxLen
 | .flt,b=>(Lit.float .f64 b).wf=true
 | .np,_=>True
 | .nf,_=>True
 | .row t,xs=>xs.length≤maxLen∧∀ x,x∈xs→t.bnd x
 | .st t,x=>t.bnd x
 | .pair a b,x=>a.bnd x.1∧b.bnd x.2
def fldsAre (P:Program) (chk:TypeId→Ty→Bool):List Field→Ty→Nat→Bool
 | [f],u,off=>Nat.beq f.offset off && (Nat.beq (P.cellsOf f.type) u.sz && chk f.type u)
 | f ::g ::r, .pair a b,off=>(Nat.beq f.offset off && (Nat.beq (P.cellsOf f.type) a.sz && chk f.type a)) && fldsAre P chk (g ::r) b (off+a.sz)
 | _,_,_=>false
def tyIs (P:Program):Nat→TypeId→Ty→Bool
 | 0,_,_=>false
 | n+1,T,t=>match P.underlying T,t with
  | some .bool, .bool=>true
  | some (.int k), .int k'=>IK.beq k k'
  | some (.float .f64), .flt=>true
  | some .string, .str=>true
  | some (.slice e), .row u=>Nat.beq (P.cellsOf e) u.sz && tyIs P n e u
  | some (.struct fs), .st u=>fldsAre P (tyIs P n) fs.toList u 0 && Nat.beq (P.cellsOf T) u.sz
  | _,_=>false
theorem mapM_all2 {α β γ:Type} {f:α→Option β} {R:α→γ→Prop} (h:∀ a b,f a=some b→∃ x,R a x):∀ {l:List α} {r:List β},l.mapM f=some r→∃ xs:List γ,All2 R l xs
 | [],_,_=>⟨[],trivial⟩
 | a ::l,r,hr=>by
  rw [List.mapM_cons] at hr
  cases ha:f a with
  | none=>rw [ha] at hr;cases hr
  | some b=>
   rw [ha] at hr
   cases hl:l.mapM f with
   | none=>
    simp only [hl] at hr
    cases hr
   | some r'=>
    obtain ⟨x,hx⟩:=h a b ha
    obtain ⟨xs,hxs⟩:=mapM_all2 h hl
    exact ⟨x ::xs,hx,hxs⟩
theorem all2_get {α γ:Type} {R:α→γ→Prop}:∀ {l:List α} {xs:List γ},All2 R l xs→∀ (i:Nat) (x:γ),xs[i]?=some x→∃ a,l[i]?=some a∧R a x
 | [],[],_,i,x,h=>by cases h
 | a ::l,y ::ys,hr,i,x,h=>by
  cases i with
  | zero=>
   rw [List.getElem?_cons_zero] at h
   cases h
   exact ⟨a,by rw [List.getElem?_cons_zero],hr.1⟩
  | succ i=>
   rw [List.getElem?_cons_succ] at h
   obtain ⟨b,hb,hR⟩:=all2_get hr.2 i x h
   exact ⟨b,by rw [List.getElem?_cons_succ];exact hb,hR⟩
theorem all2_len {α γ:Type} {R:α→γ→Prop}:∀ {l:List α} {xs:List γ},All2 R l xs→xs.length=l.length
 | [],[],_=>rfl
 | _ ::l,_ ::ys,hr=>by rw [List.length_cons,List.length_cons,all2_len hr.2]
theorem mapM_get {α β:Type} {f:α→Option β}:∀ {l:List α} {r:List β},l.mapM f=some r→r.length=l.length∧∀ (i:Nat) (b:β),r[i]?=some b→∃ a,l[i]?=some a∧f a=some b
 | [],r,hr=>by
  have:r=[]:=by simpa using hr.symm
  subst this
  exact ⟨rfl,fun i b h=>by cases h⟩
 | a ::l,r,hr=>by
  rw [List.mapM_cons] at hr
  cases ha:f a with
  | none=>rw [ha] at hr;cases hr
  | some b=>
   rw [ha] at hr
   cases hl:l.mapM f with
   | none=>
    simp only [hl] at hr
    cases hr
   | some r'=>
    simp only [hl] at hr
    cases hr
    obtain ⟨h1,h2⟩:=mapM_get hl
    refine ⟨by rw [List.length_cons,List.length_cons,h1],fun i c hc=>?_⟩
    cases i with
    | zero=>
     rw [List.getElem?_cons_zero] at hc
     cases hc
     exact ⟨a,by rw [List.getElem?_cons_zero],ha⟩
    | succ i=>
     rw [List.getElem?_cons_succ] at hc
     obtain ⟨a',h3,h4⟩:=h2 i c hc
     exact ⟨a',by rw [List.getElem?_cons_succ];exact h3,h4⟩
theorem cells?_get {w:World} {base n:Nat} {a:Addr} {cs:List Value} (h:w.cells? base a n=some cs):cs.length=n∧∀ (j:Nat) (u:Value),cs[j]?=some u→w.cell? (a.add j)=some u:=by
 unfold World.cells? at h
 split at h
 ·obtain ⟨h1,h2⟩:=mapM_get h
  refine ⟨by rw [h1,List.length_range],fun j u hu=>?_⟩
  obtain ⟨k,hk,hf⟩:=h2 j u hu
  have hlt:j < n:=by
   have:=(List.getElem?_eq_some_iff.1 hk).1
   rwa [List.length_range] at this
  rw [List.getElem?_range hlt] at hk
  cases hk
  exact hf
 ·cases h
theorem block_lt' {w:World} {a:Addr} {u:Value} (h:w.cell? a=some u):a.block < w.heap.size:=by
 unfold World.cell? at h
 split at h
 ·rename_i hb
  exact (Array.getElem?_eq_some_iff.1 hb).1
 ·cases h
section
variable {H:Type} {enc:TypeId×Value→H} {P:Program} {W:World} {held:Bool}
theorem fldsAre_open {chk:TypeId→Ty→Bool} {fuel:Nat} {sp:Nat→Bool} (hchk:∀ T t cs d p,chk T t=true→DataW.trod enc P W 0 sp held fuel T cs=some (d,p)→∃ x:t.den,KF (· < W.heap.size) W t x cs∧t.bnd x) :
  ∀ (fs:List Field) (u:Ty) (off:Nat) (cs:List Value) (r:List (DataW H×List MemPlace)),fldsAre P chk fs u off=true→cs.length=off+u.sz→
  (fs.mapM fun f=>DataW.trod enc P W 0 sp held fuel f.type ((cs.drop f.offset).take (P.cellsOf f.type)))=some r→∃ x:u.den,KF (· < W.heap.size) W u x (cs.drop off)∧u.bnd x
 | [],u,off,cs,r,h,_,_=>by cases u<;>cases h
 | [f],u,off,cs,r,h,hl,hr=>by
  have h':(Nat.beq f.offset off && (Nat.beq (P.cellsOf f.type) u.sz && chk f.type u))=true:=by
   cases u<;>exact h
  simp only [Bool.and_eq_true] at h'
  obtain ⟨h1,h2,h3⟩:=h'
  have e1:=Nat.eq_of_beq_eq_true h1
  have e2:=Nat.eq_of_beq_eq_true h2
  rw [List.mapM_cons] at hr
  cases ha:DataW.trod enc P W 0 sp held fuel f.type ((cs.drop f.offset).take (P.cellsOf f.type)) with
  | none=>rw [ha] at hr;cases hr
  | some q=>
   have:=hchk f.type u _ q.1 q.2 h3 ha
   rw [e1,e2,List.take_of_length_le (by rw [List.length_drop,hl];omega)] at this
   exact this
 | f ::g ::r', .pair a b,off,cs,r,h,hl,hr=>by
  have h':((Nat.beq f.offset off && (Nat.beq (P.cellsOf f.type) a.sz && chk f.type a)) && fldsAre P chk (g ::r') b (off+a.sz))=true:=h
  simp only [Bool.and_eq_true] at h'
  obtain ⟨⟨h1,h2,h3⟩,h4⟩:=h'
  have e1:=Nat.eq_of_beq_eq_true h1
  have e2:=Nat.eq_of_beq_eq_true h2
  rw [List.mapM_cons] at hr
  cases ha:DataW.trod enc P W 0 sp held fuel f.type ((cs.drop f.offset).take (P.cellsOf f.type)) with
  | none=>rw [ha] at hr;cases hr
  | some q=>
   rw [ha] at hr
   cases hb:((g ::r').mapM fun f=>DataW.trod enc P W 0 sp held fuel f.type ((cs.drop f.offset).take (P.cellsOf f.type))) with
   | none=>
    simp only [hb] at hr
    cases hr
   | some q2=>
    have hsz:(Ty.pair a b).sz=a.sz+b.sz:=rfl
    obtain ⟨x,hx1,hx2⟩:=hchk f.type a _ q.1 q.2 h3 ha
    obtain ⟨y,hy1,hy2⟩:=fldsAre_open hchk (g ::r') b (off+a.sz) cs q2 h4 (by rw [hl,hsz];omega) hb
    rw [e1,e2] at hx1
    refine ⟨(x,y),⟨_,_,?_,hx1,hy1⟩,hx2,hy2⟩
    rw [← List.drop_drop,List.take_append_drop]
 | _ ::_ ::_, .int _,_,_,_,h,_,_=>by cases h
 | _ ::_ ::_, .bool,_,_,_,h,_,_=>by cases h
 | _ ::_ ::_, .str,_,_,_,h,_,_=>by cases h
 | _ ::_ ::_, .flt,_,_,_,h,_,_=>by cases h
 | _ ::_ ::_, .np,_,_,_,h,_,_=>by cases h
 | _ ::_ ::_, .nf,_,_,_,h,_,_=>by cases h
 | _ ::_ ::_, .row _,_,_,_,h,_,_=>by cases h
 | _ ::_ ::_, .st _,_,_,_,h,_,_=>by cases h
theorem Ty.sz_pos:∀ (t:Ty),0 < t.sz
 | .int _=>Nat.one_pos
 | .bool=>Nat.one_pos
 | .str=>Nat.one_pos
 | .flt=>Nat.one_pos
 | .np=>Nat.one_pos
 | .nf=>Nat.one_pos
 | .row _=>Nat.one_pos
 | .st t=>Ty.sz_pos t
 | .pair a _=>Nat.lt_of_lt_of_le (Ty.sz_pos a) (Nat.le_add_right _ _)
theorem tyIs_open {sp:Nat→Bool}:∀ (n fuel:Nat) (T:TypeId) (t:Ty) (cs:List Value) (d:DataW H) (p:List MemPlace),tyIs P n T t=true→DataW.trod enc P W 0 sp held fuel T cs=some (d,p)→∃ x:t.den,KF (· < W.heap.size) W t x cs∧t.bnd x
 | 0,_,_,_,_,_,_,h,_=>by cases h
 | _+1,0,_,_,_,_,_,_,h=>by cases h
 | n+1,fuel+1,T,t,cs,d,p,h,hr=>by
  unfold tyIs at h
  unfold DataW.trod at hr
  split at h
  ·rename_i hT
   rw [hT] at hr
   split at hr<;>rename_i h1<;>first | (cases hr;done) | (injection h1;done) | (cases h1;done) | skip
   exact ⟨_,rfl,trivial⟩
  ·rename_i k k' hT
   rw [hT] at hr
   have hk:=IK.eq_of_beq h
   subst hk
   split at hr<;>rename_i h1<;>first | (cases hr;done) | (cases h1;done) | skip
   cases h1
   split at hr
   ·rename_i hw
    obtain ⟨rfl,hw⟩:=hw
    exact ⟨_,rfl,hw⟩
   ·cases hr
  ·rename_i hT
   rw [hT] at hr
   split at hr<;>rename_i h1<;>first | (cases hr;done) | (cases h1;done) | skip
   cases h1
   split at hr
   ·rename_i hw
    obtain ⟨rfl,hw⟩:=hw
    exact ⟨_,rfl,hw⟩
   ·cases hr
  ·rename_i hT
   rw [hT] at hr
   split at hr<;>rename_i h1<;>first | (cases hr;done) | (cases h1;done) | skip
   split at hr
   ·rename_i hw
    exact ⟨_,rfl,hw⟩
   ·cases hr
  ·rename_i e u hT
   rw [hT] at hr
   rw [Bool.and_eq_true] at h
   obtain ⟨h1,h2⟩:=h
   have e1:=Nat.eq_of_beq_eq_true h1
   split at hr<;>rename_i h1<;>first | (cases hr;done) | (cases h1;done) | skip
   ·exact ⟨[],⟨none,0,rfl,Nat.le_refl _,fun _=>rfl,fun i x hx=>(by cases hx)⟩,Nat.zero_le _,fun x hx=>(by cases hx)⟩
   ·cases h1
    rename_i a len cap
    simp only at hr
    split at hr
    ·rename_i hb
     obtain ⟨elems,hel,_⟩:=Option.bind_eq_some_iff.1 hr
     obtain ⟨xs,hxs⟩:=mapM_all2 (R:=fun (i:Nat) (x:u.den)=>∃ es,a.block < W.heap.size∧KF (· < W.heap.size) W u x es∧(∀ (j:Nat) (v:Value),es[j]?=some v→W.cell? (a.add (i*u.sz+j))=some v)∧u.bnd x) (fun i q hq=>by
      obtain ⟨es,he,hq⟩:=Option.bind_eq_some_iff.1 hq
      obtain ⟨x,hx1,hx2⟩:=tyIs_open n fuel e u es q.1 q.2 h2 hq
      obtain ⟨g1,g2⟩:=cells?_get he
      have hcell:∀ (j:Nat) (v:Value),es[j]?=some v→W.cell? (a.add (i*u.sz+j))=some v:=fun j v hv=>by
       have:=g2 j v hv
       rw [e1] at this
       rw [← this,Go.Ev.add_add]
      refine ⟨x,es,?_,hx1,hcell,hx2⟩
      have hpos:0 < es.length:=by rw [g1,e1];exact Ty.sz_pos u
      have:=hcell 0 es[0] (List.getElem?_eq_getElem hpos)
      rw [← iP a (i*u.sz+0)]
      exact block_lt' this) hel
     have hlen:xs.length=len:=by rw [all2_len hxs,List.length_range]
     refine ⟨xs,⟨some a,cap,by rw [hlen],by rw [hlen];exact hb.2.1,fun hh=>(by cases hh),fun i x hx=>?_⟩,by rw [hlen];exact Nat.le_trans hb.2.1 hb.2.2,fun x hx=>?_⟩
     ·obtain ⟨i',hi',es,q1,q2,q3,q4⟩:=all2_get hxs i x hx
      have hlt:i < len:=by
       have:=(List.getElem?_eq_some_iff.1 hi').1
       rwa [List.length_range] at this
      rw [List.getElem?_range hlt] at hi'
      cases hi'
      exact ⟨a,es,rfl,q1,q2,q3⟩
     ·obtain ⟨i,hi⟩:=List.mem_iff_getElem?.1 hx
      obtain ⟨_,_,es,_,_,_,q4⟩:=all2_get hxs i x hi
      exact q4
    ·cases hr
  ·rename_i fs u hT
   rw [hT] at hr
   rw [Bool.and_eq_true] at h
   obtain ⟨h1,h2⟩:=h
   have e2:=Nat.eq_of_beq_eq_true h2
   simp only at hr
   split at hr
   ·rename_i hlen
    obtain ⟨r,hr,_⟩:=Option.map_eq_some_iff.1 hr
    obtain ⟨x,hx⟩:=fldsAre_open (fun T t cs d p hc hd=>tyIs_open n fuel T t cs d p hc hd) fs.toList u 0 _ r h1 (by rw [hlen,e2,Nat.zero_add]) hr
    exact ⟨x,hx⟩
   ·cases hr
  ·cases h
end
end Go.Ev
namespace Go.Ev
open Go.ChangeShapes Go.WideShapes Go.RowKit Go.ChangeAt
section
variable {H:Type} {enc:TypeId×Value→H} {P:Program} {W:World} {held:Bool}
theorem open_val {sp:Nat→Bool} {n:Nat} {T:TypeId} {t:Ty} {v:Value} {d:DataW H} {p:List MemPlace} {base:Nat} (hT:tyIs P n T t=true) (hv:Value.okWide P W .any base T v) (h:DataW.Trod enc P W 0 sp held T v d p) :
  ∃ x:t.den,VSR (· < W.heap.size) W (.val t) x v []∧t.bnd x:=by
 obtain ⟨fuel,hf⟩:=h
 obtain ⟨x,hx,hb⟩:=tyIs_open n fuel T t _ d p hT hf
 refine ⟨x,⟨rfl,?_⟩,hb⟩
 cases n with
 | zero=>cases hT
 | succ n=>
  unfold tyIs at hT
  split at hT
  ·rename_i hU
   obtain ⟨b,rfl⟩:=okWide_bool hU hv
   exact .inr ⟨rfl,hx⟩
  ·rename_i k k' hU
   obtain ⟨b,rfl⟩:=okWide_int hU hv
   exact .inr ⟨rfl,hx⟩
  ·rename_i hU
   obtain ⟨b,rfl⟩:=okWide_float hU hv
   exact .inr ⟨rfl,hx⟩
  ·rename_i hU
   obtain ⟨b,rfl⟩:=okWide_string hU hv
   exact .inr ⟨rfl,hx⟩
  ·rename_i e u hU
   obtain ⟨a,l,c,rfl⟩:=okWide_slice hU hv
   exact .inr ⟨rfl,hx⟩
  ·rename_i fs u hU
   obtain ⟨cs,rfl,_⟩:=okWide_struct hU hv
   exact .inl ⟨rfl,cs,rfl,hx⟩
  ·cases hT
def tysAre (P:Program) (n:Nat):List TypeId→List VS→Bool
 | [],[]=>true
 | T ::Ts, .val t ::vs=>tyIs P n T t && tysAre P n Ts vs
 | _,_=>false
def bnds:(vs:List VS)→VS.dens vs→Prop
 | [],_=>True
 | .val t ::r,x=>t.bnd x.1∧bnds r x.2
 | .own _ _ ::_,_=>False
 | .eat _ _ ::_,_=>False
 | .box _ _ _ ::_,_=>False
 | .mp ::_,_=>False
 | .rc _ ::_,_=>False
 | .deep _ _ _ ::_,_=>False
 | .lent _ ::_,_=>False
theorem open_args {sp:Nat→Bool} {n base:Nat}:∀ {Ts:List TypeId} {vs:List VS} {us:List Value} {ds:List (DataW H)} {p:List MemPlace},tysAre P n Ts vs=true→
  (∀ (j:Nat) t v,Ts[j]?=some t→us[j]?=some v→Value.okWide P W .any base t v)→DataW.TrodAll enc P W 0 sp held Ts us ds p→∃ x:VS.dens vs,VSsR (· < W.heap.size) W vs x us []∧bnds vs x
 | [],[],[],_,_,_,_,_=>⟨(),⟨rfl,rfl⟩,trivial⟩
 | [],[],_ ::_,_,_,_,_,h=>by cases h
 | [],v ::vs,_,_,_,hT,_,_=>by cases v<;>cases hT
 | T ::Ts,[],_,_,_,hT,_,_=>by cases hT
 | T ::Ts, .val t ::vs,us,ds,p,hT,hv,h=>by
  have hT':(tyIs P n T t && tysAre P n Ts vs)=true:=hT
  rw [Bool.and_eq_true] at hT'
  obtain ⟨v,vs',d,ds',p1,q1,rfl,rfl,rfl,h1,h2⟩:=trodAll_cons h
  obtain ⟨x,hx,hb⟩:=open_val hT'.1 (hv 0 T v rfl rfl) h1
  obtain ⟨y,hy,hc⟩:=open_args (base:=base) hT'.2 (fun j t' v' ht' hv'=>hv (j+1) t' v' (by rw [List.getElem?_cons_succ];exact ht') (by rw [List.getElem?_cons_succ];exact hv')) h2
  exact ⟨(x,y),⟨v,vs',[],[],rfl,rfl,hx,hy⟩,hb,hc⟩
 | T ::Ts, .own _ _ ::vs,_,_,_,hT,_,_=>by cases hT
 | T ::Ts, .eat _ _ ::vs,_,_,_,hT,_,_=>by cases hT
 | T ::Ts, .box _ _ _ ::vs,_,_,_,hT,_,_=>by cases hT
 | T ::Ts, .mp ::vs,_,_,_,hT,_,_=>by cases hT
 | T ::Ts, .rc _ ::vs,_,_,_,hT,_,_=>by cases hT
 | T ::Ts, .deep _ _ _ ::vs,_,_,_,hT,_,_=>by cases hT
 | T ::Ts, .lent _ ::vs,_,_,_,hT,_,_=>by cases hT
theorem trodAll_lt {sp:Nat→Bool}:∀ {Ts:List TypeId} {us:List Value} {ds:List (DataW H)} {p:List MemPlace},DataW.TrodAll enc P W 0 sp held Ts us ds p→∀ x,x∈p→x.block < W.heap.size
 | [],us,ds,p,h,x,hx=>by
  cases us<;>cases ds<;>first | (cases h;cases hx;done) | cases h
 | T ::Ts,us,ds,p,h,x,hx=>by
  obtain ⟨v,vs',d,ds',p1,q1,rfl,rfl,rfl,h1,h2⟩:=trodAll_cons h
  rcases List.mem_append.1 hx with hx | hx
  ·obtain ⟨m,hm⟩:=h1
   exact DataW.trod_lt m _ _ _ hm x hx
  ·exact trodAll_lt h2 x hx
theorem below_trodAll {W':World} (hl:laidOutB P=true) (hb:Below W.heap.size W W'):∀ {Ts:List TypeId} {us:List Value} {ds:List (DataW H)} {p:List MemPlace},Ts.all (fun T=>P.readableRec T && Nat.blt T P.types.size)=true→
  DataW.TrodAll enc P W 0 (fun _=>true) true Ts us ds p→(∀ x,x∈p→x.block < W.heap.size)→DataW.TrodAll enc P W' 0 (fun b=>decide (b < W.heap.size)) true Ts us ds p
 | [],us,ds,p,_,h,_=>by
  cases us<;>cases ds<;>first | exact h | cases h
 | T ::Ts,us,ds,p,hT,h,hp=>by
  obtain ⟨v,vs',d,ds',p1,q1,rfl,rfl,rfl,h1,h2⟩:=trodAll_cons h
  rw [List.all_cons,Bool.and_eq_true,Bool.and_eq_true] at hT
  exact ⟨p1,q1,Below.trod hl hT.1.1 (Nat.le_of_ble_eq_true hT.1.2) h1 hb fun x hx=>hp x (List.mem_append.2 (.inl hx)),below_trodAll hl hb hT.2 h2 fun x hx=>hp x (List.mem_append.2 (.inr hx)),rfl⟩
end
theorem law_calls {P:Program} {e:Env} {g:Nat} {vs:List VS} {f:VS.dens vs→Option (VS.dens [.val .bool]×VS.dens (bR vs))} {W:World} {us:List Value} {x:VS.dens vs} (hcon:jY P e g ⟨vs,[.val .bool],f⟩)
  (hx:VSsR (· < W.heap.size) W vs x us []) (hg:GlobOk e (· < W.heap.size) W) (hf:∃ b,f x=some ((true,()),b)):Calls P g us.toArray W fun en w'=>en= .returned (.bool true)∧Below W.heap.size W w':=by
 obtain ⟨b,hb⟩:=hf
 refine (hcon W _ us x _ [] hb hx List.nodup_nil (fun k hk=>by cases hk) (fun k hk=>hk) hg).2.mono fun en w' hh=>?_
 obtain ⟨Fz2,us',b2,b3,rfl,hch,_,_,hr,_⟩:=hh
 obtain ⟨u,u2,b1,b2',rfl,_,hu,hn⟩:=hr
 obtain ⟨rfl,_⟩:=hn
 obtain ⟨_,hu⟩:=hu
 rcases hu with ⟨h,_⟩ | ⟨_,hu⟩
 ·cases h
 ·have hu':[u]=[Value.bool true]:=hu
  cases hu'
  exact ⟨rfl,hch.os,hch.tape,hch.output,hch.size,fun k hk=>hch.block k hk (fun h=>by cases h)⟩
end Go.Ev
namespace Go.Ev
open Go.ChangeShapes Go.WideShapes Go.RowKit Go.ChangeAt
def laidOf {H:Type} (tbl:List (Int×List Int)):List (Lit×DataW H):=tbl.map fun p=>(.int .i64 p.1, .agg [.lit (.int .i64 (p.2.getD 0 0)), .lit (.int .i64 (p.2.getD 1 0)), .lit (.int .i64 (p.2.getD 2 0)), .lit (.int .i64 (p.2.getD 3 0))])
def tblOk (tbl:List (Int×List Int)):Bool:=tbl.all fun p=>eK tbl p.1 && (aQ tbl p.1==p.2)
section
variable {H:Type} {enc:TypeId×Value→H} {P:Program} {W:World} {held:Bool} {sp:Nat→Bool}
theorem thas_mem {n:Int}:∀ {tbl:List (Int×List Int)},eK tbl n=true→∃ p,p∈tbl∧p.1=n
 | (k,l) ::r,h=>by
  unfold eK at h
  rw [Bool.or_eq_true] at h
  rcases h with h | h
  ·exact ⟨(k,l),List.mem_cons_self,eq_of_beq h⟩
  ·obtain ⟨p,hp,he⟩:=thas_mem h
   exact ⟨p,List.mem_cons_of_mem _ hp,he⟩
theorem open_row4 {V E:TypeId} (hV:P.underlying V=some (.array 4 E)) (hE:P.underlying E=some (.int .i64)) (hc:P.cellsOf E=1) (hcV:P.cellsOf V=4) {fuel:Nat} {cs:List Value} {a b c d:Int} {p:List MemPlace}
  (h:DataW.trod enc P W 0 sp held fuel V cs=some (.agg [.lit (.int .i64 a), .lit (.int .i64 b), .lit (.int .i64 c), .lit (.int .i64 d)],p)):cs=[.int .i64 a, .int .i64 b, .int .i64 c, .int .i64 d]:=by
 obtain ⟨xs,m,_,hx,hl,hn,hel⟩:=DataW.trod_array hV h
 rw [hcV] at hl
 match cs,hl with
 | [c0,c1,c2,c3],_=>
  have h0:=hel 0 (by omega)
  have h1:=hel 1 (by omega)
  have h2:=hel 2 (by omega)
  have h3:=hel 3 (by omega)
  rw [hc] at h0 h1 h2 h3
  match xs,hn with
  | [x0,x1,x2,x3],_=>
   simp only [List.map_cons,List.map_nil,Prod.mk.injEq,DataW.agg.injEq,List.cons.injEq,and_true] at hx
   obtain ⟨⟨e0,e1,e2,e3⟩,_⟩:=hx
   have key:∀ (v:Value) (x:DataW H×List MemPlace) (n:Int),DataW.trod enc P W 0 sp held m E [v]=some x→DataW.lit (.int .i64 n)=x.1→v= .int .i64 n:=fun v x n hv hx=>by
    obtain ⟨k,q1,q2,_⟩:=DataW.trod_int hE hv
    rw [q2] at hx
    simp only [DataW.lit.injEq,Lit.int.injEq,true_and] at hx
    simp only [List.cons.injEq,and_true] at q1
    rw [q1,hx]
   rw [key c0 x0 a h0 e0,key c1 x1 b h1 e1,key c2 x2 c h2 e2,key c3 x3 d h3 e3]
theorem tbl_open {M K V E:TypeId} (hM:P.underlying M=some (.map K V)) (hK:P.underlying K=some (.int .i64)) (hV:P.underlying V=some (.array 4 E)) (hE:P.underlying E=some (.int .i64)) (hc:P.cellsOf E=1) (hcV:P.cellsOf V=4) {tbl:List (Int×List Int)} (htbl:tblOk tbl=true)
  {fuel:Nat} {cs:List Value} {p:List MemPlace} (h:DataW.trod enc P W 0 sp held fuel M cs=some (.map (laidOf tbl),p)):∃ bm ents ck,cs=[.map (some bm)]∧W.heap[bm]?=some (.map ents ck)∧TblRel tbl ents.toList:=by
 cases fuel with
 | zero=>cases h
 | succ fuel=>
 unfold DataW.trod at h
 rw [hM] at h
 split at h<;>rename_i h1<;>first | (cases h;done) | (cases h1;done) | skip
 cases h1
 rename_i b
 split at h
 ·rename_i es ck hb
  split at h
  ·obtain ⟨entries,he,h⟩:=Option.bind_eq_some_iff.1 h
   simp only at h
   split at h
   ·simp only [Option.some.injEq,Prod.mk.injEq,DataW.map.injEq] at h
    obtain ⟨hsort,_⟩:=h
    refine ⟨b,es,ck,rfl,hb,?_,?_⟩
    ·intro m hm
     obtain ⟨i,hi⟩:=List.mem_iff_getElem?.1 hm
     obtain ⟨hlen,hget⟩:=mapM_get he
     have hil:i < entries.length:=by
      rw [hlen]
      exact (List.getElem?_eq_some_iff.1 hi).1
     obtain ⟨m',hm',hf⟩:=hget i entries[i] (List.getElem?_eq_getElem hil)
     rw [hi] at hm'
     cases hm'
     obtain ⟨key,hkey,hf⟩:=Option.bind_eq_some_iff.1 hf
     split at hf
     ·rename_i hform
      obtain ⟨y,hy,hf⟩:=Option.map_eq_some_iff.1 hf
      have hmem:(entries[i]).1∈(entries.map (·.1)).foldr DataW.insert []:=mem_sorted.2 (List.mem_map.2 ⟨entries[i],List.getElem_mem hil,rfl⟩)
      rw [hsort] at hmem
      rw [← hf] at hmem
      obtain ⟨q,hq,hqe⟩:=List.mem_map.1 hmem
      have hok:=List.all_eq_true.1 htbl q hq
      rw [Bool.and_eq_true] at hok
      have hlook:aQ tbl q.1=q.2:=eq_of_beq hok.2
      obtain ⟨k,e1,e2,_⟩:=Maps.keyOf_int_inv hK hkey
      simp only [Prod.mk.injEq] at hqe
      obtain ⟨hq1,hq2⟩:=hqe
      rw [e2] at hq1
      simp only [Lit.int.injEq,true_and] at hq1
      subst hq1
      refine ⟨q.1,e1,hok.1,?_⟩
      have hy':DataW.trod enc P W 0 sp held fuel V m.val.cells.toList=some (y.1,y.2):=hy
      rw [← hq2] at hy'
      have hcells:=open_row4 hV hE hc hcV hy'
      rw [hlook]
      have hag:∃ arr,m.val= .agg arr:=by
       unfold Value.formed at hform
       rw [hV] at hform
       cases hv:m.val<;>rw [hv] at hform<;>simp at hform
       exact ⟨_,rfl⟩
      obtain ⟨arr,harr⟩:=hag
      rw [harr] at hcells ⊢
      unfold tRow
      congr 1
      exact Array.ext' hcells
     ·cases hf
    ·intro k hk
     obtain ⟨q,hq,hqk⟩:=thas_mem hk
     have hmem:(Lit.int .i64 q.1,DataW.agg [.lit (.int .i64 (q.2.getD 0 0)), .lit (.int .i64 (q.2.getD 1 0)), .lit (.int .i64 (q.2.getD 2 0)), .lit (.int .i64 (q.2.getD 3 0))])∈(laidOf tbl:List (Lit×DataW H)):=List.mem_map.2 ⟨q,hq,rfl⟩
     rw [← hsort] at hmem
     obtain ⟨z,hz,hze⟩:=List.mem_map.1 (mem_sorted.1 hmem)
     obtain ⟨i,hi⟩:=List.mem_iff_getElem?.1 hz
     obtain ⟨_,hget⟩:=mapM_get he
     obtain ⟨m,hm,hf⟩:=hget i z hi
     obtain ⟨key,hkey,hf⟩:=Option.bind_eq_some_iff.1 hf
     split at hf
     ·obtain ⟨y,_,hf⟩:=Option.map_eq_some_iff.1 hf
      rw [← hf] at hze
      simp only [Prod.mk.injEq] at hze
      obtain ⟨k2,e1,e2,_⟩:=Maps.keyOf_int_inv hK hkey
      rw [e2] at hze
      have hk2:k2=q.1:=by
       have:=hze.1
       simpa using this
      exact ⟨m,List.mem_of_getElem? hm,by rw [e1,hk2,hqk]⟩
     ·cases hf
   ·cases h
  ·cases h
 ·cases h
end
end Go.Ev
