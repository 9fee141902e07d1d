/-
 An abstract evaluator for the language of the model: its definitions. Slots hold typed data (slices as lists), memory that the call owns is a table of rows and boxes.
-/
import Derived.Calls
import Derived.LoopN
import Derived.Laws.AppendOwn
namespace Go.Ev
inductive Ty where
 | int (k:IntKind)
 | bool
 | str
 | flt
 | np
 | nf
 | row (t:Ty)
 | st (t:Ty)
 | pair (a b:Ty)
@[reducible] def Ty.den:Ty→Type
 | .int _=>Int
 | .bool=>Bool
 | .str=>ByteArray
 | .flt=>Nat
 | .np=>Unit
 | .nf=>Unit
 | .row t=>List t.den
 | .st t=>t.den
 | .pair a b=>a.den×b.den
def Ty.sz:Ty→Nat
 | .st t=>t.sz
 | .pair a b=>a.sz+b.sz
 | _=>1
def Ty.zero:(t:Ty)→t.den
 | .int _=>(0:Int)
 | .bool=>false
 | .str=>(⟨#[]⟩:ByteArray)
 | .flt=>(0:Nat)
 | .np=>()
 | .nf=>()
 | .row _=>[]
 | .st t=>t.zero
 | .pair a b=>(a.zero,b.zero)
def Ty.isSt:Ty→Bool
 | .st _=>true
 | _=>false
def IK.beq:IntKind→IntKind→Bool
 | .i8, .i8=>true | .i16, .i16=>true | .i32, .i32=>true | .i64, .i64=>true
 | .u8, .u8=>true | .u16, .u16=>true | .u32, .u32=>true | .u64, .u64=>true
 | _,_=>false
theorem IK.eq_of_beq {a b:IntKind} (h:IK.beq a b=true):a=b:=by cases a<;>cases b<;>first | rfl | cases h
def Ty.beq:Ty→Ty→Bool
 | .int k, .int k'=>IK.beq k k'
 | .bool, .bool=>true
 | .str, .str=>true
 | .flt, .flt=>true
 | .np, .np=>true
 | .nf, .nf=>true
 | .row a, .row b=>a.beq b
 | .st a, .st b=>a.beq b
 | .pair a b, .pair c d=>a.beq c && b.beq d
 | _,_=>false
theorem Ty.eq_of_beq:∀ {a b:Ty},a.beq b=true→a=b
 | .int _, .int _,h=>by rw [IK.eq_of_beq h]
 | .bool, .bool,_=>rfl
 | .str, .str,_=>rfl
 | .flt, .flt,_=>rfl
 | .np, .np,_=>rfl
 | .nf, .nf,_=>rfl
 | .row a, .row b,h=>by rw [Ty.eq_of_beq (a:=a) (b:=b) h]
 | .st a, .st b,h=>by rw [Ty.eq_of_beq (a:=a) (b:=b) h]
 | .pair a b, .pair c d,h=>by
  have h':(a.beq c && b.beq d)=true:=h
  rw [Bool.and_eq_true] at h'
  rw [Ty.eq_of_beq h'.1,Ty.eq_of_beq h'.2]
def jC (a b:Ty) (xs:List a.den):Option (List b.den):=
 match h:a.beq b with
 | true=>some (Ty.eq_of_beq h ▸ xs)
 | false=>none
inductive DT where
 | fl (t:Ty)
 | st (d:DT)
 | pair (a b:DT)
 | row (E:Nat) (d:DT)
@[reducible] def DT.ty:DT→Ty
 | .fl t=>t
 | .st d=> .st d.ty
 | .pair a b=> .pair a.ty b.ty
 | .row _ d=> .row d.ty
def DT.beq:DT→DT→Bool
 | .fl a, .fl b=>a.beq b
 | .st a, .st b=>a.beq b
 | .pair a b, .pair c d=>a.beq c && b.beq d
 | .row E a, .row F b=>Nat.beq E F && a.beq b
 | _,_=>false
theorem DT.eq_of_beq:∀ {a b:DT},a.beq b=true→a=b
 | .fl a, .fl b,h=>by rw [Ty.eq_of_beq (a:=a) (b:=b) h]
 | .st a, .st b,h=>by rw [DT.eq_of_beq (a:=a) (b:=b) h]
 | .pair a b, .pair c d,h=>by
  have h':(a.beq c && b.beq d)=true:=h
  rw [Bool.and_eq_true] at h'
  rw [DT.eq_of_beq h'.1,DT.eq_of_beq h'.2]
 | .row E a, .row F b,h=>by
  have h':(Nat.beq E F && a.beq b)=true:=h
  rw [Bool.and_eq_true] at h'
  rw [Nat.eq_of_beq_eq_true h'.1,DT.eq_of_beq h'.2]
def castD (a b:DT) (xs:List a.ty.den):Option (List b.ty.den):=
 match h:a.beq b with
 | true=>some (DT.eq_of_beq h ▸ xs)
 | false=>none
inductive CV where
 | junk
 | int (k:IntKind) (n:Int)
 | bool (b:Bool)
 | str (s:ByteArray)
 | flt (b:Nat)
 | nil
 | fz (t:Ty) (xs:List t.den)
 | own (o:Nat)
 | pbox (b:Nat) (off:Nat)
 | pel (o:Nat) (t:Ty) (i:Int) (off:Nat)
 | pfz (t:Ty) (x:t.den) (off:Nat)
 | nilp
 | nilf
 | clo (f:Nat) (caps:List Nat)
 | glob (g:Nat)
 | gmap (g:Nat)
 | mref (o:Nat)
 | sub (o:Nat) (i:Int) (off:Nat)
inductive Vl where
 | one (c:CV)
 | agg (cs:List CV)
inductive AV where
 | v (x:Vl)
 | tup (xs:List Vl)
def AV.junk:AV:= .v (.one .junk)
def Ty.cells:(t:Ty)→t.den→List CV
 | .int k,n=>[.int k n]
 | .bool,b=>[.bool b]
 | .str,s=>[.str s]
 | .flt,b=>[.flt b]
 | .np,_=>[.nilp]
 | .nf,_=>[.nilf]
 | .row t,xs=>[.fz t xs]
 | .st t,x=>t.cells x
 | .pair a b,x=>a.cells x.1 ++b.cells x.2
def Ty.zcells:Ty→List CV
 | .int k=>[.int k 0]
 | .bool=>[.bool false]
 | .str=>[.str ⟨#[]⟩]
 | .flt=>[.flt 0]
 | .np=>[.nilp]
 | .nf=>[.nilf]
 | .row _=>[.nil]
 | .st t=>t.zcells
 | .pair a b=>a.zcells ++b.zcells
inductive Bk where
 | dead
 | box (T:Nat) (cs:List CV)
 | row (E:Nat) (t:Ty) (xs:List t.den)
 | frz (t:Ty) (xs:List t.den)
 | mp (es:List (Int×Int))
 | deep (E:Nat) (d:DT) (xs:List d.ty.den) (fx:Bool) (hs:List (Int×Nat×Nat))
abbrev aX:=List (Nat×Bk)
def aF:aX→Nat→Option Bk
 | [],_=>none
 | (j,b) ::r,i=>bif Nat.beq j i then some b else aF r i
def aI:aX→Nat→Bk→aX
 | [],i,b=>[(i,b)]
 | (j,c) ::r,i,b=>bif Nat.beq j i then (i,b) ::r else bif Nat.blt i j then (i,b) ::(j,c) ::r else (j,c) ::aI r i b
def fresh (m:aX):Nat→Nat→Bool
 | _,0=>true
 | i,k+1=>(aF m i).isNone && fresh m (i+1) k
structure St where
 slots:List AV
 mem:aX
 next:Nat
def St.get (s:St) (k:Nat):AV:=s.slots.getD k AV.junk
def cU:List CV→Bool
 | []=>true
 | .junk ::_=>false
 | _ ::r=>cU r
inductive Tr (α:Type):Type 1 where
 | ret (a:α)
 | fail
 | br (b:Bool) (x y:Tr α)
 | call {β:Type} (o:Option β) (k:β→Tr α)
def Tr.run {α:Type}:Tr α→Option α
 | .ret a=>some a
 | .fail=>none
 | .br b x y=>bif b then x.run else y.run
 | .call o k=>o.bind fun r=>(k r).run
def Tr.cps {α R:Type}:Tr α→(α→Option R)→Option R
 | .ret a,K=>K a
 | .fail,_=>none
 | .br b x y,K=>bif b then x.cps K else y.cps K
 | .call o k,K=>o.bind fun r=>(k r).cps K
theorem Tr.cps_run {α R:Type} (t:Tr α) (K:α→Option R):t.cps K=t.run.bind K:=by
 induction t with
 | ret a=>rfl
 | fail=>rfl
 | br b x y ihx ihy=>cases b<;>simp [Tr.cps,Tr.run,ihx,ihy]
 | call o k ih=>cases o<;>simp [Tr.cps,Tr.run,ih]
def Tr.bind {α β:Type}:Tr α→(α→Tr β)→Tr β
 | .ret a,f=>f a
 | .fail,_=> .fail
 | .br b x y,f=> .br b (x.bind f) (y.bind f)
 | .call o k,f=> .call o fun r=>(k r).bind f
theorem Tr.run_bind {α β:Type} (t:Tr α) (f:α→Tr β):(t.bind f).run=t.run.bind fun a=>(f a).run:=by
 induction t with
 | ret a=>rfl
 | fail=>rfl
 | br b x y ihx ihy=>cases b<;>simp [Tr.bind,Tr.run,ihx,ihy]
 | call o k ih=>cases o<;>simp [Tr.bind,Tr.run,ih]
def Tr.of {α:Type}:Option α→Tr α
 | some a=> .ret a
 | none=> .fail
def Tr.need {α:Type} (b:Bool) (x:Tr α):Tr α:= .br b x .fail
structure TI where
 t:Ty
 bytes:Nat
structure Env where
 tys:List (Nat×TI)
 els:List (Nat×Nat)
 flds:List (Nat×List (Nat×Nat×Bool))
 globs:List (Nat×List (Int×List Int))
 eqs:List Nat
 maps:List Nat
 imaps:List Nat
 arrs:List Nat
 deeps:List (Nat×DT)
def bL {α:Type}:List (Nat×α)→Nat→Option α
 | [],_=>none
 | (j,a) ::r,i=>bif Nat.beq j i then some a else bL r i
def Env.ty (e:Env) (T:Nat):Option Ty:=(bL e.tys T).map TI.t
def kH (m:aX) (t:Ty):CV→Option (List t.den×List Nat)
 | .nil=>some ([],[])
 | .fz t' xs=>match jC t' t xs with
  | some ys=>some (ys,[])
  | none=>none
 | .own o=>match aF m o with
  | some (.row _ t' xs)=>match jC t' t xs with
   | some ys=>some (ys,[o])
   | none=>none
  | some (.frz t' xs)=>match jC t' t xs with
   | some ys=>some (ys,[])
   | none=>none
  | some (.deep _ d xs _ [])=>match jC d.ty t xs with
   | some ys=>some (ys,[o])
   | none=>none
  | _=>none
 | _=>none
def rowOf0 (m:aX) (t:Ty):CV→Option (List t.den×List Nat)
 | .own o=>match aF m o with
  | some (.deep _ _ _ _ _)=>none
  | _=>kH m t (.own o)
 | c=>kH m t c
theorem rowOf0_rowOf {m:aX} {t:Ty} {c:CV} {r:List t.den×List Nat} (h:rowOf0 m t c=some r):kH m t c=some r∧∀ o,c= .own o→∀ E d xs fx ho,aF m o≠some (.deep E d xs fx ho):=by
 unfold rowOf0 at h
 split at h
 ·split at h
  ·cases h
  ·rename_i o _ hne
   refine ⟨h,fun o' ho' E d xs fx hh hm=>?_⟩
   cases ho'
   exact hne E d xs fx hh hm
 ·rename_i hne
  exact ⟨h,fun o ho=>absurd ho (hne o)⟩
def Ty.pack (m:aX):(t:Ty)→List CV→Option (t.den×List CV×List Nat)
 | .int k, .int k' n ::r=>bif IK.beq k' k then some (n,r,[]) else none
 | .bool, .bool b ::r=>some (b,r,[])
 | .str, .str s ::r=>some (s,r,[])
 | .flt, .flt b ::r=>some (b,r,[])
 | .np, .nilp ::r=>some ((),r,[])
 | .nf, .nilf ::r=>some ((),r,[])
 | .row t,c ::r=>match kH m t c with
  | some (xs,os)=>some (xs,r,os)
  | none=>none
 | .st t,cs=>t.pack m cs
 | .pair a b,cs=>match a.pack m cs with
  | some (x,r,os)=>match b.pack m r with
   | some (y,r',os')=>some ((x,y),r',os ++os')
   | none=>none
  | none=>none
 | _,_=>none
def Vl.cells:Vl→List CV
 | .one c=>[c]
 | .agg cs=>cs
def Vl.isAgg:Vl→Bool
 | .one _=>false
 | .agg _=>true
def fS (m:aX) (t:Ty) (x:Vl):Option (t.den×List Nat):=
 bif Bool.beq' t.isSt x.isAgg then match t.pack m x.cells with
  | some (y,[],os)=>some (y,os)
  | _=>none
 else none
where Bool.beq':Bool→Bool→Bool
 | true,true=>true
 | false,false=>true
 | _,_=>false
def bU:aX→List Nat→aX
 | m,[]=>m
 | m,o ::r=>match aF m o with
  | some (.row _ t xs)=>bU (aI m o (.frz t xs)) r
  | some (.deep _ d xs _ _)=>bU (aI m o (.frz d.ty xs)) r
  | _=>bU m r
inductive CS where
 | sc (t:Ty)
 | own (E:Nat) (t:Ty)
 | deep (E:Nat) (d:DT)
inductive VS where
 | val (t:Ty)
 | own (E:Nat) (t:Ty)
 | eat (E:Nat) (t:Ty)
 | box (T:Nat) (cs:List CS) (off:Nat)
 | mp
 | rc (cs:List CS)
 | deep (E:Nat) (d:DT) (fx:Bool)
 | lent (cs:List CS)
@[reducible] def CS.den:CS→Type
 | .sc t=>t.den
 | .own _ t=>List t.den
 | .deep _ d=>List d.ty.den
@[reducible] def CS.dens:List CS→Type
 | []=>Unit
 | c ::r=>c.den×CS.dens r
@[reducible] def VS.den:VS→Type
 | .val t=>t.den
 | .own _ t=>List t.den
 | .eat _ t=>List t.den
 | .box _ cs _=>CS.dens cs
 | .mp=>List (Int×Int)
 | .rc cs=>CS.dens cs
 | .deep _ d _=>List d.ty.den
 | .lent cs=>CS.dens cs
@[reducible] def VS.dens:List VS→Type
 | []=>Unit
 | v ::r=>v.den×VS.dens r
def aO:(cs:List CS)→CS.dens cs→aX→Nat→List CV×aX×Nat
 | [],_,m,n=>([],m,n)
 | .sc t ::r,x,m,n=>match aO r x.2 m n with
  | (cs,m',n')=>(t.cells x.1 ++cs,m',n')
 | .own E t ::r,x,m,n=>match aO r x.2 (aI m n (.row E t x.1)) (n+1) with
  | (cs,m',n')=>(.own n ::cs,m',n')
 | .deep E d ::r,x,m,n=>match aO r x.2 (aI m n (.deep E d x.1 true [])) (n+1) with
  | (cs,m',n')=>(.own n ::cs,m',n')
def mkV:(v:VS)→v.den→aX→Nat→Vl×aX×Nat
 | .val t,x,m,n=>(bif t.isSt then .agg (t.cells x) else .one ((t.cells x).headD .junk),m,n)
 | .own E t,x,m,n=>(.one (.own n),aI m n (.row E t x),n+1)
 | .eat E t,x,m,n=>(.one (.own n),aI m n (.row E t x),n+1)
 | .box T cs off,x,m,n=>match aO cs x m (n+1) with
  | (l,m',n')=>(.one (.pbox n off),aI m' n (.box T l),n')
 | .mp,x,m,n=>(.one (.mref n),aI m n (.mp x),n+1)
 | .rc cs,x,m,n=>match aO cs x m n with
  | (l,m',n')=>(.agg l,m',n')
 | .deep E d fx,x,m,n=>(.one (.own n),aI m n (.deep E d x fx []),n+1)
 | .lent cs,x,m,n=>match aO cs x m n with
  | (l,m',n')=>(.agg l,m',n')
def eB:(vs:List VS)→VS.dens vs→aX→Nat→List Vl×aX×Nat
 | [],_,m,n=>([],m,n)
 | v ::r,x,m,n=>match mkV v x.1 m n with
  | (a,m',n')=>match eB r x.2 m' n' with
   | (as,m'',n'')=>(a ::as,m'',n'')
def eH (m:aX) (E:Nat) (d:DT):CV→Option (List d.ty.den×List Nat)
 | .nil=>some ([],[])
 | .own o=>match aF m o with
  | some (.deep E' d' xs _ [])=>bif Nat.beq E' E then match castD d' d xs with
    | some ys=>some (ys,[o])
    | none=>none
   else none
  | _=>none
 | _=>none
def dset:(d:DT)→d.ty.den→Nat→Bk→Option d.ty.den
 | .fl _,_,_,_=>none
 | .st d,x,off,b=>dset d x off b
 | .pair a b,x,off,k=>bif Nat.blt off a.ty.sz then (match dset a x.1 off k with
   | some y=>some (y,x.2)
   | none=>none) else (match dset b x.2 (off - a.ty.sz) k with
   | some y=>some (x.1,y)
   | none=>none)
 | .row E d,_,off,k=>bif Nat.beq off 0 then (match k,d with
   | .row E' t ys, .fl t'=>bif Nat.beq E' E then jC t t' ys else none
   | .deep E' d' ys _ [], .st d2=>bif Nat.beq E' E then castD d' (.st d2) ys else none
   | .deep E' d' ys _ [], .pair a b=>bif Nat.beq E' E then castD d' (.pair a b) ys else none
   | .deep E' d' ys _ [], .row E2 d2=>bif Nat.beq E' E then castD d' (.row E2 d2) ys else none
   | _,_=>none) else none
def foldH (m:aX) (d:DT):List d.ty.den→List (Int×Nat×Nat)→Option (List d.ty.den×List Nat)
 | xs,[]=>some (xs,[])
 | xs,(i,off,j) ::r=>match aF m j with
  | some b=>match dset d (xs.getD i.toNat d.ty.zero) off b with
   | some y=>match foldH m d (xs.set i.toNat y) r with
    | some (ys,os)=>some (ys,j ::os)
    | none=>none
   | none=>none
  | none=>none
def lP (m:aX) (E:Nat) (d:DT):CV→Option (List d.ty.den×List Nat)
 | .nil=>some ([],[])
 | .own o=>match aF m o with
  | some (.deep E' d' xs _ hs)=>bif Nat.beq E' E then match foldH m d' xs hs with
    | some (zs,os)=>match castD d' d zs with
     | some ys=>some (ys,o ::os)
     | none=>none
    | none=>none
   else none
  | _=>none
 | _=>none
def bF (m:aX):(cs:List CS)→List CV→Option (CS.dens cs×List Nat×List Nat)
 | [],[]=>some ((),[],[])
 | .sc t ::r,l=>match t.pack m l with
  | some (x,l',fs)=>match bF m r l' with
   | some (y,fs',os)=>some ((x,y),fs ++fs',os)
   | none=>none
  | none=>none
 | .own E t ::r,c ::l=>match exOwn m E t c with
  | some (x,os)=>match bF m r l with
   | some (y,fs,os')=>some ((x,y),fs,os ++os')
   | none=>none
  | none=>none
 | .deep E d ::r,c ::l=>match eH m E d c with
  | some (x,os)=>match bF m r l with
   | some (y,fs,os')=>some ((x,y),fs,os ++os')
   | none=>none
  | none=>none
 | _,_=>none
where exOwn (m:aX) (E:Nat) (t:Ty):CV→Option (List t.den×List Nat)
 | .nil=>some ([],[])
 | .own o=>match aF m o with
  | some (.row E' t' xs)=>bif Nat.beq E' E then match jC t' t xs with
    | some ys=>some (ys,[o])
    | none=>none
   else none
  | _=>none
 | _=>none
def exV (m:aX):(v:VS)→Vl→Option (v.den×List Nat×List Nat)
 | .val t,x=>match fS m t x with
  | some (y,fs)=>some (y,fs,[])
  | none=>none
 | .own E t, .one c=>match bF.exOwn m E t c with
  | some (y,os)=>some (y,[],os)
  | none=>none
 | .eat E t, .one c=>match bF.exOwn m E t c with
  | some (y,os)=>some (y,[],os)
  | none=>none
 | .box T cs off, .one (.pbox b o)=>bif Nat.beq o off then match aF m b with
  | some (.box T' l)=>bif Nat.beq T' T then match bF m cs l with
    | some (x,fs,os)=>some (x,fs,b ::os)
    | none=>none
   else none
  | _=>none
  else none
 | .mp, .one (.mref o)=>match aF m o with
  | some (.mp es)=>some (es,[],[o])
  | _=>none
 | .rc cs, .agg l=>bF m cs l
 | .deep E d _, .one c=>match lP m E d c with
  | some (y,os)=>some (y,[],os)
  | none=>none
 | .lent cs, .agg l=>bF m cs l
 | _,_=>none
def exVs (m:aX):(vs:List VS)→List Vl→Option (VS.dens vs×List Nat×List Nat)
 | [],[]=>some ((),[],[])
 | v ::r,a ::l=>match exV m v a with
  | some (x,fs,os)=>match exVs m r l with
   | some (y,fs',os')=>some ((x,y),fs ++fs',os ++os')
   | none=>none
  | none=>none
 | _,_=>none
def dG:aX→List Nat→aX
 | m,[]=>m
 | m,o ::r=>dG (aI m o .dead) r
def kK:List Nat→Bool
 | []=>true
 | o ::r=>!(r.any (Nat.beq o)) && kK r
def sep (fs os:List Nat):Bool:=kK os && !(os.any fun o=>fs.any (Nat.beq o))
def bR:List VS→List VS
 | []=>[]
 | .val _ ::r=>bR r
 | .eat _ _ ::r=>bR r
 | .rc _ ::r=>bR r
 | v ::r=>v ::bR r
structure FH where
 ps:List VS
 rs:List VS
 f:VS.dens ps→Option (VS.dens rs×VS.dens (bR ps))
inductive Ex where
 | normal
 | exit (id:Nat)
 | ret
inductive Drv where
 | same (k:Nat)
 | clo (f:Nat) (ks:List Nat)
structure Sh where
 slots:List Nat
 vs:List VS
 al:List (Nat×Drv)
@[reducible] def outDen:List (Ex×Sh)→Type
 | []=>Empty
 | [o]=>VS.dens o.2.vs
 | o ::r=>VS.dens o.2.vs ⊕ outDen r
structure Pc where
 key:Nat
 sh:Sh
 outs:List (Ex×Sh)
 f:VS.dens sh.vs→Option (outDen outs)
def setAll:List AV→List Nat→List Vl→List AV
 | l,k ::ks,a ::as=>setAll (l.set k (.v a)) ks as
 | l,_,_=>l
def boxesOf (l:List AV):List Nat→Option (List Nat)
 | []=>some []
 | k ::r=>match l.getD k AV.junk with
  | .v (.one (.pbox b 0))=>match boxesOf l r with
   | some bs=>some (b ::bs)
   | none=>none
  | _=>none
def drvOf (l:List AV):Drv→AV
 | .same k=>l.getD k AV.junk
 | .clo f ks=>match boxesOf l ks with
  | some bs=> .v (.one (.clo f bs))
  | none=>AV.junk
def mirror:List AV→List (Nat×Drv)→List AV
 | l,[]=>l
 | l,p ::r=>mirror (l.set p.1 (drvOf l p.2)) r
def cG (n:Nat) (sh:Sh) (x:VS.dens sh.vs):St:=
 match eB sh.vs x [] 0 with
 | (as,m,k)=>⟨mirror (setAll (List.replicate n AV.junk) sh.slots as) sh.al,m,k⟩
def sameRef:AV→AV→Bool
 | .v (.one (.own a)), .v (.one (.own b))=>Nat.beq a b
 | .v (.one .nil), .v (.one .nil)=>true
 | _,_=>false
def eqNats:List Nat→List Nat→Bool
 | [],[]=>true
 | a ::l,b ::r=>Nat.beq a b && eqNats l r
 | _,_=>false
def drvChk (s:St) (x:AV):Drv→Bool
 | .same k=>sameRef x (s.get k)
 | .clo f ks=>match x with
  | .v (.one (.clo f' caps))=>Nat.beq f f' && match boxesOf s.slots ks with
   | some bs=>eqNats bs caps
   | none=>false
  | _=>false
def getAll (s:St):List Nat→Option (List Vl)
 | []=>some []
 | k ::ks=>match s.get k with
  | .v a=>match getAll s ks with
   | some as=>some (a ::as)
   | none=>none
  | .tup _=>none
def exSt (sh:Sh) (s:St):Option (VS.dens sh.vs):=
 match getAll s sh.slots with
 | some as=>match exVs s.mem sh.vs as with
  | some (x,fs,os)=>bif sep fs os && sh.al.all (fun p=>drvChk s (s.get p.1) p.2) then some x else none
  | none=>none
 | none=>none
end Go.Ev
