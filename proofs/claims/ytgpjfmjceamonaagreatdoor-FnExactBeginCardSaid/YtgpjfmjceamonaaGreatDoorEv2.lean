/-
 The abstract evaluator: what one operation does, and what a piece of code does.
-/
import Derived.Test.YtgpjfmjceamonaaGreatDoorEv1
namespace Go.Ev
def constC:Value→Option CV
 | .int k n=>some (.int k n)
 | .bool b=>some (.bool b)
 | .string s=>some (.str s)
 | .float .f64 b=>some (.flt b)
 | .slice none 0 0=>some .nil
 | .pointer none=>some .nilp
 | .nilFunc=>some .nilf
 | _=>none
def constCs:List Value→Option (List CV)
 | []=>some []
 | v ::r=>match constC v with
  | some c=>match constCs r with
   | some cs=>some (c ::cs)
   | none=>none
  | none=>none
def constV:Value→AV
 | .agg cs=>match constCs cs.toList with
  | some l=> .v (.agg l)
  | none=>AV.junk
 | v=>match constC v with
  | some c=> .v (.one c)
  | none=>AV.junk
def bC (s:St):Operand→AV
 | .tmp t=>s.get t
 | .const v=>constV v
 | .global g=> .v (.one (.glob g))
 | .func f=> .v (.one (.clo f []))
def sameOpd:Operand→Operand→Bool
 | .tmp a, .tmp b=>Nat.beq a b
 | .const (.int _ n), .const (.int _ m)=>decide (n=m)
 | _,_=>false
def dX (a b:Nat):Option Ordering:=FloatKind.f64.format.order a b
def fCmp (op:BinOp) (a b:Nat):Option Bool:=
 match op with
 | .eql=>some (dX a b==some .eq)
 | .neq=>some (dX a b !=some .eq)
 | .lss=>some (dX a b==some .lt)
 | .gtr=>some (dX a b==some .gt)
 | _=>none
def binC (e:Env) (T:Nat) (op:BinOp):CV→CV→Tr CV
 | .int k a, .int k' b=>bif IK.beq k k' then
   match op with
   | .add=> .ret (.int k (k.wrap (a+b)))
   | .sub=> .ret (.int k (k.wrap (a - b)))
   | .mul=> .ret (.int k (k.wrap (a*b)))
   | .quo=> .br (decide (b=0)) .fail (.ret (.int k (k.wrap (a.tdiv b))))
   | .rem=> .br (decide (b=0)) .fail (.ret (.int k (a.tmod b)))
   | .eql=> .ret (.bool (a==b))
   | .neq=> .ret (.bool (a !=b))
   | .lss=> .ret (.bool (decide (a < b)))
   | .leq=> .ret (.bool (decide (a≤b)))
   | .gtr=> .ret (.bool (decide (a > b)))
   | .geq=> .ret (.bool (decide (a≥b)))
   | _=> .fail
  else .fail
 | .bool a, .bool b=>match e.ty T with
  | some .bool=>match op with
   | .eql=> .ret (.bool (a==b))
   | .neq=> .ret (.bool (!(a==b)))
   | _=> .fail
  | _=> .fail
 | .str a, .str b=>
  match op with
  | .eql=> .ret (.bool (a.toList==b.toList))
  | .neq=> .ret (.bool (!(a.toList==b.toList)))
  | .add=> .br (decide (a.size+b.size≤9223372036854775807)) (.ret (.str (a ++b))) .fail
  | _=> .fail
 | .flt a, .flt b=>
  match op with
  | .quo=> .call (FloatKind.f64.format.div a b) fun r=> .ret (.flt r)
  | _=>match fCmp op a b with
   | some t=> .ret (.bool t)
   | none=> .fail
 | .pbox _ _, .nilp=>match e.ty T with
  | some .np=>match op with
   | .eql=> .ret (.bool false)
   | .neq=> .ret (.bool true)
   | _=> .fail
  | _=> .fail
 | .nilp, .nilp=>match e.ty T with
  | some .np=>match op with
   | .eql=> .ret (.bool true)
   | .neq=> .ret (.bool false)
   | _=> .fail
  | _=> .fail
 | _,_=> .fail
def eZ:List CV→List CV→Option Bool
 | [],[]=>some true
 | .int k a ::r, .int k' b ::r'=>bif IK.beq k k' then match eZ r r' with
   | some t=>some ((a==b) && t)
   | none=>none
  else none
 | .bool a ::r, .bool b ::r'=>match eZ r r' with
   | some t=>some ((a==b) && t)
   | none=>none
 | .str a ::r, .str b ::r'=>match eZ r r' with
   | some t=>some ((a.toList==b.toList) && t)
   | none=>none
 | _,_=>none
def gU:Ty→List Ty
 | .st t=>gU t
 | .pair a b=>gU a ++gU b
 | t=>[t]
def fitL:List Ty→List CV→Bool
 | [],[]=>true
 | .int k ::ts, .int k' _ ::r=>IK.beq k k' && fitL ts r
 | .bool ::ts, .bool _ ::r=>fitL ts r
 | .str ::ts, .str _ ::r=>fitL ts r
 | _,_=>false
def eqOk (e:Env) (T:Nat) (a b:List CV):Bool:=e.eqs.any (Nat.beq T) && match e.ty T with
 | some t=>fitL (gU t) a && fitL (gU t) b
 | none=>false
def binV (e:Env) (T:Nat) (op:BinOp):AV→AV→Tr AV
 | .v (.one a), .v (.one b)=>(binC e T op a b).bind fun c=> .ret (.v (.one c))
 | .v (.agg a), .v (.agg b)=>bif eqOk e T a b then match op,eZ a b with
   | .eql,some t=> .ret (.v (.one (.bool t)))
   | .neq,some t=> .ret (.v (.one (.bool (!t))))
   | _,_=> .fail
  else .fail
 | _,_=> .fail
def unV (op:UnOp):AV→Option AV
 | .v (.one (.bool b))=>match op with
  | .not=>some (.v (.one (.bool (!b))))
  | _=>none
 | .v (.one (.int k n))=>match op with
  | .neg=>some (.v (.one (.int k (k.wrap (0 - n)))))
  | _=>none
 | _=>none
def takeN (n:Nat) (l:List CV):Option (List CV):=
 bif Nat.beq (l.take n).length n then some (l.take n) else none
def jZ (m:aX) (n:Nat):CV→Option (List CV)
 | .pbox b off=>match aF m b with
  | some (.box _ cs)=>takeN n (cs.drop off)
  | _=>none
 | .pel o t i off=>match aF m o with
  | some (.row _ t' xs)=>match jC t' t xs with
   | some ys=>takeN n ((t.cells (ys.getD i.toNat t.zero)).drop off)
   | none=>none
  | some (.frz t' xs)=>match jC t' t xs with
   | some ys=>takeN n ((t.cells (ys.getD i.toNat t.zero)).drop off)
   | none=>none
  | _=>none
 | .pfz t x off=>takeN n ((t.cells x).drop off)
 | _=>none
def iQ (l:List CV) (off:Nat) (cs:List CV):List CV:=l.take off ++cs ++l.drop (off+cs.length)
def writeAt (m:aX) (cs:List CV):CV→Option aX
 | .pbox b off=>match aF m b with
  | some (.box T l)=>bif Nat.ble (off+cs.length) l.length then some (aI m b (.box T (iQ l off cs))) else none
  | _=>none
 | .pel o t i off=>match aF m o with
  | some (.row E t' xs)=>match jC t' t xs with
   | some ys=>bif Nat.ble (off+cs.length) t.sz then
     match t.pack m (iQ (t.cells (ys.getD i.toNat t.zero)) off cs) with
     | some (x,[],os)=>bif os.any (Nat.beq o) then none else some (aI (bU m os) o (.row E t (ys.set i.toNat x)))
     | _=>none
    else none
   | none=>none
  | _=>none
 | _=>none
def addOff (d:Nat):CV→Option CV
 | .pbox b off=>some (.pbox b (off+d))
 | .pel o t i off=>some (.pel o t i (off+d))
 | .pfz t x off=>some (.pfz t x (off+d))
 | _=>none
def fld (e:Env) (S f:Nat):Option (Nat×Nat×Bool):=
 match bL e.flds S with
 | some l=>l[f]?
 | none=>none
def asVl (agg:Bool) (cs:List CV):Option Vl:=
 bif agg then some (.agg cs) else match cs with
  | [c]=>some (.one c)
  | _=>none
def lA (m:aX) (t:Ty):List Vl→Option (List t.den×List Nat)
 | []=>some ([],[])
 | x ::r=>match fS m t x with
  | some (y,os)=>match lA m t r with
   | some (ys,os')=>some (y ::ys,os ++os')
   | none=>none
  | none=>none
def vals (s:St):List (Nat×Operand)→Nat→Option (List Vl)
 | [],_=>some []
 | (i,x) ::r,k=>bif Nat.beq i k then match bC s x with
   | .v a=>match vals s r (k+1) with
    | some l=>some (a ::l)
    | none=>none
   | .tup _=>none
  else none
def cZ (e:Env) (s:St) (S:Nat):List (Nat×Operand)→List CV→Option (List CV)
 | [],cs=>some cs
 | (i,x) ::r,cs=>match fld e S i with
  | some (off,n,_)=>match bC s x with
   | .v a=>bif Nat.beq a.cells.length n && Nat.ble (off+n) cs.length && cU a.cells then cZ e s S r (iQ cs off a.cells) else none
   | .tup _=>none
  | none=>none
def eY (s:St):List (Nat×Operand)→List CV→Option (List CV)
 | [],cs=>some cs
 | (i,x) ::r,cs=>match bC s x with
  | .v (.one (.int k n))=>bif Nat.blt i cs.length then eY s r (iQ cs i [.int k n]) else none
  | _=>none
def arrInts:List CV→Option (List Int)
 | []=>some []
 | .int .i64 n ::r=>match arrInts r with
  | some l=>some (n ::l)
  | none=>none
 | _=>none
def aQ:List (Int×List Int)→Int→List Int
 | [],_=>[0,0,0,0]
 | (k,l) ::r,n=>bif k==n then l else aQ r n
def eK:List (Int×List Int)→Int→Bool
 | [],_=>false
 | (k,_) ::r,n=>(k==n) || eK r n
def dN:List (Int×Int)→Int→Int→List (Int×Int)
 | [],k,v=>[(k,v)]
 | (k',v') ::r,k,v=>bif k'==k then (k',v) ::r else (k',v') ::dN r k v
def avs (s:St):List Operand→Option (List Vl)
 | []=>some []
 | x ::r=>match bC s x with
  | .v a=>match avs s r with
   | some l=>some (a ::l)
   | none=>none
  | .tup _=>none
def resAV:List Vl→AV
 | [a]=> .v a
 | l=> .tup l
def cM:aX→(cs:List CS)→List CV→CS.dens cs→Option aX
 | m,[],[],_=>some m
 | m, .sc t ::r,l,x=>bif Nat.ble t.sz l.length then cM m r (l.drop t.sz) x.2 else none
 | m, .own E t ::r,c ::l,x=>match c with
  | .own o=>cM (aI m o (.row E t x.1)) r l x.2
  | .nil=>cM m r l x.2
  | _=>none
 | m, .deep E d ::r,c ::l,x=>match c with
  | .own o=>cM (aI m o (.deep E d x.1 false [])) r l x.2
  | .nil=>cM m r l x.2
  | _=>none
 | _,_,_,_=>none
def bE:aX→Nat→(ps:List VS)→List Vl→VS.dens (bR ps)→Option (aX×Nat)
 | m,n,[],[],_=>some (m,n)
 | m,n, .val _ ::r,_ ::l,x=>bE m n r l x
 | m,n, .eat _ _ ::r,_ ::l,x=>bE m n r l x
 | m,n, .rc _ ::r,_ ::l,x=>bE m n r l x
 | m,n, .own E t ::r, .one c ::l,x=>match c with
  | .own o=>bE (aI m o (.row E t x.1)) n r l x.2
  | .nil=>bE m n r l x.2
  | _=>none
 | m,n, .box T cs _ ::r, .one c ::l,x=>match c with
  | .pbox b _=>match aO cs x.1 m n with
   | (k,m',n')=>bE (aI m' b (.box T k)) n' r l x.2
  | _=>none
 | m,n, .mp ::r, .one c ::l,x=>match c with
  | .mref o=>bE (aI m o (.mp x.1)) n r l x.2
  | _=>none
 | m,n, .deep E d _ ::r, .one c ::l,x=>match c with
  | .own o=>bE (aI m o (.deep E d x.1 false [])) n r l x.2
  | .nil=>bE m n r l x.2
  | _=>none
 | m,n, .lent cs ::r, .agg cells ::l,x=>match cM m cs cells x.1 with
  | some m'=>bE m' n r l x.2
  | none=>none
 | _,_,_,_,_=>none
def gI:Ty→Bool
 | .row _=>false
 | .st t=>gI t
 | .pair a b=>gI a && gI b
 | _=>true
def kC:DT→Bool
 | .fl t=>gI t
 | .st d=>kC d
 | .pair a b=>kC a && kC b
 | .row _ d=>kC d
def flatCS:CS→Bool
 | .sc t=>gI t
 | .own _ t=>gI t
 | .deep _ d=>kC d
def eG:VS→Bool
 | .val t=>gI t
 | .own _ t=>gI t
 | .eat _ t=>gI t
 | .box _ cs _=>cs.all flatCS
 | .mp=>true
 | .rc cs=>cs.all flatCS
 | .deep _ d _=>kC d
 | .lent cs=>cs.all flatCS
def callL (lim:Nat) (h:FH) (as:List Vl) (m:aX) (id:Nat):Tr (AV×aX):=
 match exVs m h.ps as with
 | some (x,fs,os)=>bif sep fs os && fresh m id lim then .call (h.f x) fun r=>
   match bE (dG (bif h.rs.all eG && (bR h.ps).all eG then m else bU m fs) os) id h.ps as r.2 with
   | some (m',n)=>match eB h.rs r.1 m' n with
    | (l,m'',n')=>bif Nat.ble n' (id+lim) then .ret (resAV l,m'') else .fail
   | none=> .fail
  else .fail
 | none=> .fail
abbrev callT (h:FH) (as:List Vl) (m:aX) (id:Nat):Tr (AV×aX):=callL 8 h as m id
def eI (e:Env) (b:Builtin) (args:List Operand) (tys:List Nat) (s:St) (id:Nat):Tr (AV×aX):=
 match b,args with
 | .len,[x]=>match tys with
  | [T]=>match e.ty T with
   | some t=>match t,bC s x with
    | .str, .v (.one (.str a))=> .ret (.v (.one (.int .i64 a.size)),s.mem)
    | .row _, .v (.one .nil)=> .ret (.v (.one (.int .i64 0)),s.mem)
    | .row _, .v (.one (.fz _ xs))=> .ret (.v (.one (.int .i64 xs.length)),s.mem)
    | .row _, .v (.one (.own o))=>match aF s.mem o with
     | some (.row _ _ xs)=> .ret (.v (.one (.int .i64 xs.length)),s.mem)
     | some (.frz _ xs)=> .ret (.v (.one (.int .i64 xs.length)),s.mem)
     | _=> .fail
    | _,_=> .fail
   | none=> .fail
  | _=> .fail
 | .min,[x,y]=>match bC s x,bC s y with
  | .v (.one (.int k a)), .v (.one (.int k' b))=>bif IK.beq k k' then .ret (.v (.one (.int k (if b < a then b else a))),s.mem) else .fail
  | _,_=> .fail
 | .append,[x,y]=>match tys with
  | [T,T']=>bif Nat.beq T T' then match bL e.els T with
   | some E=>match bL e.tys E with
    | some i=>match bC s x,bC s y with
     | .v (.one a), .v (.one c)=>match bF.exOwn s.mem E i.t a,rowOf0 s.mem i.t c with
      | some (xs,os),some (ys,os')=>bif os.any (fun o=>os'.any (Nat.beq o)) || !(fresh s.mem id 1) then .fail else
       .need (decide (xs.length+ys.length≤140737488355328 / i.bytes))
        (.ret (.v (.one (.own id)),aI (dG s.mem os) id (.row E i.t (xs ++ys))))
      | _,_=> .fail
     | _,_=> .fail
    | none=> .fail
   | none=> .fail
   else .fail
  | _=> .fail
 | _,_=> .fail
def jJ:AV:= .tup []
def bA (e:Env) (H:Nat→Option FH) (o:Op) (id:Nat) (s:St):Tr (AV×aX):=
 match o with
 | .move x=> .ret (bC s x,s.mem)
 | .assign x=> .ret (bC s x,s.mem)
 | .pick c a b=>match bC s c with
  | .v (.one (.bool t))=> .br t (.ret (bC s a,s.mem)) (.ret (bC s b,s.mem))
  | _=> .fail
 | .alloc E=>match e.ty E with
  | some t=>bif fresh s.mem id 1 then .ret (.v (.one (.pbox id 0)),aI s.mem id (.box E t.zcells)) else .fail
  | none=> .fail
 | .box E x=>match e.ty E,bC s x with
  | some t, .v a=>bif Nat.beq a.cells.length t.sz && cU a.cells && fresh s.mem id 1 then .ret (.v (.one (.pbox id 0)),aI s.mem id (.box E a.cells)) else .fail
  | _,_=> .fail
 | .build S parts=>match e.ty S with
  | some t=>bif e.arrs.any (Nat.beq S) && t.isSt then match eY s parts.toList t.zcells with
   | some cs=> .ret (.v (.agg cs),s.mem)
   | none=> .fail
   else bif (bL e.flds S).isSome then match cZ e s S parts.toList t.zcells with
   | some cs=> .ret (.v (.agg cs),s.mem)
   | none=> .fail
   else .fail
  | none=> .fail
 | .buildSlice R n parts=>match bL e.els R with
  | some E=>match e.ty E with
   | some t=>match vals s parts.toList 0 with
    | some l=>bif Nat.beq l.length n && Nat.ble (n*t.sz) 16777216 && fresh s.mem id 1 then match lA s.mem t l with
      | some (xs,os)=> .ret (.v (.one (.own id)),aI (bU s.mem os) id (.row E t xs))
      | none=> .fail
     else .fail
    | none=> .fail
   | none=> .fail
  | none=> .fail
 | .load E x=>match bC s x with
  | .v (.one (.glob g))=>match bL e.globs g with
   | some _=>bif e.maps.any (Nat.beq E) then .ret (.v (.one (.gmap g)),s.mem) else .fail
   | none=> .fail
  | .v (.one c)=>match e.ty E with
   | some t=>match jZ s.mem t.sz c with
    | some cs=>match asVl t.isSt cs with
     | some a=> .ret (.v a,s.mem)
     | none=> .fail
    | none=> .fail
   | none=> .fail
  | _=> .fail
 | .store E x y=>match bC s x,bC s y,e.ty E with
  | .v (.one c), .v a,some t=>bif Nat.beq a.cells.length t.sz && cU a.cells then match writeAt s.mem a.cells c with
    | some m=> .ret (jJ,m)
    | none=> .fail
   else .fail
  | _,_,_=> .fail
 | .nilCheck x=>match bC s x with
  | .v (.one (.pbox b off))=> .ret (.v (.one (.pbox b off)),s.mem)
  | .v (.one (.pel b t i off))=> .ret (.v (.one (.pel b t i off)),s.mem)
  | _=> .fail
 | .binOp op xT x y _=>(binV e xT op (bC s x) (bC s y)).bind fun a=> .ret (a,s.mem)
 | .unOp op _ x=>match unV op (bC s x) with
  | some a=> .ret (a,s.mem)
  | none=> .fail
 | .convert S D x=>bif (e.ty S).isSome then match e.ty D,bC s x with
   | some (.int k), .v (.one (.int _ n))=> .ret (.v (.one (.int k (k.wrap n))),s.mem)
   | some .flt, .v (.one (.flt b))=> .ret (.v (.one (.flt b)),s.mem)
   | some .flt, .v (.one (.int _ n))=> .ret (.v (.one (.flt (FloatKind.f64.nearest n))),s.mem)
   | _,_=> .fail
  else .fail
 | .makeFunc (.func f) first caps=>bif first.isEmpty then match avs s caps.toList with
   | some l=>match boxes l with
    | some bs=> .ret (.v (.one (.clo f bs)),s.mem)
    | none=> .fail
   | none=> .fail
  else .fail
 | .makeMap _ none=>bif fresh s.mem id 1 then .ret (.v (.one (.mref id)),aI s.mem id (.mp [])) else .fail
 | .mapUpdate M m k x=>bif e.imaps.any (Nat.beq M) then match bC s m,bC s k,bC s x with
  | .v (.one (.mref o)), .v (.one (.int .i64 a)), .v (.one (.int .i64 b))=>match aF s.mem o with
   | some (.mp es)=> .ret (jJ,aI s.mem o (.mp (dN es a b)))
   | _=> .fail
  | _,_,_=> .fail
  else .fail
 | .lookup M m k ok=>bif e.maps.any (Nat.beq M) then match bC s m,bC s k with
  | .v (.one (.gmap g)), .v (.one (.int .i64 n))=>match bL e.globs g with
   | some tbl=>bif ok then .ret (.tup [.agg (row4 (aQ tbl n)), .one (.bool (eK tbl n))],s.mem) else .ret (.v (.agg (row4 (aQ tbl n))),s.mem)
   | none=> .fail
  | _,_=> .fail
  else .fail
 | .makeSlice R l c=>bif sameOpd l c then match bL e.els R with
   | some E=>match bL e.tys E with
    | some i=>match bC s l with
     | .v (.one (.int .i64 n))=>bif fresh s.mem id 1 then .need (decide (0≤n) && decide (n≤(281474976710656 / i.bytes:Nat)))
       (.ret (.v (.one (.own id)),aI s.mem id (.row E i.t (List.replicate n.toNat i.t.zero)))) else .fail
     | _=> .fail
    | none=> .fail
   | none=> .fail
  else .fail
 | .slice R x none (some h) none=>bif ((bL e.els R).bind e.ty).isSome then match bC s x,bC s h with
  | .v (.one (.own o)), .v (.one (.int .i64 n))=>match aF s.mem o with
   | some (.row E t xs)=>bif fresh s.mem id 1 then .need (decide (0≤n) && decide (n≤(xs.length:Int)))
     (.ret (.v (.one (.own id)),aI (dG s.mem [o]) id (.row E t (xs.take n.toNat)))) else .fail
   | _=> .fail
  | _,_=> .fail
  else .fail
 | .fieldAddr S x f=>match bC s x,fld e S f with
  | .v (.one c),some (off,_,_)=>match addOff off c with
   | some c'=> .ret (.v (.one c'),s.mem)
   | none=> .fail
  | _,_=> .fail
 | .field S x f=>match bC s x,fld e S f with
  | .v (.agg cs),some (off,n,agg)=>match takeN n (cs.drop off) with
   | some l=>match asVl agg l with
    | some a=> .ret (.v a,s.mem)
    | none=> .fail
   | none=> .fail
  | _,_=> .fail
 | .indexAddr R x i=>match (bL e.els R).bind e.ty with
  | some t'=>match bC s x,bC s i with
   | .v (.one (.own o)), .v (.one (.int _ n))=>match aF s.mem o with
    | some (.row _ t xs)=>bif Ty.beq t' t then .need (decide (0≤n) && decide (n < (xs.length:Int))) (.ret (.v (.one (.pel o t n 0)),s.mem)) else .fail
    | some (.frz t xs)=>bif Ty.beq t' t then .need (decide (0≤n) && decide (n < (xs.length:Int))) (.ret (.v (.one (.pel o t n 0)),s.mem)) else .fail
    | _=> .fail
   | .v (.one (.fz t xs)), .v (.one (.int _ n))=>bif Ty.beq t' t then .need (decide (0≤n) && decide (n < (xs.length:Int))) (.ret (.v (.one (.pfz t (xs.getD n.toNat t.zero) 0)),s.mem)) else .fail
   | _,_=> .fail
  | none=>bif e.arrs.any (Nat.beq R) then match bC s x,bC s i with
   | .v (.one (.pbox b off)), .v (.one (.int _ n))=> .br (n==0) (.ret (.v (.one (.pbox b off)),s.mem)) (.br (n==1) (.ret (.v (.one (.pbox b (off+1))),s.mem))
     (.br (n==2) (.ret (.v (.one (.pbox b (off+2))),s.mem)) (.br (n==3) (.ret (.v (.one (.pbox b (off+3))),s.mem)) .fail)))
   | _,_=> .fail
   else .fail
 | .index R x i=>bif e.arrs.any (Nat.beq R) then match bC s x,bC s i with
   | .v (.agg cs), .v (.one (.int _ n))=>match arrInts cs with
    | some l=>bif Nat.beq l.length 4 then .need (decide (0≤n) && decide (n < 4)) (.ret (.v (.one (.int .i64 (l.getD n.toNat 0))),s.mem)) else .fail
    | none=> .fail
   | _,_=> .fail
  else .fail
 | .extract x i=>match bC s x with
  | .tup l=>match l[i]? with
   | some a=> .ret (.v a,s.mem)
   | none=> .fail
  | _=> .fail
 | .call c=>match c.callee with
  | .builtin b=>eI e b c.args.toList c.argTypes.toList s id
  | .value f=>match bC s f,avs s c.args.toList with
   | .v (.one (.clo g caps)),some l=>match H g with
    | some h=>callT h (l ++caps.map fun b=> .one (.pbox b 0)) s.mem id
    | none=> .fail
   | _,_=> .fail
  | _=> .fail
 | _=> .fail
where
 boxes:List Vl→Option (List Nat)
  | []=>some []
  | .one (.pbox b 0) ::r=>match boxes r with
   | some l=>some (b ::l)
   | none=>none
  | _=>none
 row4 (l:List Int):List CV:=[.int .i64 (l.getD 0 0), .int .i64 (l.getD 1 0), .int .i64 (l.getD 2 0), .int .i64 (l.getD 3 0)]
def isVal:VS→Bool
 | .val _=>true
 | _=>false
def DT.cells (o:Nat) (i:Int) (fx:Bool):(d:DT)→d.ty.den→Nat→List CV
 | .fl t,x,_=>t.cells x
 | .st d,x,off=>d.cells o i fx x off
 | .pair a b,x,off=>a.cells o i fx x.1 off ++b.cells o i fx x.2 (off+a.ty.sz)
 | .row _ _,_,off=>[bif fx then .sub o i off else .junk]
def takeRow (m:aX) (E:Nat):(d:DT)→CV→Option (List d.ty.den×List Nat)
 | .fl t,c=>bF.exOwn m E t c
 | .st d,c=>eH m E (.st d) c
 | .pair a b,c=>eH m E (.pair a b) c
 | .row F d,c=>eH m E (.row F d) c
def dput (m:aX) (fx:Bool):(d:DT)→d.ty.den→Nat→List CV→Option (d.ty.den×List Nat)
 | .fl t,x,off,cs=>match cs with
  | []=>some (x,[])
  | _=>bif Nat.ble (off+cs.length) t.sz then match t.pack m (iQ (t.cells x) off cs) with
   | some (y,[],[])=>some (y,[])
   | _=>none
   else none
 | .st d,x,off,cs=>dput m fx d x off cs
 | .pair a b,x,off,cs=>match dput m fx a x.1 off (cs.take (a.ty.sz - off)) with
  | some (y,os)=>match dput m fx b x.2 (off - a.ty.sz) (cs.drop (a.ty.sz - off)) with
   | some (z,os')=>some ((y,z),os ++os')
   | none=>none
  | none=>none
 | .row E d,x,off,cs=>match cs with
  | []=>some (x,[])
  | [c]=>bif fx then none else bif Nat.beq off 0 then takeRow m E d c else none
  | _=>none
def packD (m:aX) (d:DT) (x:Vl):Option (d.ty.den×List Nat):=
 bif cU x.cells && Nat.beq x.cells.length d.ty.sz then dput m false d d.ty.zero 0 x.cells else none
def packDs (m:aX) (d:DT):List Vl→Option (List d.ty.den×List Nat)
 | []=>some ([],[])
 | x ::r=>match packD m d x with
  | some (y,os)=>match packDs m d r with
   | some (ys,os')=>some (y ::ys,os ++os')
   | none=>none
  | none=>none
def rowBk (E:Nat):(d:DT)→List d.ty.den→Bk
 | .fl t,xs=> .row E t xs
 | .st d,xs=> .deep E (.st d) xs false []
 | .pair a b,xs=> .deep E (.pair a b) xs false []
 | .row F d,xs=> .deep E (.row F d) xs false []
def dget:(d:DT)→d.ty.den→Nat→Option Bk
 | .fl _,_,_=>none
 | .st d,x,off=>dget d x off
 | .pair a b,x,off=>bif Nat.blt off a.ty.sz then dget a x.1 off else dget b x.2 (off - a.ty.sz)
 | .row E d,xs,off=>bif Nat.beq off 0 then some (rowBk E d xs) else none
def eM (m:aX) (id o:Nat) (i:Int) (off:Nat):Option aX:=match aF m o with
 | some (.deep E d xs true hs)=>bif hs.any (fun p=>Nat.beq p.2.1 off) then none else match dget d (xs.getD i.toNat d.ty.zero) off with
  | some b=>some (aI (aI m o (.deep E d xs true ((i,off,id) ::hs))) id b)
  | none=>none
 | _=>none
def fC (m:aX) (id:Nat):List Vl→Option (List Vl×Option aX)
 | []=>none
 | a ::r=>match a with
  | .one (.sub o i off)=>some (.one (.own id) ::r,eM m id o i off)
  | _=>match fC m id r with
   | some (l,m')=>some (a ::l,m')
   | none=>none
def bytesOf (xs:List Int):ByteArray:=⟨(xs.map fun n=>UInt8.ofNat n.toNat).toArray⟩
def jO (e:Env) (H:Nat→Option FH) (o:Op) (id:Nat) (s:St):Option (Tr (AV×aX)):=
 match o with
 | .load E x=>match bC s x with
  | .v (.one (.pel b t i off))=>match aF s.mem b with
   | some (.deep _ d xs fx _)=>some (match e.ty E with
    | some u=>bif Ty.beq t d.ty then match takeN u.sz ((d.cells b i fx (xs.getD i.toNat d.ty.zero) 0).drop off) with
     | some cs=>match asVl u.isSt cs with
      | some a=> .ret (.v a,s.mem)
      | none=> .fail
     | none=> .fail
     else .fail
    | none=> .fail)
   | _=>none
  | _=>none
 | .store E x y=>match bC s x with
  | .v (.one (.pel b t i off))=>match aF s.mem b with
   | some (.deep E' d xs fx hs)=>some (match bC s y,e.ty E with
    | .v a,some u=>bif (Ty.beq t d.ty && Nat.beq a.cells.length u.sz) && ((cU a.cells && Nat.ble (off+u.sz) t.sz) && (fx || hs.isEmpty)) then match dput s.mem fx d (xs.getD i.toNat d.ty.zero) off a.cells with
     | some (y,os)=>bif kK (b ::os) then .ret (jJ,aI (dG s.mem os) b (.deep E' d (xs.set i.toNat y) fx hs)) else .fail
     | none=> .fail
     else .fail
    | _,_=> .fail)
   | _=>none
  | _=>none
 | .indexAddr R x i=>match bC s x with
  | .v (.one (.own b))=>match aF s.mem b with
   | some (.deep _ d xs _ _)=>some (match (bL e.els R).bind e.ty,bC s i with
    | some t', .v (.one (.int _ n))=>bif Ty.beq t' d.ty then .need (decide (0≤n) && decide (n < (xs.length:Int))) (.ret (.v (.one (.pel b d.ty n 0)),s.mem)) else .fail
    | _,_=> .fail)
   | _=>none
  | _=>none
 | .makeSlice R l c=>match bL e.els R with
  | some E=>match bL e.deeps E with
   | some d=>some (bif sameOpd l c then match bL e.tys E with
    | some i=>match bC s l with
     | .v (.one (.int .i64 n))=>bif Ty.beq i.t d.ty && fresh s.mem id 1 then .need (decide (0≤n) && decide (n≤(281474976710656 / i.bytes:Nat)))
       (.ret (.v (.one (.own id)),aI s.mem id (.deep E d (List.replicate n.toNat d.ty.zero) false []))) else .fail
     | _=> .fail
    | none=> .fail
    else .fail)
   | none=>none
  | none=>none
 | .buildSlice R n parts=>match bL e.els R with
  | some E=>match bL e.deeps E with
   | some d=>some (match e.ty E with
    | some t=>match vals s parts.toList 0 with
     | some l=>bif (Ty.beq t d.ty && Nat.beq l.length n) && (Nat.ble (n*t.sz) 16777216 && fresh s.mem id 1) then match packDs s.mem d l with
      | some (xs,os)=>bif kK os then .ret (.v (.one (.own id)),aI (dG s.mem os) id (.deep E d xs false [])) else .fail
      | none=> .fail
      else .fail
     | none=> .fail
    | none=> .fail)
   | none=>none
  | none=>none
 | .convert S D x=>match bC s x with
  | .v (.one (.own b))=>match aF s.mem b with
   | some (.row _ (.int .u8) xs)=>some (match (bL e.els S).bind e.ty,e.ty D with
    | some (.int .u8),some .str=> .ret (.v (.one (.str (bytesOf xs))),s.mem)
    | _,_=> .fail)
   | _=>none
  | _=>none
 | .call c=>match c.callee with
  | .builtin .len=>match c.args.toList with
   | [x]=>match bC s x with
    | .v (.one (.own b))=>match aF s.mem b with
     | some (.deep _ _ xs _ _)=>some (match c.argTypes.toList with
      | [T]=>match e.ty T with
       | some (.row _)=> .ret (.v (.one (.int .i64 xs.length)),s.mem)
       | _=> .fail
      | _=> .fail)
     | _=>none
    | _=>none
   | _=>none
  | .builtin .append=>match c.args.toList,c.argTypes.toList with
   | [x,y],[T,T']=>match bL e.els T with
    | some E=>match bL e.deeps E with
     | some d=>some (match bL e.tys E with
      | some i=>match bC s x,bC s y with
       | .v (.one a), .v (.one c)=>match eH s.mem E d a,eH s.mem E d c with
        | some (xs,os),some (ys,os')=>bif (Nat.beq T T' && Ty.beq i.t d.ty) && (kK (os ++os') && fresh s.mem id 1) then
          .need (decide (xs.length+ys.length≤140737488355328 / i.bytes))
           (.ret (.v (.one (.own id)),aI (dG s.mem (os ++os')) id (.deep E d (xs ++ys) false []))) else .fail
        | _,_=> .fail
       | _,_=> .fail
      | none=> .fail)
     | none=>none
    | none=>none
   | _,_=>none
  | .value f=>match bC s f with
   | .v (.one (.clo g caps))=>match avs s c.args.toList with
    | some l=>match fC s.mem id l with
     | some (l',m')=>some (match m',H g with
      | some m1,some h=>bif fresh s.mem id 8 && !(h.ps.all isVal) then callL 7 h (l' ++caps.map fun b=> .one (.pbox b 0)) m1 (id+1) else .fail
      | _,_=> .fail)
     | none=>none
    | none=>none
   | _=>none
  | _=>none
 | _=>none
def kJ (e:Env) (H:Nat→Option FH) (o:Op) (id:Nat) (s:St):Tr (AV×aX):=match jO e H o id s with
 | some t=>t
 | none=>bA e H o id s
def opY (e:Env) (H:Nat→Option FH) (o:Op) (id:Nat) (s:St):Option (Tr (AV×aX)):=match o with
 | .slice R x (some lo) none none=>match bC s x with
  | .v (.one (.fz t xs))=>some (match (bL e.els R).bind e.ty,bC s lo with
   | some t', .v (.one (.int .i64 n))=>bif Ty.beq t' t then .need (decide (0≤n) && decide (n≤(xs.length:Int))) (.ret (.v (.one (.fz t (xs.drop n.toNat))),s.mem)) else .fail
   | _,_=> .fail)
  | _=>none
 | .store E x y=>match bC s x with
  | .v (.one (.pel b t i off))=>match aF s.mem b with
   | some (.deep E' d xs true [(i2,off2,_)])=>bif Nat.beq off2 off then some (match bC s y,e.ty E with
    | .v (.one c),some (.row _)=>bif Ty.beq t d.ty && (cU [c] && Nat.ble (off+1) d.ty.sz) then match dput s.mem false d (xs.getD i.toNat d.ty.zero) off [c] with
     | some (z,os)=>bif kK (b ::os) then .need (i2==i) (.ret (jJ,aI (dG s.mem os) b (.deep E' d (xs.set i.toNat z) false []))) else .fail
     | none=> .fail
     else .fail
    | _,_=> .fail) else none
   | _=>none
  | _=>none
 | .call c=>match c.callee,c.args.toList with
  | .builtin .append,[.tmp k,_]=>match s.get k with
   | .v (.one (.sub b i off))=>match eM s.mem (id+1) b i off with
    | some m1=>some (bif fresh s.mem id 2 then kJ e H (.call c) id ⟨s.slots.set k (.v (.one (.own (id+1)))),m1,s.next⟩ else .fail)
    | none=>none
   | _=>none
  | _,_=>none
 | _=>none
def opT (e:Env) (H:Nat→Option FH) (o:Op) (id:Nat) (s:St):Tr (AV×aX):=match opY e H o id s with
 | some t=>t
 | none=>kJ e H o id s
def St.put (s:St) (d:Option Nat) (r:AV×aX):St:=
 ⟨match d with
  | some k=>s.slots.set k r.1
  | none=>s.slots,r.2,s.next⟩
def dC (ops:List Oper) (s:St) (o:Oper):Option Bool:=
 match o.guard with
 | none=>some true
 | some (j,want)=>match ops[j]? with
  | some o'=>match o'.dst with
   | some d=>match s.get d with
    | .v (.one (.bool b))=>some (bif want then b else !b)
    | .tup _=>some false
    | _=>none
   | none=>none
  | none=>none
def dY (e:Env) (H:Nat→Option FH) (ops:List Oper) (i:Nat) (o:Oper) (s:St):Tr St:=
 match dC ops s o with
 | none=> .fail
 | some b=> .br b ((opT e H o.op (s.next+8*i) s).bind fun r=> .ret (s.put o.dst r)) (.ret (s.put o.dst (jJ,s.mem)))
def St.lit (s:St) (d:Nat) (b:Bool):St:=⟨s.slots.set d (.v (.one (.bool b))),s.mem,s.next⟩
def guardSl (ops:List Oper) (o:Oper):Option (Nat×Bool):=
 match o.guard with
 | none=>none
 | some (j,want)=>match ops[j]? with
  | some o'=>match o'.dst with
   | some d=>some (d,want)
   | none=>none
  | none=>none
abbrev Kn:=List (Nat×Bool)
def dropK (kn:Kn):Option Nat→Kn
 | none=>kn
 | some d=>kn.filter fun p=>!(Nat.beq p.1 d)
def litOf (kn:Kn):Operand→Option Bool
 | .tmp t=>bL kn t
 | .const (.bool b)=>some b
 | _=>none
def handsOn (kn:Kn):Op→Option Operand
 | .move x=>some x
 | .assign x=>some x
 | .pick (.tmp t) a b=>match bL kn t with
  | some true=>some a
  | some false=>some b
  | none=>none
 | _=>none
def knNew (kn:Kn) (o:Oper):Kn:=match handsOn kn o.op,o.dst with
 | some x,some d=>match litOf kn x with
  | some b=>(d,b) ::dropK kn o.dst
  | none=>dropK kn o.dst
 | _,_=>dropK kn o.dst
def opK (e:Env) (H:Nat→Option FH) (kn:Kn) (o:Op) (id:Nat) (s:St):Tr (AV×aX):=match handsOn kn o with
 | some x=> .ret (bC s x,s.mem)
 | none=>opT e H o id s
def runG (e:Env) (H:Nat→Option FH) (kn:Kn) (i:Nat) (o:Oper) (s:St):Tr (St×Kn):=(opK e H kn o.op (s.next+8*i) s).bind fun r=> .ret (s.put o.dst r,knNew kn o)
def skipG (kn:Kn) (o:Oper) (s:St):Tr (St×Kn):= .ret (s.put o.dst (jJ,s.mem),dropK kn o.dst)
def stepG (e:Env) (H:Nat→Option FH) (ops:List Oper) (kn:Kn) (i:Nat) (o:Oper) (s:St):Tr (St×Kn):=
 match o.guard with
 | none=>runG e H kn i o s
 | some _=>match guardSl ops o with
  | none=> .fail
  | some (d,want)=>match bL kn d with
   | some b=>match want,b with
    | true,true=>runG e H kn i o s
    | false,false=>runG e H kn i o s
    | _,_=>skipG kn o s
   | none=>match s.get d with
    | .v (.one (.bool b))=>match want with
     | true=> .br b (runG e H ((d,true) ::kn) i o (s.lit d true)) (skipG ((d,false) ::kn) o (s.lit d false))
     | false=> .br b (skipG ((d,true) ::kn) o (s.lit d true)) (runG e H ((d,false) ::kn) i o (s.lit d false))
    | .tup _=>skipG kn o s
    | _=> .fail
theorem St.lit_same {s:St} {d:Nat} {b:Bool} (h:s.get d= .v (.one (.bool b))):s.lit d b=s:=by
 obtain ⟨sl,m,n⟩:=s
 unfold St.lit
 congr 1
 apply List.ext_getElem?
 intro k
 rw [List.getElem?_set]
 split
 ·rename_i hk
  subst hk
  unfold St.get at h
  rw [List.getD_eq_getElem?_getD] at h
  split
  ·rename_i hlt
   rw [List.getElem?_eq_getElem hlt] at h ⊢
   exact congrArg some h.symm
  ·rename_i hlt
   exact (List.getElem?_eq_none (Nat.le_of_not_lt hlt)).symm
 ·rfl
def bK (c:Bool) (x y:Option Bool):Option Bool:=match y with
 | some b=>match x with
  | some a=>some (bif c then a else b)
  | none=>bif c then none else some b
 | none=>bif c then x else none
theorem iV (c:Bool) (x y:Option Bool):bK c x y=bif c then x else y:=by
 cases c<;>cases x<;>cases y<;>rfl
def Tr.runJ:Tr Bool→Option Bool
 | .ret a=>some a
 | .fail=>none
 | .br b x y=>bK b x.runJ y.runJ
 | .call o k=>o.bind fun r=>(k r).runJ
theorem Tr.runJ_eq (t:Tr Bool):t.runJ=t.run:=by
 induction t with
 | ret a=>rfl
 | fail=>rfl
 | br b x y ihx ihy=>simp only [Tr.runJ,Tr.run];rw [iV,ihx,ihy]
 | call o k ih=>simp only [Tr.runJ,Tr.run];congr 1;funext r;exact ih r
def aV:Op→Bool
 | .move _ | .assign _ | .pick _ _ _ | .build _ _ | .load _ _ | .nilCheck _ | .binOp _ _ _ _ _ | .unOp _ _ _ | .convert _ _ _ | .makeFunc _ _ _ | .lookup _ _ _ _ | .fieldAddr _ _ _ | .field _ _ _ | .indexAddr _ _ _ | .index _ _ _ | .extract _ _=>true
 | .call c=>match c.callee with
  | .builtin .len=>true
  | .builtin .min=>true
  | _=>false
 | _=>false
def eO (H:Nat→Option FH) (o:Op):Bool:=aV o || match o with
 | .call c=>match c.callee with
  | .value (.func g)=>match H g with
   | some h=>h.ps.all isVal && (h.rs.all isVal && h.rs.all eG)
   | none=>false
  | _=>false
 | _=>false
def grpLen:List Oper→Option (Nat×Nat)
 | []=>none
 | o ::r=>match o.guard with
  | some _=>match grpLen r with
   | some (n,d)=>some (n+1,d)
   | none=>none
  | none=>match o.op with
   | .pick _ _ _=>match o.dst with
    | some d=>some (0,d)
    | none=>none
   | _=>none
def grpAt (H:Nat→Option FH) (o:Oper) (r:List Oper):Option (Nat×Nat):=
 match o.guard with
 | none=>none
 | some _=>match grpLen r with
  | some (n,d)=>bif eO H o.op && (r.take (n+1)).all (fun o=>eO H o.op) then some (n+1,d) else none
  | none=>none
def grp (e:Env) (H:Nat→Option FH) (ops:List Oper) (d:Nat):Nat→List Oper→Kn→St→Tr Bool
 | _,[],_,s=>match s.get d with
  | .v (.one (.bool b))=> .ret b
  | _=> .fail
 | i,o ::r,kn,s=>(stepG e H ops kn i o s).bind fun p=>grp e H ops d (i+1) r p.2 p.1
def has (d:Nat) (l:List Nat):Bool:=l.any (Nat.beq d)
def cJ:List Oper→List Nat
 | []=>[]
 | o ::r=>match o.dst with
  | some d=>d ::cJ r
  | none=>cJ r
def iI:List AV→List Oper→List AV
 | l,[]=>l
 | l,o ::r=>match o.dst with
  | some d=>iI (l.set d AV.junk) r
  | none=>iI l r
def St.merged (s:St) (l:List Oper) (d:Nat) (b:Bool):St:=⟨(iI s.slots l).set d (.v (.one (.bool b))),s.mem,s.next⟩
def dstsLt (n:Nat) (l:List Oper):Bool:=(cJ l).all fun d=>Nat.blt d n
def evOps {R:Type} (e:Env) (H:Nat→Option FH) (ops:List Oper):Nat→Nat→List Oper→St→(St→Option R)→Option R
 | i,_,[],s,K=>K ⟨s.slots,s.mem,s.next+8*i⟩
 | i,k+1,_ ::r,s,K=>evOps e H ops (i+1) k r s K
 | i,0,o ::r,s,K=>match grpAt H o r with
  | some (n,d)=>bif dstsLt s.slots.length (o ::r.take n) then (grp e H ops d i (o ::r.take n) [] s).runJ.bind fun b=>evOps e H ops (i+1) n r (s.merged (o ::r.take n) d b) K else none
  | none=>(stepG e H ops [] i o s).cps fun p=>evOps e H ops (i+1) 0 r p.1 K
def dV:CV→List Nat
 | .own o=>[o]
 | .pbox b _=>[b]
 | .pel o _ _ _=>[o]
 | .mref o=>[o]
 | .clo _ caps=>caps
 | .sub o _ _=>[o]
 | _=>[]
def dA (m:aX) (b:Nat):List Nat:=match aF m b with
 | some (.box _ cs)=>cs.flatMap dV
 | some (.deep _ _ _ _ hs)=>hs.map fun p=>p.2.2
 | _=>[]
def cv2 (m:aX) (c:CV):List Nat:=dV c ++(dV c).flatMap (dA m)
def av1:AV→List Nat
 | .v x=>x.cells.flatMap dV
 | .tup _=>[]
def av2 (m:aX):AV→List Nat
 | .v x=>x.cells.flatMap (cv2 m)
 | .tup _=>[]
def eN (o:Op) (s:St):List Nat:=o.operands.toList.flatMap fun x=>av1 (bC s x)
def cA (o:Op) (s:St) (id:Nat):List Nat:=[id,id+1,id+2,id+3,id+4,id+5,id+6,id+7] ++o.operands.toList.flatMap fun x=>av2 s.mem (bC s x)
def eQ (o:Oper):List Nat:=(o.after.toList.filter (Region.binds .any)).map (·.on)
def kA (acc:List Nat):List Nat→Nat
 | []=>0
 | j ::r=>((2 ^ j) ||| (acc.getD j 0)) ||| kA acc r
def iG:List Oper→List Nat→List Nat
 | [],acc=>acc
 | o ::r,acc=>iG r (acc ++[kA acc (eQ o)])
def bZ (anc:List Nat) (i k:Nat):Bool:=Nat.testBit (anc.getD i 0) k
def tmpsOf:List Operand→List Nat
 | []=>[]
 | .tmp t ::r=>t ::tmpsOf r
 | _ ::r=>tmpsOf r
def looks (ops:List Oper) (o:Oper):List Nat:=tmpsOf o.op.operands.toList ++(match o.guard with
 | some (j,_)=>match ops[j]? with
  | some o'=>o'.dst.toList
  | none=>[]
 | none=>[])
def dstOk (ops:List Oper) (anc:Bool) (o:Oper):Option Nat→Bool
 | some d=>anc || !(has d (looks ops o))
 | none=>true
def dstNe:Option Nat→Option Nat→Bool
 | some a,some b=>!(Nat.beq a b)
 | _,_=>true
def gV:Op→Bool
 | .alloc _=>true
 | _=>false
def isCallV:Op→Bool
 | .call c=>match c.callee with
  | .value _=>true
  | _=>false
 | _=>false
def looseOk (oi oj:Oper):Bool:=isCallV oi.op && (gV oj.op && oj.guard.isNone)
def pairOk (ops:List Oper) (anc:Bool) (oi oj:Oper):Bool:=dstOk ops anc oj oi.dst && (dstOk ops anc oi oj.dst && (dstNe oi.dst oj.dst && (aV oi.op || (aV oj.op || (anc || looseOk oi oj)))))
def impAt (ops:List Oper) (i:Nat):Bool:=match ops[i]? with
 | some oi=>!(aV oi.op)
 | none=>false
def looseAt (ops:List Oper) (anc:List Nat) (j:Nat):Bool:=(List.range j).any fun i=>!(bZ anc j i) && impAt ops i
def kL (ops:List Oper) (anc:List Nat):Nat→List Oper→List Nat
 | _,[]=>[]
 | j,oj ::r=>bif (gV oj.op && oj.guard.isNone) && looseAt ops anc j then j ::kL ops anc (j+1) r else kL ops anc (j+1) r
def laterOk (ops:List Oper) (anc:List Nat) (i:Nat) (oi:Oper):Nat→List Oper→Bool
 | _,[]=>true
 | j,oj ::r=>pairOk ops (bZ anc j i) oi oj && laterOk ops anc i oi (j+1) r
def pairsOk (ops:List Oper) (anc:List Nat):Nat→List Oper→Bool
 | _,[]=>true
 | i,o ::r=>laterOk ops anc i o (i+1) r && pairsOk ops anc (i+1) r
def edgesLt (md:Region.Mode):Nat→List Oper→Bool
 | _,[]=>true
 | i,o ::r=>o.after.toList.all (fun e=>!(Region.binds md e) || Nat.blt e.on i) && edgesLt md (i+1) r
def rankUp (md:Region.Mode) (rk:List Nat):List Oper→List Nat
 | []=>[]
 | o ::r=>(o.after.toList.foldl (fun m e=>bif Region.binds md e then Nat.max m (rk.getD e.on 0+1) else m) 0) ::rankUp md rk r
def ranks (md:Region.Mode) (ops:List Oper):Nat→List Nat→List Nat
 | 0,rk=>rk
 | n+1,rk=>ranks md ops n (rankUp md rk ops)
def rankOk (md:Region.Mode) (n:Nat) (rk:List Nat):Nat→List Oper→Bool
 | _,[]=>true
 | i,o ::r=>o.after.toList.all (fun e=>!(Region.binds md e) || (Nat.blt (rk.getD e.on 0) (rk.getD i 0) && Nat.blt e.on n)) && rankOk md n rk (i+1) r
def modeOk (md:Region.Mode) (ops:List Oper):Bool:=edgesLt md 0 ops || rankOk md ops.length (ranks md ops ops.length []) 0 ops
def drawOk (ops:List Oper):Bool:=((edgesLt .text 0 ops && modeOk .gc ops) && pairsOk ops (iG ops []) 0 ops) && Nat.ble (kL ops (iG ops []) 0 ops).length 1
def clash (anc:List Nat) (i:Nat) (X:List Nat) (l:List (Nat×List Nat)):Bool:=l.any fun p=>!(bZ anc i p.1) && X.any fun x=>has x p.2
def evOpsD {R:Type} (e:Env) (H:Nat→Option FH) (ops:List Oper) (anc:List Nat):Nat→List Oper→List (Nat×List Nat)→List (Nat×List Nat)→St→(St→Option R)→Option R
 | i,[],_,_,s,K=>K ⟨s.slots,s.mem,s.next+8*i⟩
 | i,o ::r,rd,wr,s,K=>bif aV o.op
   then bif clash anc i (eN o.op s) wr then none else (stepG e H ops [] i o s).cps fun p=>evOpsD e H ops anc (i+1) r ((i,eN o.op s) ::rd) wr p.1 K
   else bif clash anc i (cA o.op s (s.next+8*i)) rd || clash anc i (cA o.op s (s.next+8*i)) wr then none else (stepG e H ops [] i o s).cps fun p=>evOpsD e H ops anc (i+1) r rd ((i,cA o.op s (s.next+8*i)) ::wr) p.1 K
def lead:Code→Option Nat
 | .region id _ _=>some id
 | .seq a b=>match lead a with
  | some k=>some k
  | none=>lead b
 | .cond _ a b=>match lead a with
  | some k=>some k
  | none=>lead b
 | .block _ c=>lead c
 | .loop c=>lead c
 | .scope c=>lead c
 | _=>none
def findPc:List Pc→Nat→Option Pc
 | [],_=>none
 | p ::r,k=>bif Nat.beq p.key k then some p else findPc r k
def outK {R:Type} (n:Nat):(outs:List (Ex×Sh))→outDen outs→(Ex→St→Option R)→Option R
 | [],_,_=>none
 | [o],y,K=>K o.1 (cG n o.2 y)
 | o ::o' ::r,y,K=>match y with
  | .inl a=>K o.1 (cG n o.2 a)
  | .inr b=>outK n (o' ::r) b K
def keyOf:Code→Option Nat
 | .loop b=>match lead b with
  | some k=>some (4*k)
  | none=>none
 | .cond c a b=>match lead (.cond c a b) with
  | some k=>some (4*k+1)
  | none=>none
 | .region id _ _=>some (4*id+2)
 | .seq a b=>match lead (.seq a b) with
  | some k=>some (4*k+3)
  | none=>none
 | _=>none
def pieceK {R:Type} (T:List Pc) (c:Code) (s:St) (K:Ex→St→Option R):Option (Option R):=
 match T with
 | []=>none
 | p0 ::T'=>match keyOf c with
  | none=>none
  | some k=>match findPc (p0 ::T') k with
   | none=>none
   | some p=>match exSt p.sh s with
    | none=>some none
    | some x=>some ((p.f x).bind fun y=>outK s.slots.length p.outs y K)
def qM (H:Nat→Option FH):Code→Bool
 | .skip=>true
 | .region _ ops false=>ops.toList.all fun o=>eO H o.op
 | .seq a b=>qM H a && qM H b
 | .cond _ a b=>qM H a && qM H b
 | _=>false
def fT:Code→List Oper
 | .region _ ops _=>ops.toList
 | .seq a b=>fT a ++fT b
 | .cond _ a b=>fT a ++fT b
 | _=>[]
def Tr.pureB:Tr Bool→Option Bool
 | .ret b=>some b
 | .br c x y=>match x.pureB,y.pureB with
  | some u,some v=>some (bif c then u else v)
  | _,_=>none
 | _=>none
def opsM (e:Env) (H:Nat→Option FH) (ops:List Oper):Nat→Nat→List Oper→St→Option St
 | _,_,[],s=>some s
 | i,k+1,_ ::r,s=>opsM e H ops (i+1) k r s
 | i,0,o ::r,s=>match grpAt H o r with
  | some (n,d)=>match (bif dstsLt s.slots.length (o ::r.take n) then (grp e H ops d i (o ::r.take n) [] s).pureB else none) with
   | some b=>opsM e H ops (i+1) n r (s.merged (o ::r.take n) d b)
   | none=>none
  | none=>match stepG e H ops [] i o s with
   | .ret p=>opsM e H ops (i+1) 0 r p.1
   | _=>none
def AV.isJunk:AV→Bool
 | .v (.one .junk)=>true
 | .tup _=>true
 | _=>false
def mergeC (c:Bool):CV→CV→Option CV
 | .int k m, .int k' n=>bif IK.beq k k' then some (.int k (bif c then m else n)) else none
 | .bool m, .bool n=>some (.bool (bif c then m else n))
 | .str m, .str n=>some (.str (bif c then m else n))
 | .flt m, .flt n=>some (.flt (bif c then m else n))
 | .fz t xs, .fz t' ys=>match jC t' t ys with
  | some zs=>some (.fz t (bif c then xs else zs))
  | none=>none
 | .own a, .own b=>bif Nat.beq a b then some (.own a) else none
 | .pbox a i, .pbox b j=>bif Nat.beq a b && Nat.beq i j then some (.pbox a i) else none
 | .mref a, .mref b=>bif Nat.beq a b then some (.mref a) else none
 | .gmap a, .gmap b=>bif Nat.beq a b then some (.gmap a) else none
 | .nil, .nil=>some .nil
 | .nilp, .nilp=>some .nilp
 | _,_=>none
def lG (c:Bool) (x y:AV):Option AV:=bif x.isJunk || y.isJunk then some AV.junk else match x,y with
 | .v (.one a), .v (.one b)=>match mergeC c a b with
  | some z=>some (.v (.one z))
  | none=>none
 | .v (.agg l), .v (.agg l')=>match mergeCs c l l' with
  | some z=>some (.v (.agg z))
  | none=>none
 | _,_=>none
where
 mergeCs (c:Bool):List CV→List CV→Option (List CV)
  | [],[]=>some []
  | a ::l,b ::l'=>match mergeC c a b with
   | some z=>match mergeCs c l l' with
    | some r=>some (z ::r)
    | none=>none
   | none=>none
  | _,_=>none
def jQ (c:Bool) (s1 s2:St):List AV→List Nat→Option (List AV)
 | l,[]=>some l
 | l,d ::r=>match lG c (s1.get d) (s2.get d) with
  | some x=>jQ c s1 s2 (l.set d x) r
  | none=>none
def litOpd (s:St) (c:Operand) (b:Bool):St:=match c with
 | .tmp t=>s.lit t b
 | _=>s
def evM (e:Env) (H:Nat→Option FH):Code→St→Option St
 | .skip,s=>some s
 | .region _ ops false,s=>opsM e H ops.toList 0 0 ops.toList s
 | .seq a b,s=>match evM e H a s with
  | some s'=>evM e H b s'
  | none=>none
 | .cond c a b,s=>match bC s c with
  | .v (.one (.bool t))=>match evM e H a (litOpd s c true),evM e H b (litOpd s c false) with
   | some s1,some s2=>match jQ t s1 s2 s.slots (cJ (fT a ++fT b)) with
    | some l=>some ⟨l,s.mem,s.next⟩
    | none=>none
   | _,_=>none
  | _=>none
 | _,_=>none
def evC {R:Type} (e:Env) (H:Nat→Option FH) (T:List Pc):Code→St→(Ex→St→Option R)→Option R
 | .skip,s,K=>K .normal s
 | .region id ops d,s,K=>match pieceK T (.region id ops d) s K with
  | some r=>r
  | none=>match d with
   | false=>evOps e H ops.toList 0 0 ops.toList s fun s'=>K .normal s'
   | true=>bif drawOk ops.toList then evOpsD e H ops.toList (iG ops.toList []) 0 ops.toList [] [] s fun s'=>K .normal s' else none
 | .seq a b,s,K=>match pieceK T (.seq a b) s K with
  | some r=>r
  | none=>evC e H T a s fun x s'=>match x with
   | .normal=>evC e H T b s' K
   | x=>K x s'
 | .cond c a b,s,K=>match pieceK T (.cond c a b) s K with
  | some r=>r
  | none=>match bC s c with
   | .v (.one (.bool t))=>match (bif qM H a && qM H b then evM e H (.cond c a b) s else none) with
    | some s'=>K .normal s'
    | none=>bif t then evC e H T a s K else evC e H T b s K
   | _=>none
 | .block id c,s,K=>evC e H T c s fun x s'=>match x with
  | .exit j=>bif Nat.beq j id then K .normal s' else K (.exit j) s'
  | x=>K x s'
 | .exit id,s,K=>K (.exit id) s
 | .ret,s,K=>K .ret s
 | .loop b,s,K=>match pieceK T (.loop b) s K with
  | some r=>r
  | none=>none
 | _,_,_=>none
end Go.Ev
