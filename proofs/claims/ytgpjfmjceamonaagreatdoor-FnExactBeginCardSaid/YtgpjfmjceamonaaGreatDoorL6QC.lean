/-
 The law FnExactPrepare in plain terms: a step whole.
-/
import Derived.Test.YtgpjfmjceamonaaGreatDoorL6QB
namespace Go.Ev.L6
open Go.Proofs
structure SG (p:S9) (s:S6):Prop where
 on:s.1=true
 ts:(s.2.1.length:Int)=p.2.2.2.2.1
 gs:s.2.2.length≤50
 keep:∀ g,g∈s.2.2→g.2.1≤p.2.2.2.2.1
def stp (c:aN) (n:S2) (at1:Int) (s:S6):Int ⊕ List S5:=match rdC c n s.2.1 with
 | none=> .inl 10
 | some r=>match chg n s.2.2 with
  | none=> .inl 11
  | some g=>bif kept r.2 s.2.1 (fA n r.1) s.2.2 then .inr (fol n at1 s (fA n r.1) g) else .inl 12
theorem rd_inv {c:aN} {n:S2}:∀ (k i:Nat) (t t':List Int×List Int),run (rdI c n) k i t= .inl t'→t'.1.length=t.1.length∧t'.2.length≤t.2.length+k
 | 0,i,t,t',h=>by
  cases h
  exact ⟨rfl,Nat.le_refl _⟩
 | k+1,i,t,t',h=>by
  unfold run at h
  cases hq:rdI c n i t with
  | inr e=>rw [hq] at h;cases h
  | inl t1=>
   rw [hq] at h
   have h1:=rdI_inv hq
   have h2:=rd_inv k (i+1) t1 t' h
   exact ⟨by rw [h2.1,h1.1],by omega⟩
theorem rdI_keep {c:aN} {n:S2} {k:Nat} {t t':List Int×List Int} (hr:(beq (ro n.1 k) 2 || beq (ro n.1 k) 3)=false) (h:rdI c n k t= .inl t'):t'=t:=by
 unfold rdI at h
 rw [hr] at h
 simp only [cond_false] at h
 cases h2:beq (ro n.1 k) 4<;>rw [h2] at h<;>simp only [cond_true,cond_false] at h
 ·cases h3:beq (ro n.1 k) 5<;>rw [h3] at h<;>simp only [cond_true,cond_false] at h
  ·cases h4:beq (ro n.1 k) 6<;>rw [h4] at h<;>simp only [cond_true,cond_false] at h
   ·cases h5:beq (ro n.1 k) 18<;>rw [h5] at h<;>simp only [cond_true,cond_false] at h
    ·cases h6:beq (ro n.1 k) 19<;>rw [h6] at h<;>simp only [cond_true,cond_false] at h
     ·cases h7:beq (ro n.1 k) 20<;>rw [h7] at h<;>simp only [cond_true,cond_false] at h
      ·cases h8:beq (ro n.1 k) 11<;>rw [h8] at h<;>simp only [cond_true,cond_false] at h
       ·cases h
        rfl
       ·revert h
        cases upl c (fl n k) t.1<;>intro h<;>cases h
        rfl
      ·revert h
       cases (beq (t.1.getD (fl n k).toNat 0) 1 && beq (t.1.getD (fl n k+1).toNat 0) 1)<;>intro h<;>cases h
       rfl
     ·revert h
      cases (beq (t.1.getD (fl n k).toNat 0) 1 && beq (t.1.getD (fl n k+1).toNat 0) 0)<;>intro h<;>cases h
      rfl
    ·revert h
     cases (beq (t.1.getD (fl n k).toNat 0) 1 && (beq (t.1.getD (fl n k+1).toNat 0) 1 && beq (t.1.getD (fl n k+2).toNat 0) 1))<;>intro h<;>cases h
     rfl
   ·revert h
    cases beq (t.1.getD (fl n k).toNat 0) 3<;>intro h<;>cases h
    rfl
  ·revert h
   cases beq (t.1.getD (fl n k).toNat 0) 2<;>intro h<;>cases h
   rfl
 ·revert h
  cases beq (t.1.getD (fl n k).toNat 0) 1<;>intro h<;>cases h
  rfl
theorem rd_keep {c:aN} {n:S2} (hr:∀ k,k < 4→(beq (ro n.1 k) 2 || beq (ro n.1 k) 3)=false):∀ (k i:Nat) (t t':List Int×List Int),i+k=4→run (rdI c n) k i t= .inl t'→t'=t
 | 0,i,t,t',_,h=>by
  cases h
  rfl
 | k+1,i,t,t',hi,h=>by
  unfold run at h
  cases hq:rdI c n i t with
  | inr e=>rw [hq] at h;cases h
  | inl t1=>
   rw [hq] at h
   rw [rd_keep hr k (i+1) t1 t' (by omega) h,rdI_keep (hr i (by omega)) hq]
theorem noop32:∀ k,k < 4→(beq (ro 32 k) 2 || beq (ro 32 k) 3)=false:=by
 have hh:(List.range 4).all (fun k=>!(beq (ro 32 k) 2 || beq (ro 32 k) 3))=true:=by kernel_rfl
 intro k hk
 have:=List.all_eq_true.1 hh k (List.mem_range.2 hk)
 rw [Bool.not_eq_true'] at this
 exact this
theorem noop41:∀ k,k < 4→(beq (ro 41 k) 2 || beq (ro 41 k) 3)=false:=by
 have hh:(List.range 4).all (fun k=>!(beq (ro 41 k) 2 || beq (ro 41 k) 3))=true:=by kernel_rfl
 intro k hk
 have:=List.all_eq_true.1 hh k (List.mem_range.2 hk)
 rw [Bool.not_eq_true'] at this
 exact this
theorem rdC_inv {c:aN} {n:S2} {ts:List Int} {r:List Int×List Int} (h:rdC c n ts=some r):r.1.length=ts.length∧r.2.length≤5∧(n.1=32→r.2=[]∧r.1=ts)∧(n.1=41→r.1=ts):=by
 unfold rdC at h
 cases hq:run (rdI c n) 4 0 (ts,[]) with
 | inr e=>rw [hq] at h;cases h
 | inl t=>
  rw [hq] at h
  cases h
  have hi:=rd_inv _ _ _ _ hq
  refine ⟨hi.1,?_,fun h32=>?_,fun h41=>?_⟩
  ·have:t.2.length≤4:=hi.2
   show (bif beq n.1 40 then t.2 ++[n.2.1] else t.2).length≤5
   cases beq n.1 40
   ·exact Nat.le_succ_of_le this
   ·rw [cond_true,List.length_append,List.length_singleton]
    omega
  ·have:=rd_keep (by rw [h32];exact noop32) _ _ _ _ (by omega) hq
   subst this
   rw [h32]
   exact ⟨rfl,rfl⟩
  ·have:=rd_keep (by rw [h41];exact noop41) _ _ _ _ (by omega) hq
   subst this
   rfl
theorem wrC32 {n:S2} (h:n.1=32) (ts:List Int):fA n ts=ts:=by
 unfold fA
 rw [h,show ro 32 0=0 from by kernel_rfl]
 rfl
theorem wrC41 {n:S2} (h:n.1=41) (ts:List Int):fA n ts=ts.set n.2.2.2.1.toNat 3:=by
 unfold fA
 rw [h]
 rfl
theorem chg41 {n:S2} (h:n.1=41) (gs:List S4):chg n gs=some gs:=by
 unfold chg
 rw [h]
 rfl
theorem f131_221_ok (at1:Int) (s:S6) (n:S2) (b:Bool) (ts:List Int) (gs:List S4) (tk:List Int) (hl:tk.length≤4) :
  f131_221 (at1,(s,()),(n,()),(b,ts,gs,()),tk,beq n.1 40,())=some (at1,(s,()),(n,()),(b,ts,gs,()),(bif beq n.1 40 then tk ++[n.2.1] else tk),()):=by
 simp only [f131_221,f171,Option.bind_some]
 rw [cK hl (by omega)]
 cases beq n.1 40<;>rfl
theorem f131_ok (c:aN) (p:S9) (at1:Nat) (s:S6) (n:S2) (hat:at1 < p.2.2.2.2.2.2.2.1.length) (hnn:p.2.2.2.2.2.2.2.1.getD at1 aT=n) (hlen:p.2.2.2.2.2.2.2.1.length≤1048576)
  (hn:IN c p n) (hR:0≤p.2.2.2.2.1∧p.2.2.2.2.1≤250) (sg:SG p s) (hc:c.length≤1048576) (hus:∀ p,p∈c→p.2.2.2.2.2.1.length≤1048576) :
  f131 (c,p,(at1:Int),s,())=some (match stp c n (at1:Int) s with | .inl e=>((e,[],()),()) | .inr l=>((0,l,()),())):=by
 have hts:=sg.ts
 have hgs:=sg.gs
 simp only [f131,Int.toNat_natCast]
 rw [aB hat,hnn,f132_ok s (by omega) (by omega)]
 simp only [cond_true,Option.bind_some]
 rw [f131_20_loop (at1:Int) c s p n s.1 s.2.1 s.2.2 hn hR hts hc hus]
 unfold stp
 cases hq:run (rdI c n) 4 0 (s.2.1,[]) with
 | inr e=>
  have hr:rdC c n s.2.1=none:=by
   unfold rdC
   rw [hq]
  rw [hr]
  rfl
 | inl t=>
  have hr:rdC c n s.2.1=some (t.1,bif beq n.1 40 then t.2 ++[n.2.1] else t.2):=by
   unfold rdC
   rw [hq]
  have hinv:=rdC_inv hr
  have hi:=rd_inv _ _ _ _ hq
  have hi2:t.2.length≤4:=hi.2
  have hi1:t.1.length=s.2.1.length:=hi.1
  rw [hr]
  simp only [Option.bind_some]
  rw [f131_221_ok _ _ _ _ _ _ _ hi2]
  simp only [Option.bind_some]
  generalize htk:(bif beq n.1 40 then t.2 ++[n.2.1] else t.2)=tk at hinv
  have h5:tk.length≤5:=hinv.2.1
  rw [f131_237_ok _ _ _ _ _ (by omega)]
  simp only [Option.bind_some]
  rw [f131_257_ok]
  have hbad:=chg_bad n s.2.2
  cases hb1:bad1 n s.2.2 with
  | true=>
   rw [hb1,Bool.true_or] at hbad
   cases hg:chg n s.2.2 with
   | some g=>rw [hg] at hbad;cases hbad
   | none=>rfl
  | false=>
   simp only [cond_false,Option.bind_some]
   rw [f131_302_ok _ _ _ _ _ (by omega)]
   simp only [Option.bind_some]
   cases hb2:bad2 n s.2.2 with
   | true=>
    rw [hb2,Bool.or_true] at hbad
    cases hg:chg n s.2.2 with
    | some g=>rw [hg] at hbad;cases hbad
    | none=>rfl
   | false=>
    rw [hb1,hb2] at hbad
    cases hg:chg n s.2.2 with
    | none=>rw [hg] at hbad;cases hbad
    | some g=>
     simp only [cond_false]
     rw [f132_ok (s.1,t.1,s.2.2) (by show t.1.length≤_;omega) (by show s.2.2.length≤_;omega)]
     simp only [Option.bind_some]
     rw [f131_316_loop (at1:Int) c s p n s.1 t.1 s.2.2 tk _ hn hR (by rw [hi1];exact hts),wI_run hn.th]
     simp only [Option.bind_some]
     rw [f131_349_ok (at1:Int) c s p n s.1 _ s.2.2 tk _ hn hR (by
      cases beq n.1 41<;>cases beq (ro n.1 0) 1<;>simp only [cond_true,cond_false,List.length_set]<;>omega),wI_wrC hn.th]
     simp only [Option.bind_some]
     have hw:(fA n t.1).length=s.2.1.length:=by rw [wrC_len,hi1]
     rw [f131_356_loop _ _ _ _ _ _ _ _ (by omega) (by omega) (by omega) (fun g hg=>by rw [hw,hts];exact sg.keep g hg) hw]
     show _=some (match (bif kept tk s.2.1 (fA n t.1) s.2.2 then Sum.inr (fol n (at1:Int) s (fA n t.1) g) else Sum.inl 12:Int ⊕ List S5) with | .inl e=>((e,[],()),()) | .inr l=>((0,l,()),()))
     unfold kept
     cases hk:bJ (ktT tk s.2.1 (fA n t.1) s.2.2) s.2.2.length 0 with
     | some _=>rfl
     | none=>
      simp only [Option.bind_some]
      rw [f131_437_ok _ _ _ _ _ _ (by omega) g hg]
      simp only [Option.bind_some,f131_473,Option.isNone_none,cond_true]
      rw [aY (n:=(at1:Int)+1) (by omega) (by omega),sg.on]
      have hnl:∀ x:S5,cN (([]:List S5).length+[x].length) 2199023255552=true:=fun x=>rfl
      simp only [hnl,cond_true]
      unfold fol
      have hnl1:∀ (l:List S5) (x:S5),l.length≤1→cN (l.length+[x].length) 2199023255552=true:=fun l x h=>bH (by rw [List.length_singleton];omega)
      have hpre:∀ (o1:Option ((S6×Unit)×(S2×Unit)×(Bool×(List Int)×(List S4)×Unit)×(Bool×(List Int)×(List S4)×Unit)×(List S5)×Unit)) (l:List S5) (hl:l.length≤1) (h:o1=some ((s,()),(n,()),(true,fA n t.1,g,()),(true,t.1,s.2.2,()),l,())),
       (o1.bind fun z364=>
        let v365:=z364.2.2.2.2.1
        bif (beq z364.2.1.1.1 (19:Int)) then (
         let row367:=([(z364.2.1.1.2.1,z364.2.2.1.1,z364.2.2.1.2.1,z364.2.2.1.2.2.1)])
         bif (cN (v365.length+row367.length) 2199023255552) then some (((0:Int),(v365 ++row367),()),())
         else none)
        else bif ((beq z364.2.1.1.1 (20:Int)) || ((beq z364.2.1.1.1 (21:Int)) || ((beq z364.2.1.1.1 (38:Int)) || (beq z364.2.1.1.1 (39:Int))))) then (
         let row371:=([(z364.2.1.1.2.2.1,z364.2.2.1.1,z364.2.2.1.2.1,z364.2.2.1.2.2.1)])
         bif (cN (v365.length+row371.length) 2199023255552) then some (((0:Int),(v365 ++row371),()),())
         else none)
        else bif (beq z364.2.1.1.1 (41:Int)) then (
         let row374:=([(z364.2.1.1.2.2.1,z364.2.2.2.1.1,z364.2.2.2.1.2.1,z364.2.2.2.1.2.2.1)])
         bif (cN (v365.length+row374.length) 2199023255552) then some (((0:Int),(v365 ++row374),()),())
         else none)
        else bif (beq z364.2.1.1.1 (31:Int)) then (
         (f132 (z364.1.1,())).bind fun r377=>
         (aA f131_528 ((z364.2.1.1,()),v365,(r377.1.1.1,r377.1.1.2.1,r377.1.1.2.2.1,()),z364.2.1.1.2.2.1,())).bind fun z384=>
         let v385:=z384.2.1
         let v386:=(wr (z384.1.1.2.2.1+(1:Int)))
         bif (aE z384.1.1.2.2.1 (z384.2.2.1.2.1.length:Int)) then (
          let row387:=(z384.2.2.1.2.1.set z384.1.1.2.2.1.toNat (1:Int))
          bif (aE v386 (row387.length:Int)) then (
           let row389:=([(z384.1.1.2.1,z384.2.2.1.1,(row387.set v386.toNat (1:Int)),z384.2.2.1.2.2.1)])
           bif (cN (v385.length+row389.length) 2199023255552) then some (((0:Int),(v385 ++row389),()),())
           else none)
          else none)
         else none)
        else some (((0:Int),v365,()),()))=some ((0,l ++(bif beq n.1 19 then [(n.2.1,true,fA n t.1,g)]
         else bif beq n.1 20 || (beq n.1 21 || (beq n.1 38 || beq n.1 39)) then [(n.2.2.1,true,fA n t.1,g)]
         else bif beq n.1 41 then [(n.2.2.1,true,s.2.1,g)]
         else bif beq n.1 31 then [(n.2.1,true,iB s.2.1 n.2.2.1,s.2.2)]
         else []),()),()):=by
       intro o1 l hl h
       subst h
       simp only [Option.bind_some,hnl1 l _ hl,cond_true]
       cases h19:beq n.1 19 with
       | true=>rfl
       | false=>
        cases h20:(beq n.1 20 || (beq n.1 21 || (beq n.1 38 || beq n.1 39))) with
        | true=>rfl
        | false=>
         cases h41:beq n.1 41 with
         | true=>
          have he:=aL.1 h41
          have h1:t.1=s.2.1:=hinv.2.2.2 he
          have h2:g=s.2.2:=by
           rw [chg41 he] at hg
           cases hg
           rfl
          rw [h1,h2]
          rfl
         | false=>
          cases h31:beq n.1 31 with
          | false=>
           simp only [cond_false,List.append_nil]
          | true=>
           have he:=aL.1 h31
           have hf:=hn.fo 1 (by omega)
           rw [he,ro31] at hf
           obtain ⟨a,b⟩:=fokT hR (.inl rfl) hf
           have a:0≤n.2.2.1:=a
           have b:n.2.2.1+1 < p.2.2.2.2.1:=b
           rw [f132_ok s (by omega) (by omega)]
           simp only [Option.bind_some,cond_true,cond_false]
           rw [f131_528_loop _ _ _ _ _ _ (by omega) (by omega)]
           simp only [Option.bind_some,hnl1 l _ hl,cond_true]
           rw [List.length_set,fil_len,aY (n:=n.2.2.1+1) (by omega) (by omega),aK (show 0≤n.2.2.1 by omega) (by omega),aK (show 0≤n.2.2.1+1 by omega) (by omega),sg.on]
           rfl
      cases hc3:((bne n.1 19 && bne n.1 29) && bne n.1 30) with
      | true=>exact hpre _ [((at1:Int)+1,true,fA n t.1,g)] (Nat.le_refl _) rfl
      | false=>exact hpre _ [] (Nat.zero_le _) rfl
end Go.Ev.L6
namespace Go.Ev.L6
open Go.Proofs
def suc (n:S2) (x:Int):List Int:=
 bif beq n.1 1 || (beq n.1 3 || (beq n.1 28 || (beq n.1 29 || beq n.1 30))) then []
 else bif beq n.1 18 then (bif beq n.2.2.1 12 then [] else [x+1])
 else bif beq n.1 41 then [n.2.2.1]
 else bif beq n.1 19 then [n.2.1]
 else bif beq n.1 31 then [x+1,n.2.1]
 else bif beq n.1 20 || (beq n.1 21 || (beq n.1 38 || beq n.1 39)) then [x+1,n.2.2.1]
 else [x+1]
def sucS (n:S2) (x:Int):List Int:=
 bif beq n.1 1 || (beq n.1 3 || (beq n.1 28 || (beq n.1 29 || beq n.1 30))) then []
 else bif beq n.1 18 then (bif beq n.2.2.1 12 then [] else [x+1])
 else bif beq n.1 19 then [n.2.1]
 else bif beq n.1 41 then [n.2.2.1]
 else bif beq n.1 20 || (beq n.1 21 || (beq n.1 38 || beq n.1 39)) then [n.2.2.1,x+1]
 else bif beq n.1 31 then [n.2.1,x+1]
 else [x+1]
theorem suc_mem (n:S2) (x y:Int):y∈sucS n x↔y∈suc n x:=by
 unfold suc sucS
 cases (beq n.1 1 || (beq n.1 3 || (beq n.1 28 || (beq n.1 29 || beq n.1 30)))) with
 | true=>exact Iff.rfl
 | false=>
  cases beq n.1 18 with
  | true=>cases beq n.2.2.1 12<;>exact Iff.rfl
  | false=>
   cases h19:beq n.1 19 with
   | true=>
    rw [cV h19 (show (19:Int)≠41 by decide)]
    exact Iff.rfl
   | false=>
    cases beq n.1 41 with
    | true=>exact Iff.rfl
    | false=>
     cases h31:beq n.1 31 with
     | true=>
      rw [cV h31 (show (31:Int)≠20 by decide),cV h31 (show (31:Int)≠21 by decide),cV h31 (show (31:Int)≠38 by decide),cV h31 (show (31:Int)≠39 by decide)]
      simp only [cond_true,cond_false,Bool.or_self,List.mem_cons,List.not_mem_nil,or_false]
      exact Or.comm
     | false=>
      cases (beq n.1 20 || (beq n.1 21 || (beq n.1 38 || beq n.1 39))) with
      | true=>
       simp only [cond_true,cond_false,List.mem_cons,List.not_mem_nil,or_false]
       exact Or.comm
      | false=>exact Iff.rfl
theorem suc_len (n:S2) (x:Int):(suc n x).length≤2:=by
 unfold suc
 cases (beq n.1 1 || (beq n.1 3 || (beq n.1 28 || (beq n.1 29 || beq n.1 30))))<;>cases beq n.1 18<;>cases beq n.2.2.1 12<;>cases beq n.1 41<;>cases beq n.1 19<;>cases beq n.1 31<;>cases (beq n.1 20 || (beq n.1 21 || (beq n.1 38 || beq n.1 39)))<;>simp
theorem sucS_len (n:S2) (x:Int):(sucS n x).length≤2:=by
 unfold sucS
 cases (beq n.1 1 || (beq n.1 3 || (beq n.1 28 || (beq n.1 29 || beq n.1 30))))<;>cases beq n.1 18<;>cases beq n.2.2.1 12<;>cases beq n.1 41<;>cases beq n.1 19<;>cases beq n.1 31<;>cases (beq n.1 20 || (beq n.1 21 || (beq n.1 38 || beq n.1 39)))<;>simp
theorem f174_ok (n:S2) (x:Int) (hx:0≤x∧x≤1048576):f174 (n,x,())=some ((suc n x,()),()):=by
 simp only [f174]
 rw [aY (n:=x+1) (by omega) (by omega)]
 unfold suc
 cases (beq n.1 1 || (beq n.1 3 || (beq n.1 28 || (beq n.1 29 || beq n.1 30))))<;>cases beq n.1 18<;>cases beq n.2.2.1 12<;>cases beq n.1 41<;>cases beq n.1 19<;>cases beq n.1 31<;>cases (beq n.1 20 || (beq n.1 21 || (beq n.1 38 || beq n.1 39)))<;>rfl
theorem f158_ok (p:S9) (x:Int) (hx:0≤x∧x < (p.2.2.2.2.2.2.2.1.length:Int)) (hl:p.2.2.2.2.2.2.2.1.length≤1048576):f158 (p,x,())=some ((sucS (p.2.2.2.2.2.2.2.1.getD x.toNat aT) x,()),()):=by
 simp only [f158]
 rw [aY (n:=x+1) (by omega) (by omega),aK hx.1 hx.2]
 generalize p.2.2.2.2.2.2.2.1.getD x.toNat aT=n
 have hnl:∀ y:Int,cN (([]:List Int).length+[y].length) 17592186044416=true:=fun y=>rfl
 have hnl2:∀ y z:Int,cN ((([]:List Int) ++[y]).length+[z].length) 17592186044416=true:=fun y z=>rfl
 simp only [hnl,hnl2]
 unfold sucS
 cases (beq n.1 1 || (beq n.1 3 || (beq n.1 28 || (beq n.1 29 || beq n.1 30))))<;>cases beq n.1 18<;>cases beq n.2.2.1 12<;>cases beq n.1 41<;>cases beq n.1 19<;>cases beq n.1 31<;>cases (beq n.1 20 || (beq n.1 21 || (beq n.1 38 || beq n.1 39)))<;>rfl
abbrev nx (p:S9) (x:Int):List Int:=suc (p.2.2.2.2.2.2.2.1.getD x.toNat aT) x
theorem ro_t:ro 41 1=12∧ro 19 0=12∧ro 31 0=12∧ro 20 1=12∧ro 21 1=12∧ro 38 1=12∧ro 39 1=12:=⟨by kernel_rfl,by kernel_rfl,by kernel_rfl,by kernel_rfl,by kernel_rfl,by kernel_rfl,by kernel_rfl⟩
theorem at1_of {c:aN} {p:S9} (pw:PW c p) {x:Int} (hx:0≤x∧x < (p.2.2.2.2.2.2.2.1.length:Int)) (h19:(p.2.2.2.2.2.2.2.1.getD x.toNat aT).1≠19) (h29:(p.2.2.2.2.2.2.2.1.getD x.toNat aT).1≠29) (h30:(p.2.2.2.2.2.2.2.1.getD x.toNat aT).1≠30):x+1 < (p.2.2.2.2.2.2.2.1.length:Int):=by
 rcases pw.last x.toNat (by omega) with h | h | h | h
 ·exact absurd h h19
 ·exact absurd h h29
 ·exact absurd h h30
 ·omega
theorem tgB {c:aN} {p:S9} (pw:PW c p) {n:S2} (hn:IN c p n) (h:n.1=41∨n.1=20∨n.1=21∨n.1=38∨n.1=39):0≤n.2.2.1∧n.2.2.1 < (p.2.2.2.2.2.2.2.1.length:Int):=by
 obtain ⟨r1,r2,r3,r4,r5,r6,r7⟩:=ro_t
 have hf:=hn.fo 1 (by omega)
 have:ro n.1 1=12:=by rcases h with h | h | h | h | h<;>rw [h]<;>assumption
 rw [this] at hf
 exact fok12 pw.len hf
theorem tgA {c:aN} {p:S9} (pw:PW c p) {n:S2} (hn:IN c p n) (h:n.1=19∨n.1=31):0≤n.2.1∧n.2.1 < (p.2.2.2.2.2.2.2.1.length:Int):=by
 obtain ⟨r1,r2,r3,r4,r5,r6,r7⟩:=ro_t
 have hf:=hn.fo 0 (by omega)
 have:ro n.1 0=12:=by rcases h with h | h<;>rw [h]<;>assumption
 rw [this] at hf
 exact fok12 pw.len hf
theorem nx_in {c:aN} {p:S9} (pw:PW c p) {x y:Int} (hx:0≤x∧x < (p.2.2.2.2.2.2.2.1.length:Int)) (hy:y∈nx p x):0≤y∧y < (p.2.2.2.2.2.2.2.1.length:Int):=by
 have hn:=pw.ins x.toNat (by omega)
 have h1:=at1_of pw hx
 unfold nx suc at hy
 generalize p.2.2.2.2.2.2.2.1.getD x.toNat aT=n at hn hy h1
 cases h0:(beq n.1 1 || (beq n.1 3 || (beq n.1 28 || (beq n.1 29 || beq n.1 30)))) with
 | true=>
  rw [h0] at hy
  cases hy
 | false=>
  rw [h0] at hy
  simp only [Bool.or_eq_false_iff] at h0
  have h29:n.1≠29:=fun hh=>by
   rw [hh] at h0
   cases h0.2.2.2.1
  have h30:n.1≠30:=fun hh=>by
   rw [hh] at h0
   cases h0.2.2.2.2
  simp only [cond_false] at hy
  cases h18:beq n.1 18 with
  | true=>
   have h19:n.1≠19:=fun hh=>by
    rw [hh] at h18
    cases h18
   have:=h1 h19 h29 h30
   rw [h18] at hy
   revert hy
   cases beq n.2.2.1 12<;>intro hy
   ·rw [cond_true,cond_false,List.mem_singleton] at hy
    omega
   ·cases hy
  | false=>
   rw [h18] at hy
   simp only [cond_false] at hy
   cases h41:beq n.1 41 with
   | true=>
    rw [h41,cond_true,List.mem_singleton] at hy
    rw [hy]
    exact tgB pw hn (.inl (aL.1 h41))
   | false=>
    rw [h41] at hy
    simp only [cond_false] at hy
    cases h19:beq n.1 19 with
    | true=>
     rw [h19,cond_true,List.mem_singleton] at hy
     rw [hy]
     exact tgA pw hn (.inl (aL.1 h19))
    | false=>
     have h19':n.1≠19:=fun hh=>by
      rw [hh] at h19
      cases h19
     have hh1:=h1 h19' h29 h30
     rw [h19] at hy
     simp only [cond_false] at hy
     cases h31:beq n.1 31 with
     | true=>
      rw [h31,cond_true,List.mem_cons,List.mem_singleton] at hy
      rcases hy with hy | hy
      ·omega
      ·rw [hy]
       exact tgA pw hn (.inr (aL.1 h31))
     | false=>
      rw [h31] at hy
      simp only [cond_false] at hy
      cases h20:(beq n.1 20 || (beq n.1 21 || (beq n.1 38 || beq n.1 39))) with
      | true=>
       rw [h20,cond_true,List.mem_cons,List.mem_singleton] at hy
       rcases hy with hy | hy
       ·omega
       ·rw [hy]
        simp only [Bool.or_eq_true,aL] at h20
        exact tgB pw hn (.inr h20)
      | false=>
       rw [h20,cond_false,List.mem_singleton] at hy
       omega
inductive Rch (p:S9) (i:Int):Int→Prop
 | base {x:Int}:x∈nx p i→Rch p i x
 | step {y x:Int}:Rch p i y→x∈nx p y→Rch p i x
def uns:List Bool→Nat
 | []=>0
 | true ::r=>uns r
 | false ::r=>uns r+1
theorem uns_set:∀ (l:List Bool) (k:Nat),k < l.length→l.getD k false=false→uns (l.set k true)+1=uns l
 | [],k,h,_=>by cases h
 | b ::r,0,_,h=>by
  have h:b=false:=h
  subst h
  rfl
 | b ::r,k+1,h,h'=>by
  have:=uns_set r k (Nat.lt_of_succ_lt_succ h) h'
  cases b
  ·show uns (r.set k true)+1+1=uns r+1
   omega
  ·exact this
structure SI (p:S9) (i:Int) (seen:List Bool) (w:List Int):Prop where
 len:seen.length=p.2.2.2.2.2.2.2.1.length
 rch:∀ x,x∈w→Rch p i x∧0≤x∧x < (p.2.2.2.2.2.2.2.1.length:Int)
 fst:∀ x,x∈nx p i→x∈w∨seen.getD x.toNat false=true
 nxt:∀ y:Int,0≤y→y < (p.2.2.2.2.2.2.2.1.length:Int)→seen.getD y.toNat false=true→∀ x,x∈nx p y→x∈w∨seen.getD x.toNat false=true
 nself:∀ y:Int,0≤y→y < (p.2.2.2.2.2.2.2.1.length:Int)→seen.getD y.toNat false=true→y≠i
theorem getD_set_self {l:List Bool} {k:Nat} (h:k < l.length):(l.set k true).getD k false=true:=by
 rw [fX (by rw [List.length_set];exact h),List.getElem_set_self]
theorem getD_set_true {l:List Bool} {k j:Nat} (h:l.getD j false=true):(l.set k true).getD j false=true:=by
 rw [List.getD_eq_getElem?_getD] at h ⊢
 rw [List.getElem?_set]
 split
 ·split
  ·rfl
  ·rename_i h1 h2
   subst h1
   rw [List.getElem?_eq_none (by omega)] at h
   cases h
 ·exact h
theorem getD_set_inv {l:List Bool} {k j:Nat} (h:(l.set k true).getD j false=true):j=k∨l.getD j false=true:=by
 by_cases hj:j=k
 ·exact .inl hj
 ·rw [List.getD_eq_getElem?_getD,List.getElem?_set,if_neg (fun hh=>hj hh.symm)] at h
  rw [List.getD_eq_getElem?_getD]
  exact .inr h
theorem SI.done {c:aN} {p:S9} {i:Int} {seen:List Bool} (pw:PW c p) (hi:0≤i∧i < (p.2.2.2.2.2.2.2.1.length:Int)) (h:SI p i seen []):¬ Rch p i i:=by
 have key:∀ x,Rch p i x→(0≤x∧x < (p.2.2.2.2.2.2.2.1.length:Int))∧seen.getD x.toNat false=true:=by
  intro x hx
  induction hx with
  | base hm=>
   refine ⟨nx_in pw hi hm,?_⟩
   rcases h.fst _ hm with hh | hh
   ·cases hh
   ·exact hh
  | step hy hm ih=>
   refine ⟨nx_in pw ih.1 hm,?_⟩
   rcases h.nxt _ ih.1.1 ih.1.2 ih.2 _ hm with hh | hh
   ·cases hh
   ·exact hh
 intro hr
 obtain ⟨a,b⟩:=key i hr
 exact h.nself i a.1 a.2 b rfl
theorem SI.skip {p:S9} {i k:Int} {seen:List Bool} {w w':List Int} (h:SI p i seen w) (hs:seen.getD k.toNat false=true) (hw:∀ x,x∈w→x=k∨x∈w') (hw':∀ x,x∈w'→x∈w):SI p i seen w' where
 len:=h.len
 rch:=fun x hx=>h.rch x (hw' x hx)
 fst:=fun x hx=>by
  rcases h.fst x hx with hh | hh
  ·rcases hw x hh with h1 | h1
   ·rw [h1]
    exact .inr hs
   ·exact .inl h1
  ·exact .inr hh
 nxt:=fun y a b hy x hx=>by
  rcases h.nxt y a b hy x hx with hh | hh
  ·rcases hw x hh with h1 | h1
   ·rw [h1]
    exact .inr hs
   ·exact .inl h1
  ·exact .inr hh
 nself:=h.nself
theorem SI.open {c:aN} {p:S9} {i k:Int} {seen:List Bool} {w w':List Int} (pw:PW c p) (h:SI p i seen w) (hk:k∈w) (hki:k≠i) (hw:∀ x,x∈w→x=k∨x∈w') (hw':∀ x,x∈w'→x∈w∨x∈nx p k) (hn:∀ x,x∈nx p k→x∈w'):SI p i (seen.set k.toNat true) w':=by
 obtain ⟨r0,r1,r2⟩:=h.rch k hk
 have hlen:=h.len
 have hself:(seen.set k.toNat true).getD k.toNat false=true:=getD_set_self (by omega)
 refine ⟨by rw [List.length_set];exact h.len,fun x hx=>?_,fun x hx=>?_,fun y a b hy x hx=>?_,fun y a b hy=>?_⟩
 ·rcases hw' x hx with hh | hh
  ·exact h.rch x hh
  ·exact ⟨.step r0 hh,nx_in pw ⟨r1,r2⟩ hh⟩
 ·rcases h.fst x hx with hh | hh
  ·rcases hw x hh with h1 | h1
   ·rw [h1]
    exact .inr hself
   ·exact .inl h1
  ·exact .inr (getD_set_true hh)
 ·rcases getD_set_inv hy with h1 | h1
  ·have:y=k:=by omega
   subst this
   exact .inl (hn x hx)
  ·rcases h.nxt y a b h1 x hx with hh | hh
   ·rcases hw x hh with h1 | h1
    ·rw [h1]
     exact .inr hself
    ·exact .inl h1
   ·exact .inr (getD_set_true hh)
 ·rcases getD_set_inv hy with h1 | h1
  ·have:y=k:=by omega
   rw [this]
   exact hki
  ·exact h.nself y a b h1
theorem lst_split {l:List Int} (h:0 < l.length):l=l.take (l.length - 1) ++[l.getD (l.length - 1) 0]:=by
 rw [gE (by omega),show l.length - 1+1=l.length by omega,List.take_length]
theorem lM {c:aN} {p:S9} (pw:PW c p) (states:List S6) (i:Int) (x y:Int) (hi:0≤i∧i < (p.2.2.2.2.2.2.2.1.length:Int)) :
  ∀ (m:Nat) (seen:List Bool) (todo:List Int),3*uns seen+todo.length≤m→m≤3145730→SI p i seen todo→
   (aA f134_28 (states,(p,()),i,seen,todo,x,y,())=some (.inl (states,(p,()),x,y,()))∧¬ Rch p i i)∨(aA f134_28 (states,(p,()),i,seen,todo,x,y,())=some (.inr (i,()))∧Rch p i i)
 | m,seen,[],hm,hM,h=>by
  refine .inl ⟨?_,h.done pw hi⟩
  rw [aM]
  rfl
 | 0,seen,t ::todo,hm,hM,h=>by
  have:(t ::todo).length=todo.length+1:=rfl
  omega
 | m+1,seen,t0 ::todo0,hm,hM,h=>by
  generalize htd:t0 ::todo0=todo at hm h
  have h0:0 < todo.length:=by
   rw [← htd]
   exact Nat.succ_pos _
  have hl:=lst_split h0
  have e1:wr ((todo.length:Int) - 1)=((todo.length - 1:Nat):Int):=by
   rw [aY (by omega) (by omega)]
   omega
  generalize hk:todo.getD (todo.length - 1) 0=k at hl
  generalize hw:todo.take (todo.length - 1)=w at hl
  have hkm:k∈todo:=by
   rw [hl]
   exact List.mem_append_right _ (List.mem_singleton.2 rfl)
  obtain ⟨r0,r1,r2⟩:=h.rch k hkm
  have hlen:=h.len
  have hwl:w.length+1=todo.length:=by
   rw [hl,List.length_append,List.length_singleton]
  have hmem:∀ z,z∈todo→z=k∨z∈w:=fun z hz=>by
   rw [hl,List.mem_append,List.mem_singleton] at hz
   exact hz.symm
  have hmem':∀ z,z∈w→z∈todo:=fun z hz=>by
   rw [hl]
   exact List.mem_append_left _ hz
  have hplen:=pw.len
  rw [aM]
  have hstep:f134_28 (states,(p,()),i,seen,todo,x,y,())=bif beq k i then some (.inr (.inr (i,()))) else bif seen.getD k.toNat false then some (.inl (states,(p,()),i,seen,w,x,y,())) else some (.inl (states,(p,()),i,seen.set k.toNat true,w ++nx p k,x,y,())):=by
   have hsl:=suc_len (p.2.2.2.2.2.2.2.1.getD k.toNat aT) k
   simp only [f134_28]
   rw [bD (show (0:Int) < (todo.length:Int) by omega),e1,aB (show todo.length - 1 < todo.length by omega),cC (show (0:Int)≤((todo.length - 1:Nat):Int) by omega) (show ((todo.length - 1:Nat):Int)≤(todo.length:Int) by omega)]
   simp only [cond_true,Int.toNat_natCast]
   rw [hk,hw,aK r1 (show k < (seen.length:Int) by omega),aK r1 r2,f174_ok _ _ (by omega)]
   simp only [cond_true,Option.bind_some]
   rw [bH (by
    have:=suc_len (p.2.2.2.2.2.2.2.1.getD k.toNat aT) k
    omega)]
   cases beq k i<;>cases seen.getD k.toNat false<;>rfl
  rw [hstep]
  cases hb:beq k i with
  | true=>
   have:k=i:=aL.1 hb
   subst this
   exact .inr ⟨rfl,r0⟩
  | false=>
   have hki:k≠i:=fun hh=>by
    rw [hh,gA] at hb
    cases hb
   cases hs:seen.getD k.toNat false with
   | true=>
    exact lM pw states i x y hi m seen w (by omega) (by omega) (h.skip hs hmem hmem')
   | false=>
    have hu:=uns_set seen k.toNat (by omega) hs
    have hsl:(nx p k).length≤2:=suc_len (p.2.2.2.2.2.2.2.1.getD k.toNat aT) k
    refine lM pw states i x y hi m (seen.set k.toNat true) (w ++nx p k) (by rw [List.length_append];omega) (by omega) ?_
    refine h.open pw hkm hki (fun z hz=>?_) (fun z hz=>?_) (fun z hz=>List.mem_append_right _ hz)
    ·rcases hmem z hz with h1 | h1
     ·exact .inl h1
     ·exact .inr (List.mem_append_left _ h1)
    ·rw [List.mem_append] at hz
     rcases hz with h1 | h1
     ·exact .inl (hmem' z h1)
     ·exact .inr h1
theorem f113_48_loop (at1:Int) (p:S9) (seen:List Bool) (i:Int) (l xs:List Int) (hl:l.length≤8388608) (hx:xs.length≤2) :
  aA f113_48 (at1,(p,()),seen,l,i,xs,(xs.length:Int),(0:Int),())=some (at1,(p,()),seen,l ++xs,i,()):=by
 have hrun:∀ k j,j+k=xs.length→run (ε:=Unit) (fun j (t:List Int)=> .inl (t ++[xs.getD j 0])) k j (l ++xs.take j)= .inl (l ++xs):=by
  intro k
  induction k with
  | zero=>
   intro j hj
   unfold run
   rw [List.take_of_length_le (by omega)]
  | succ k ih=>
   intro j hj
   unfold run
   simp only []
   rw [List.append_assoc,gE (by omega)]
   exact ih (j+1) (by omega)
 refine (bW (body:=f113_48) (mk:=fun j (t:List Int)=>(at1,(p,()),seen,t,i,xs,(xs.length:Int),(j:Int),())) (ε:=Unit) (fin:=fun o=>(at1,(p,()),seen,(match o with | .inl t=>t | .inr _=>[]),i,())) (step:=fun j t=> .inl (t ++[xs.getD j 0])) (I:=fun j t=>t.length=l.length+j) (n:=xs.length) (fun j t hj ht=>?_) (fun j t t' hj ht h=>?_) (fun t ht=>?_) xs.length 0 l (by omega) rfl).trans ?_
 ·simp only [f113_48,Int.toNat_natCast]
  rw [aH hj,aB hj,aC hj (by omega),bH (by rw [List.length_singleton];omega)]
  rfl
 ·cases h
  rw [List.length_append,List.length_singleton]
  omega
 ·simp only [f113_48]
  rw [aJ]
  rfl
 ·have h0:=hrun xs.length 0 (by omega)
  rw [List.take_zero,List.append_nil] at h0
  rw [h0]
theorem lN {c:aN} {p:S9} (pw:PW c p) (i:Int) (hi:0≤i∧i < (p.2.2.2.2.2.2.2.1.length:Int)) :
  ∀ (m:Nat) (seen:List Bool) (l:List Int) (j:Nat),j≤l.length→3*uns seen+(l.length - j)≤m→l.length+2*uns seen≤4194304→SI p i seen (l.drop j)→
   (aA f113_16 (i,(p,()),seen,l,(j:Int),())=some (.inl ())∧¬ Rch p i i)∨(aA f113_16 (i,(p,()),seen,l,(j:Int),())=some (.inr (true,()))∧Rch p i i)
 | m,seen,l,j,hj,hm,hM,h=>by
  by_cases hjl:j=l.length
  ·subst hjl
   rw [List.drop_length] at h
   refine .inl ⟨?_,h.done pw hi⟩
   rw [aM]
   simp only [f113_16]
   rw [aJ]
   rfl
  ·have hjl:j < l.length:=by omega
   match m,hm with
   | 0,hm=>omega
   | m+1,hm=>
    have hd:l.drop j=l.getD j 0 ::l.drop (j+1):=by
     rw [fX hjl]
     exact List.drop_eq_getElem_cons hjl
    generalize hk:l.getD j 0=k at hd
    have hkm:k∈l.drop j:=by
     rw [hd]
     exact List.mem_cons_self
    obtain ⟨r0,r1,r2⟩:=h.rch k hkm
    have hlen:=h.len
    have hplen:=pw.len
    have hmem:∀ z,z∈l.drop j→z=k∨z∈l.drop (j+1):=fun z hz=>by
     rw [hd,List.mem_cons] at hz
     exact hz
    have hmem':∀ z,z∈l.drop (j+1)→z∈l.drop j:=fun z hz=>by
     rw [hd]
     exact List.mem_cons_of_mem _ hz
    have hsl:=sucS_len (p.2.2.2.2.2.2.2.1.getD k.toNat aT) k
    rw [aM]
    have hstep:f113_16 (i,(p,()),seen,l,(j:Int),())=bif beq k i then some (.inr (.inr (true,()))) else bif seen.getD k.toNat false then some (.inl (i,(p,()),seen,l,((j+1:Nat):Int),())) else some (.inl (i,(p,()),seen.set k.toNat true,l ++sucS (p.2.2.2.2.2.2.2.1.getD k.toNat aT) k,((j+1:Nat):Int),())):=by
     simp only [f113_16,Int.toNat_natCast]
     rw [aH hjl,aB hjl,hk,aK r1 (show k < (seen.length:Int) by omega),f158_ok p k ⟨r1,r2⟩ hplen]
     simp only [cond_true,Option.bind_some]
     rw [f113_48_loop _ _ _ _ _ _ (by omega) hsl]
     simp only [Option.bind_some]
     rw [aY (n:=(j:Int)+1) (by omega) (by omega),show (j:Int)+1=((j+1:Nat):Int) by omega]
     cases beq k i<;>cases seen.getD k.toNat false<;>rfl
    rw [hstep]
    cases hb:beq k i with
    | true=>
     have:k=i:=aL.1 hb
     subst this
     exact .inr ⟨rfl,r0⟩
    | false=>
     have hki:k≠i:=fun hh=>by
      rw [hh,gA] at hb
      cases hb
     cases hs:seen.getD k.toNat false with
     | true=>exact lN pw i hi m seen l (j+1) (by omega) (by omega) hM (h.skip hs hmem hmem')
     | false=>
      have hu:=uns_set seen k.toNat (by omega) hs
      refine lN pw i hi m (seen.set k.toNat true) (l ++sucS (p.2.2.2.2.2.2.2.1.getD k.toNat aT) k) (j+1) (by rw [List.length_append];omega) (by rw [List.length_append];omega) (by rw [List.length_append];omega) ?_
      rw [List.drop_append_of_le_length (by omega)]
      refine h.open pw hkm hki (fun z hz=>?_) (fun z hz=>?_) (fun z hz=>List.mem_append_right _ ((suc_mem _ _ _).2 hz))
      ·rcases hmem z hz with h1 | h1
       ·exact .inl h1
       ·exact .inr (List.mem_append_left _ h1)
      ·rw [List.mem_append] at hz
       rcases hz with h1 | h1
       ·exact .inl (hmem' z h1)
       ·exact .inr ((suc_mem _ _ _).1 h1)
theorem uns_rep (n:Nat):uns (List.replicate n false)=n:=by
 induction n with
 | zero=>rfl
 | succ n ih=>exact congrArg (·+1) ih
theorem rep_getD (n k:Nat):(List.replicate n false).getD k false=false:=by
 rw [List.getD_eq_getElem?_getD,List.getElem?_replicate]
 split<;>rfl
theorem si_start {c:aN} {p:S9} (pw:PW c p) {i:Int} (hi:0≤i∧i < (p.2.2.2.2.2.2.2.1.length:Int)) {w:List Int} (hw:∀ x,x∈w↔x∈nx p i):SI p i (List.replicate p.2.2.2.2.2.2.2.1.length false) w where
 len:=List.length_replicate
 rch:=fun x hx=>⟨.base ((hw x).1 hx),nx_in pw hi ((hw x).1 hx)⟩
 fst:=fun x hx=> .inl ((hw x).2 hx)
 nxt:=fun y _ _ hy=>by
  rw [rep_getD] at hy
  cases hy
 nself:=fun y _ _ hy=>by
  rw [rep_getD] at hy
  cases hy
open Classical in
noncomputable def ring (p:S9) (i:Nat):Bool:=decide (Rch p (i:Int) (i:Int))
open Classical in
theorem ring_f {p:S9} {i:Nat} (h:¬ Rch p (i:Int) (i:Int)):ring p i=false:=by
 unfold ring
 exact decide_eq_false h
open Classical in
theorem ring_t {p:S9} {i:Nat} (h:Rch p (i:Int) (i:Int)):ring p i=true:=by
 unfold ring
 exact decide_eq_true h
theorem f113_ok {c:aN} {p:S9} (pw:PW c p) (i:Nat) (hi:i < p.2.2.2.2.2.2.2.1.length):f113 (p,(i:Int),())=some ((ring p i,()),()):=by
 have hplen:=pw.len
 simp only [f113]
 rw [cC (by omega) (by omega),f158_ok p (i:Int) (by omega) hplen]
 simp only [cond_true,Option.bind_some,Int.toNat_natCast]
 have hsl:=sucS_len (p.2.2.2.2.2.2.2.1.getD i aT) (i:Int)
 have h:=lN pw (i:Int) (by omega) (3*p.2.2.2.2.2.2.2.1.length+2) (List.replicate p.2.2.2.2.2.2.2.1.length false) (sucS (p.2.2.2.2.2.2.2.1.getD i aT) (i:Int)) 0 (by omega) (by rw [uns_rep];omega) (by rw [uns_rep];omega) (si_start pw (by omega) (fun x=>suc_mem _ _ _))
 rcases h with ⟨h1,h2⟩ | ⟨h1,h2⟩
 ·rw [show aA f113_16 ((i:Int),(p,()),List.replicate p.2.2.2.2.2.2.2.1.length false,sucS (p.2.2.2.2.2.2.2.1.getD i aT) (i:Int),(0:Int),())=_ from h1,ring_f h2]
  rfl
 ·rw [show aA f113_16 ((i:Int),(p,()),List.replicate p.2.2.2.2.2.2.2.1.length false,sucS (p.2.2.2.2.2.2.2.1.getD i aT) (i:Int),(0:Int),())=_ from h1,ring_t h2]
  rfl
noncomputable def rgT (p:S9) (states:List S6) (i:Nat):Option Nat:=bif (states.getD i fI).1 && ring p i then some i else none
theorem f134_ok {c:aN} {p:S9} (pw:PW c p) (states:List S6) (hs:states.length=p.2.2.2.2.2.2.2.1.length) :
  f134 (p,states,())=some (((match bJ (rgT p states) p.2.2.2.2.2.2.2.1.length 0 with | none=>-1 | some i=>(i:Int)),()),()):=by
 have hplen:=pw.len
 simp only [f134]
 have hloop:aA f134_8 (states,(p,()),(p.2.2.2.2.2.2.2.1.length:Int),(0:Int),())=some (match bJ (rgT p states) p.2.2.2.2.2.2.2.1.length 0 with | none=> .inl () | some i=> .inr ((i:Int),())):=by
  refine aP (body:=f134_8) (fun i=>(states,(p,()),(p.2.2.2.2.2.2.2.1.length:Int),(i:Int),())) (fun o:Option Nat=>match o with | none=> .inl () | some i=> .inr ((i:Int),())) (rgT p states) p.2.2.2.2.2.2.2.1.length (fun i hi=>?_) ?_
  ·simp only [f134_8,Int.toNat_natCast]
   rw [aH hi,aB (show i < states.length by omega),aB hi,cC (by omega) (by omega),f174_ok _ _ (by omega)]
   simp only [cond_true,Option.bind_some,rgT]
   cases hst:(states.getD i fI).1 with
   | false=>
    simp only [Bool.not_false,cond_true]
    rw [aC hi hplen]
    rfl
   | true=>
    simp only [Bool.not_true,cond_false,Bool.true_and]
    have hsl:=suc_len (p.2.2.2.2.2.2.2.1.getD i aT) (i:Int)
    have h:=lM pw states (i:Int) (p.2.2.2.2.2.2.2.1.length:Int) (i:Int) (by omega) (3*p.2.2.2.2.2.2.2.1.length+2) (List.replicate p.2.2.2.2.2.2.2.1.length false) (nx p (i:Int)) (by rw [uns_rep];show _+(suc (p.2.2.2.2.2.2.2.1.getD i aT) (i:Int)).length≤_;omega) (by omega) (si_start pw (by omega) (fun x=>Iff.rfl))
    rcases h with ⟨h1,h2⟩ | ⟨h1,h2⟩
    ·rw [show aA f134_28 (states,(p,()),(i:Int),List.replicate p.2.2.2.2.2.2.2.1.length false,suc (p.2.2.2.2.2.2.2.1.getD i aT) (i:Int),(p.2.2.2.2.2.2.2.1.length:Int),(i:Int),())=_ from h1,ring_f h2]
     simp only [Option.bind_some]
     rw [aC hi hplen]
     rfl
    ·rw [show aA f134_28 (states,(p,()),(i:Int),List.replicate p.2.2.2.2.2.2.2.1.length false,suc (p.2.2.2.2.2.2.2.1.getD i aT) (i:Int),(p.2.2.2.2.2.2.2.1.length:Int),(i:Int),())=_ from h1,ring_t h2]
     rfl
  ·simp only [f134_8]
   rw [aJ]
   rfl
 rw [hloop]
 cases bJ (rgT p states) p.2.2.2.2.2.2.2.1.length 0<;>rfl
theorem f63_72_loop {c:aN} {p:S9} (pw:PW c p) (o:Int) (z:aZ) (states:List S6) (hs:states.length=p.2.2.2.2.2.2.2.1.length) :
  aA f63_72 (o,(z,()),(p,()),states,(states.length:Int),(0:Int),())=some (match bJ (rgT p states) p.2.2.2.2.2.2.2.1.length 0 with | none=> .inl ((z,()),states,()) | some i=> .inr ([],((14,o,(i:Int)),()),())):=by
 have hplen:=pw.len
 rw [hs]
 refine aP (body:=f63_72) (fun i=>(o,(z,()),(p,()),states,(p.2.2.2.2.2.2.2.1.length:Int),(i:Int),())) (fun o1:Option Nat=>match o1 with | none=> .inl ((z,()),states,()) | some i=> .inr ([],((14,o,(i:Int)),()),())) (rgT p states) p.2.2.2.2.2.2.2.1.length (fun i hi=>?_) ?_
 ·simp only [f63_72,Int.toNat_natCast]
  rw [aH hi,aB (show i < states.length by omega),f113_ok pw i hi,aC hi hplen]
  simp only [cond_true,Option.bind_some,jB,f112,rgT]
  cases (states.getD i fI).1<;>cases ring p i<;>rfl
 ·simp only [f63_72]
  rw [aJ]
  rfl
end Go.Ev.L6
namespace Go.Ev.L6
open Go.Proofs
def tyT (a b:S6) (i:Nat):Option Unit:=bif bne (a.2.1.getD i 0) (b.2.1.getD i 0) then some () else none
def gdT (a b:S6) (i:Nat):Option Unit:=bif !(jF (a.2.2.getD i G0).1 (b.2.2.getD i G0).1 && (beq (a.2.2.getD i G0).2.1 (b.2.2.getD i G0).2.1 && (beq (a.2.2.getD i G0).2.2 (b.2.2.getD i G0).2.2 && true))) then some () else none
def sm (a b:S6):Bool:=(bJ (tyT a b) a.2.1.length 0).isNone && (!(bne (a.2.2.length:Int) (b.2.2.length:Int)) && (bJ (gdT a b) a.2.2.length 0).isNone)
theorem f121_ok (a b:S6) (h:a.2.1.length=b.2.1.length) (hl:a.2.1.length≤1048576) (hg:a.2.2.length≤1048576):f121 (a,b,())=some ((sm a b,()),()):=by
 simp only [f121]
 unfold sm
 rw [h,aS,Bool.false_or]
 cases hb:bne (a.2.2.length:Int) (b.2.2.length:Int) with
 | true=>cases (bJ (tyT a b) b.2.1.length 0).isNone<;>rfl
 | false=>
  have h2:a.2.2.length=b.2.2.length:=by
   have:=kT hb
   omega
  have l1:aA f121_16 ((a,()),(b,()),(b.2.1.length:Int),(0:Int),())=some (match bJ (tyT a b) b.2.1.length 0 with | none=> .inl ((a,()),(b,()),()) | some _=> .inr (false,())):=by
   refine aP (body:=f121_16) (fun i=>((a,()),(b,()),(b.2.1.length:Int),(i:Int),())) (fun o:Option Unit=>match o with | none=> .inl ((a,()),(b,()),()) | some _=> .inr (false,())) (tyT a b) b.2.1.length (fun i hi=>?_) ?_
   ·simp only [f121_16,Int.toNat_natCast]
    rw [aH hi,aB (show i < a.2.1.length by omega),aB hi,aC hi (by omega)]
    simp only [cond_true,tyT]
    cases bne (a.2.1.getD i 0) (b.2.1.getD i 0)<;>rfl
   ·simp only [f121_16]
    rw [aJ]
    rfl
  have l2:aA f121_40 ((a,()),(b,()),(a.2.2.length:Int),(0:Int),())=some (match bJ (gdT a b) a.2.2.length 0 with | none=> .inl () | some _=> .inr (false,())):=by
   refine aP (body:=f121_40) (fun i=>((a,()),(b,()),(a.2.2.length:Int),(i:Int),())) (fun o:Option Unit=>match o with | none=> .inl () | some _=> .inr (false,())) (gdT a b) a.2.2.length (fun i hi=>?_) ?_
   ·simp only [f121_40,Int.toNat_natCast]
    rw [aH hi,aB hi,aB (show i < b.2.2.length by omega),aC hi (by omega)]
    simp only [cond_true,gdT]
    cases (!(jF (a.2.2.getD i G0).1 (b.2.2.getD i G0).1 && (beq (a.2.2.getD i G0).2.1 (b.2.2.getD i G0).2.1 && (beq (a.2.2.getD i G0).2.2 (b.2.2.getD i G0).2.2 && true))))<;>rfl
   ·simp only [f121_40]
    rw [aJ]
    rfl
  simp only [cond_false]
  rw [l1]
  cases bJ (tyT a b) b.2.1.length 0 with
  | some _=>rfl
  | none=>
   simp only [Option.bind_some]
   rw [l2]
   cases bJ (gdT a b) a.2.2.length 0<;>rfl
theorem f133_ok (a b:S6) (h:a.2.1.length=b.2.1.length) (hl:a.2.1.length≤1048576) (hg:a.2.2.length≤1048576):f133 (a,b,())=some ((sm a b,()),()):=by
 simp only [f133]
 unfold sm
 have l1:aA f133_8 ((a,()),(b,()),(a.2.1.length:Int),(0:Int),())=some (match bJ (tyT a b) a.2.1.length 0 with | none=> .inl ((a,()),(b,()),()) | some _=> .inr (false,())):=by
  refine aP (body:=f133_8) (fun i=>((a,()),(b,()),(a.2.1.length:Int),(i:Int),())) (fun o:Option Unit=>match o with | none=> .inl ((a,()),(b,()),()) | some _=> .inr (false,())) (tyT a b) a.2.1.length (fun i hi=>?_) ?_
  ·simp only [f133_8,Int.toNat_natCast]
   rw [aH hi,aB hi,aB (show i < b.2.1.length by omega),aC hi (by omega)]
   simp only [cond_true,tyT]
   cases bne (a.2.1.getD i 0) (b.2.1.getD i 0)<;>rfl
  ·simp only [f133_8]
   rw [aJ]
   rfl
 rw [l1]
 cases bJ (tyT a b) a.2.1.length 0 with
 | some _=>rfl
 | none=>
  simp only [Option.bind_some]
  cases hb:bne (a.2.2.length:Int) (b.2.2.length:Int) with
  | true=>rfl
  | false=>
   have h2:a.2.2.length=b.2.2.length:=by
    have:=kT hb
    omega
   have l2:aA f133_40 ((a,()),(b,()),(a.2.2.length:Int),(0:Int),())=some (match bJ (gdT a b) a.2.2.length 0 with | none=> .inl () | some _=> .inr (false,())):=by
    refine aP (body:=f133_40) (fun i=>((a,()),(b,()),(a.2.2.length:Int),(i:Int),())) (fun o:Option Unit=>match o with | none=> .inl () | some _=> .inr (false,())) (gdT a b) a.2.2.length (fun i hi=>?_) ?_
    ·simp only [f133_40,Int.toNat_natCast]
     rw [aH hi,aB hi,aB (show i < b.2.2.length by omega),aC hi (by omega)]
     simp only [cond_true,gdT]
     cases (!(jF (a.2.2.getD i G0).1 (b.2.2.getD i G0).1 && (beq (a.2.2.getD i G0).2.1 (b.2.2.getD i G0).2.1 && (beq (a.2.2.getD i G0).2.2 (b.2.2.getD i G0).2.2 && true))))<;>rfl
    ·simp only [f133_40]
     rw [aJ]
     rfl
   simp only [cond_false]
   rw [l2]
   cases bJ (gdT a b) a.2.2.length 0<;>rfl
structure FG (p:S9) (x:S5):Prop where
 at0:0≤x.1∧x.1 < (p.2.2.2.2.2.2.2.1.length:Int)
 sg:SG p x.2
theorem sg_mk {p:S9} {ts:List Int} {gs:List S4} (h1:(ts.length:Int)=p.2.2.2.2.1) (h2:gs.length≤50) (h3:∀ g,g∈gs→g.2.1≤p.2.2.2.2.1):SG p (true,ts,gs):=⟨rfl,h1,h2,h3⟩
theorem chg_good {c:aN} {p:S9} {n:S2} {gs g:List S4} (hn:IN c p n) (hR:0≤p.2.2.2.2.1∧p.2.2.2.2.1≤250) (h:chg n gs=some g) (hl:gs.length≤50) (hk:∀ g,g∈gs→g.2.1≤p.2.2.2.2.1):g.length≤50∧∀ x,x∈g→x.2.1≤p.2.2.2.2.1:=by
 unfold chg at h
 cases h31:beq n.1 31 with
 | true=>
  rw [h31] at h
  simp only [cond_true] at h
  cases h50:blt (gs.length:Int) 50 with
  | false=>rw [h50] at h;cases h
  | true=>
   have h50:=fZ.1 h50
   revert h
   cases (blt (gs.length:Int) 50 && abv gs n.2.2.1)<;>intro h<;>cases h
   have hf:=hn.fo 1 (by omega)
   rw [aL.1 h31,ro31] at hf
   obtain ⟨a,b⟩:=fokT hR (.inl rfl) hf
   have b:n.2.2.1+1 < p.2.2.2.2.1:=b
   refine ⟨by rw [List.length_append,List.length_singleton];omega,fun x hx=>?_⟩
   rw [List.mem_append,List.mem_singleton] at hx
   rcases hx with hx | rfl
   ·exact hk x hx
   ·show n.2.2.1≤_
    omega
 | false=>
  rw [h31] at h
  simp only [cond_false] at h
  have hA:n.1=33∨n.1=34→n.2.1≤p.2.2.2.2.1:=fun hh=>by
   have hf:=hn.fo 0 (by omega)
   have:ro n.1 0=16:=by rcases hh with hh | hh<;>rw [hh]<;>kernel_rfl
   rw [this] at hf
   exact (fok16 hf).2
  cases h33:beq n.1 33 with
  | true=>
   rw [h33] at h
   simp only [cond_true] at h
   cases h50:blt (gs.length:Int) 50 with
   | false=>rw [h50] at h;cases h
   | true=>
    have h50:=fZ.1 h50
    revert h
    cases (blt (gs.length:Int) 50 && abv gs n.2.1)<;>intro h<;>cases h
    refine ⟨by rw [List.length_append,List.length_singleton];omega,fun x hx=>?_⟩
    rw [List.mem_append,List.mem_singleton] at hx
    rcases hx with hx | rfl
    ·exact hk x hx
    ·exact hA (.inl (aL.1 h33))
  | false=>
   rw [h33] at h
   simp only [cond_false] at h
   cases h32:beq n.1 32 with
   | true=>
    rw [h32] at h
    revert h
    cases (beq (gs.length:Int) 0 || !(lst gs).1)<;>intro h<;>cases h
    exact ⟨by rw [List.length_take];omega,fun x hx=>hk x (List.mem_of_mem_take hx)⟩
   | false=>
    rw [h32] at h
    simp only [cond_false] at h
    cases h345:(beq n.1 34 || (beq n.1 35 || beq n.1 36)) with
    | false=>
     rw [h345] at h
     cases h
     exact ⟨hl,hk⟩
    | true=>
     rw [h345] at h
     simp only [cond_true] at h
     revert h
     cases ((beq (gs.length:Int) 0 || (lst gs).1) || (beq n.1 34 && !(abv gs n.2.1)))<;>intro h
     ·simp only [cond_false] at h
      cases h34:beq n.1 34 with
      | true=>
       rw [h34] at h
       cases h
       refine ⟨by simp only [cond_true,List.length_set];exact hl,fun x hx=>?_⟩
       rcases List.mem_or_eq_of_mem_set hx with hx | rfl
       ·exact hk x hx
       ·exact hA (.inr (aL.1 h34))
      | false=>
       rw [h34] at h
       simp only [cond_false] at h
       revert h
       cases beq n.1 36<;>intro h<;>cases h
       ·exact ⟨hl,hk⟩
       ·exact ⟨by simp only [cond_true,List.length_take];omega,fun x hx=>hk x (List.mem_of_mem_take hx)⟩
     ·cases h
theorem hnd_len (ts:List Int) (B:Int):(iB ts B).length=ts.length:=by
 unfold iB
 rw [List.length_set,List.length_set,fil_len]
theorem fol_good {c:aN} {p:S9} (pw:PW c p) (at1:Nat) (hat:at1 < p.2.2.2.2.2.2.2.1.length) (s:S6) (sg:SG p s) (ts:List Int) (g:List S4) (hts:(ts.length:Int)=p.2.2.2.2.1) (hg:g.length≤50) (hk:∀ x,x∈g→x.2.1≤p.2.2.2.2.1) :
  ∀ x,x∈fol (p.2.2.2.2.2.2.2.1.getD at1 aT) (at1:Int) s ts g→FG p x:=by
 have hn:=pw.ins at1 hat
 have hlast:=pw.last at1 hat
 generalize p.2.2.2.2.2.2.2.1.getD at1 aT=n at hn hlast
 intro x hx
 unfold fol at hx
 rw [List.mem_append] at hx
 rcases hx with hx | hx
 ·cases h3:((bne n.1 19 && bne n.1 29) && bne n.1 30) with
  | false=>
   rw [h3] at hx
   cases hx
  | true=>
   rw [h3,cond_true,List.mem_singleton] at hx
   subst hx
   rw [Bool.and_eq_true,Bool.and_eq_true,jW,jW,jW] at h3
   refine ⟨?_,sg_mk hts hg hk⟩
   show 0≤(at1:Int)+1∧(at1:Int)+1 < _
   rcases hlast with h | h | h | h
   ·exact absurd h h3.1.1
   ·exact absurd h h3.1.2
   ·exact absurd h h3.2
   ·omega
 ·cases h19:beq n.1 19 with
  | true=>
   rw [h19,cond_true,List.mem_singleton] at hx
   subst hx
   exact ⟨tgA pw hn (.inl (aL.1 h19)),sg_mk hts hg hk⟩
  | false=>
   rw [h19] at hx
   simp only [cond_false] at hx
   cases h20:(beq n.1 20 || (beq n.1 21 || (beq n.1 38 || beq n.1 39))) with
   | true=>
    rw [h20,cond_true,List.mem_singleton] at hx
    subst hx
    simp only [Bool.or_eq_true,aL] at h20
    exact ⟨tgB pw hn (.inr h20),sg_mk hts hg hk⟩
   | false=>
    rw [h20] at hx
    simp only [cond_false] at hx
    cases h41:beq n.1 41 with
    | true=>
     rw [h41,cond_true,List.mem_singleton] at hx
     subst hx
     exact ⟨tgB pw hn (.inl (aL.1 h41)),sg_mk sg.ts hg hk⟩
    | false=>
     rw [h41] at hx
     simp only [cond_false] at hx
     cases h31:beq n.1 31 with
     | true=>
      rw [h31,cond_true,List.mem_singleton] at hx
      subst hx
      exact ⟨tgA pw hn (.inr (aL.1 h31)),sg_mk (by rw [hnd_len];exact sg.ts) sg.gs sg.keep⟩
     | false=>
      rw [h31] at hx
      cases hx
theorem stp_good {c:aN} {p:S9} (pw:PW c p) (at1:Nat) (hat:at1 < p.2.2.2.2.2.2.2.1.length) (s:S6) (sg:SG p s) {l:List S5} (h:stp c (p.2.2.2.2.2.2.2.1.getD at1 aT) (at1:Int) s= .inr l):∀ x,x∈l→FG p x:=by
 unfold stp at h
 cases hr:rdC c (p.2.2.2.2.2.2.2.1.getD at1 aT) s.2.1 with
 | none=>rw [hr] at h;cases h
 | some r=>
  rw [hr] at h
  cases hc:chg (p.2.2.2.2.2.2.2.1.getD at1 aT) s.2.2 with
  | none=>rw [hc] at h;cases h
  | some g=>
   rw [hc] at h
   simp only [] at h
   revert h
   cases kept r.2 s.2.1 (fA (p.2.2.2.2.2.2.2.1.getD at1 aT) r.1) s.2.2<;>intro h<;>cases h
   obtain ⟨g1,g2⟩:=chg_good (pw.ins at1 hat) pw.regs hc sg.gs sg.keep
   exact fol_good pw at1 hat s sg _ g (by rw [wrC_len,(rdC_inv hr).1];exact sg.ts) g1 g2
theorem fol_len (n:S2) (at1:Int) (s:S6) (ts:List Int) (g:List S4):(fol n at1 s ts g).length≤2:=by
 unfold fol
 cases ((bne n.1 19 && bne n.1 29) && bne n.1 30)<;>cases beq n.1 19<;>cases (beq n.1 20 || (beq n.1 21 || (beq n.1 38 || beq n.1 39)))<;>cases beq n.1 41<;>cases beq n.1 31<;>simp
theorem stp_len {c:aN} {n:S2} {at1:Int} {s:S6} {l:List S5} (h:stp c n at1 s= .inr l):l.length≤2:=by
 unfold stp at h
 cases hr:rdC c n s.2.1 with
 | none=>rw [hr] at h;cases h
 | some r=>
  rw [hr] at h
  cases hc:chg n s.2.2 with
  | none=>rw [hc] at h;cases h
  | some g=>
   rw [hc] at h
   simp only [] at h
   revert h
   cases kept r.2 s.2.1 (fA n r.1) s.2.2<;>intro h<;>cases h
   exact fol_len _ _ _ _ _
end Go.Ev.L6
namespace Go.Ev.L6
open Go.Proofs
abbrev WS:=List S6×List Bool
def flS (l:List S5) (j:Nat) (t:WS):WS ⊕ Int:=
 bif !(t.1.getD (l.getD j F0).1.toNat fI).1 then .inl (t.1.set (l.getD j F0).1.toNat (true,(l.getD j F0).2.2.1,(l.getD j F0).2.2.2),t.2.set (l.getD j F0).1.toNat true)
 else bif sm (t.1.getD (l.getD j F0).1.toNat fI) (l.getD j F0).2 then .inl t else .inr (l.getD j F0).1
def flI (l:List S5) (j:Nat) (t:WS×Int):(WS×Int) ⊕ Int:=
 bif !(t.1.1.getD (l.getD j F0).1.toNat fI).1 then .inl ((t.1.1.set (l.getD j F0).1.toNat (true,(l.getD j F0).2.2.1,(l.getD j F0).2.2.2),t.1.2.set (l.getD j F0).1.toNat true),imin t.2 (l.getD j F0).1)
 else bif sm (t.1.1.getD (l.getD j F0).1.toNat fI) (l.getD j F0).2 then .inl t else .inr (l.getD j F0).1
def unr:List S6→Nat
 | []=>0
 | s ::r=>(bif s.1 then 0 else 1)+unr r
def cd:List Bool→Nat
 | []=>0
 | b ::r=>(bif b then 1 else 0)+cd r
theorem unr_set:∀ (l:List S6) (k:Nat) (s:S6),k < l.length→(l.getD k fI).1=false→s.1=true→unr (l.set k s)+1=unr l
 | [],k,s,h,_,_=>by cases h
 | b ::r,0,s,_,h,hs=>by
  have h:b.1=false:=h
  show (bif s.1 then 0 else 1)+unr r+1=(bif b.1 then 0 else 1)+unr r
  rw [h,hs]
  show 0+unr r+1=1+unr r
  omega
 | b ::r,k+1,s,h,h',hs=>by
  have:=unr_set r k s (Nat.lt_of_succ_lt_succ h) h' hs
  show (bif b.1 then 0 else 1)+unr (r.set k s)+1=(bif b.1 then 0 else 1)+unr r
  omega
theorem cd_true:∀ (l:List Bool) (k:Nat),cd (l.set k true)≤cd l+1
 | [],k=>Nat.zero_le _
 | b ::r,0=>by
  show (bif true then 1 else 0)+cd r≤(bif b then 1 else 0)+cd r+1
  simp only [cond_true]
  omega
 | b ::r,k+1=>by
  have:=cd_true r k
  show (bif b then 1 else 0)+cd (r.set k true)≤(bif b then 1 else 0)+cd r+1
  omega
theorem cd_false:∀ (l:List Bool) (k:Nat),l.getD k false=true→cd (l.set k false)+1=cd l
 | [],k,h=>by cases k<;>cases h
 | b ::r,0,h=>by
  have h:b=true:=h
  subst h
  show (bif false then 1 else 0)+cd r+1=(bif true then 1 else 0)+cd r
  simp only [cond_true,cond_false]
  omega
 | b ::r,k+1,h=>by
  have:=cd_false r k h
  show (bif b then 1 else 0)+cd (r.set k false)+1=(bif b then 1 else 0)+cd r
  omega
structure WI (p:S9) (t:WS):Prop where
 ls:t.1.length=p.2.2.2.2.2.2.2.1.length
 ld:t.2.length=p.2.2.2.2.2.2.2.1.length
 sg:∀ i,i < p.2.2.2.2.2.2.2.1.length→(t.1.getD i fI).1=true→SG p (t.1.getD i fI)
 due:∀ i,i < p.2.2.2.2.2.2.2.1.length→t.2.getD i false=true→(t.1.getD i fI).1=true
theorem eS {α:Type} {l:List α} {k j:Nat} {a d:α} (hk:k < l.length):(l.set k a).getD j d=if j=k then a else l.getD j d:=by
 rw [List.getD_eq_getElem?_getD,List.getElem?_set,List.getD_eq_getElem?_getD]
 by_cases h:j=k
 ·subst h
  rw [if_pos rfl,if_pos hk,if_pos rfl]
  rfl
 ·rw [if_neg (fun hh=>h hh.symm),if_neg h]
theorem flS_inv {c:aN} {p:S9} (_pw:PW c p) {l:List S5} {j:Nat} {t t':WS} (hj:FG p (l.getD j F0)) (w:WI p t) (h:flS l j t= .inl t'):WI p t'∧2*unr t'.1+cd t'.2≤2*unr t.1+cd t.2:=by
 obtain ⟨⟨a0,a1⟩,sg⟩:=hj
 unfold flS at h
 generalize l.getD j F0=x at *
 have hls:=w.ls
 have hld:=w.ld
 cases hb:(t.1.getD x.1.toNat fI).1 with
 | true=>
  rw [hb] at h
  simp only [Bool.not_true,cond_false] at h
  revert h
  cases sm (t.1.getD x.1.toNat fI) x.2<;>intro h<;>cases h
  exact ⟨w,Nat.le_refl _⟩
 | false=>
  rw [hb] at h
  cases h
  have hx:x.1.toNat < t.1.length:=by omega
  have hx2:x.1.toNat < t.2.length:=by omega
  refine ⟨⟨by rw [List.length_set];exact hls,by rw [List.length_set];exact hld,fun i hi=>?_,fun i hi=>?_⟩,?_⟩
  ·show ((t.1.set x.1.toNat _).getD i fI).1=true→SG p ((t.1.set x.1.toNat _).getD i fI)
   rw [eS hx]
   split
   ·exact fun _=>⟨rfl,sg.ts,sg.gs,sg.keep⟩
   ·exact w.sg i hi
  ·show (t.2.set x.1.toNat true).getD i false=true→((t.1.set x.1.toNat _).getD i fI).1=true
   rw [eS hx,eS hx2]
   split
   ·exact fun _=>rfl
   ·exact w.due i hi
  ·have h1:=unr_set t.1 x.1.toNat (true,x.2.2.1,x.2.2.2) hx hb rfl
   have h2:=cd_true t.2 x.1.toNat
   show 2*unr (t.1.set x.1.toNat (true,x.2.2.1,x.2.2.2))+cd (t.2.set x.1.toNat true)≤_
   omega
theorem fl_inv {c:aN} {p:S9} (pw:PW c p) {l:List S5} (hl:∀ x,x∈l→FG p x):∀ (k j:Nat) (t t':WS),j+k=l.length→WI p t→run (flS l) k j t= .inl t'→WI p t'∧2*unr t'.1+cd t'.2≤2*unr t.1+cd t.2
 | 0,j,t,t',_,w,h=>by
  cases h
  exact ⟨w,Nat.le_refl _⟩
 | k+1,j,t,t',hj,w,h=>by
  unfold run at h
  cases hq:flS l j t with
  | inr e=>rw [hq] at h;cases h
  | inl t1=>
   rw [hq] at h
   obtain ⟨w1,m1⟩:=flS_inv pw (hl _ (aW (by omega))) w hq
   obtain ⟨w2,m2⟩:=fl_inv pw hl k (j+1) t1 t' (by omega) w1 h
   exact ⟨w2,by omega⟩
def Low (t:WS) (x:Int):Prop:=0≤x∧∀ i:Nat,(i:Int) < x→t.2.getD i false=false
theorem flI_run {p:S9} {l:List S5} (hl:∀ x,x∈l→FG p x):∀ (k j:Nat) (t:WS) (x:Int),j+k=l.length→Low t x→t.2.length=p.2.2.2.2.2.2.2.1.length→match run (flS l) k j t with
  | .inl t'=>∃ x',run (flI l) k j (t,x)= .inl (t',x')∧Low t' x'∧x'≤x
  | .inr e=>run (flI l) k j (t,x)= .inr e
 | 0,j,t,x,_,hx,_=>⟨x,rfl,hx,Int.le_refl _⟩
 | k+1,j,t,x,hj,hx,hlen=>by
  obtain ⟨⟨a0,a1⟩,sg⟩:=hl _ (aW (d:=F0) (show j < l.length by omega))
  unfold run
  generalize hy:l.getD j F0=y at a0 a1 sg
  have hS:flS l j t=bif !(t.1.getD y.1.toNat fI).1 then .inl (t.1.set y.1.toNat (true,y.2.2.1,y.2.2.2),t.2.set y.1.toNat true) else bif sm (t.1.getD y.1.toNat fI) y.2 then .inl t else .inr y.1:=by
   rw [← hy]
   rfl
  have hI:flI l j (t,x)=bif !(t.1.getD y.1.toNat fI).1 then .inl ((t.1.set y.1.toNat (true,y.2.2.1,y.2.2.2),t.2.set y.1.toNat true),imin x y.1) else bif sm (t.1.getD y.1.toNat fI) y.2 then .inl (t,x) else .inr y.1:=by
   rw [← hy]
   rfl
  rw [hS,hI]
  cases (t.1.getD y.1.toNat fI).1 with
  | false=>
   simp only [Bool.not_false,cond_true]
   have hlow:Low (t.1.set y.1.toNat (true,y.2.2.1,y.2.2.2),t.2.set y.1.toNat true) (imin x y.1):=by
    unfold Low imin
    refine ⟨?_,fun i hi=>?_⟩
    ·have:=hx.1
     split<;>omega
    ·show (t.2.set y.1.toNat true).getD i false=false
     rw [eS (by omega)]
     have h1:(i:Int) < y.1∧(i:Int) < x:=by
      split at hi<;>omega
     rw [if_neg (by omega)]
     exact hx.2 i h1.2
   have:=flI_run hl k (j+1) (t.1.set y.1.toNat (true,y.2.2.1,y.2.2.2),t.2.set y.1.toNat true) (imin x y.1) (by omega) hlow (by rw [List.length_set];exact hlen)
   have hle:imin x y.1≤x:=by
    unfold imin
    split<;>omega
   revert this
   cases run (flS l) k (j+1) (t.1.set y.1.toNat (true,y.2.2.1,y.2.2.2),t.2.set y.1.toNat true) with
   | inl t'=>
    rintro ⟨x',h1,h2,h3⟩
    exact ⟨x',h1,h2,by omega⟩
   | inr e=>exact fun h=>h
  | true=>
   simp only [Bool.not_true,cond_false]
   cases sm (t.1.getD y.1.toNat fI) y.2 with
   | true=>exact flI_run hl k (j+1) t x (by omega) hx hlen
   | false=>rfl
theorem sg_len {c:aN} {p:S9} (pw:PW c p) {s:S6} (h:SG p s):s.2.1.length≤1048576∧s.2.2.length≤1048576:=by
 have h1:=h.ts
 have h2:=h.gs
 have h3:=pw.regs
 omega
theorem f63_148_loop {c:aN} {p:S9} (pw:PW c p) (o:Int) (z:aZ) (l:List S5) (hl:∀ x,x∈l→FG p x) (hl2:l.length≤2) (t:WS) (w:WI p t) :
  aA f63_148 (o,(c,()),(z,()),(p,()),t.1,t.2,l,(l.length:Int),(0:Int),())=some (match run (flS l) l.length 0 t with | .inl t=> .inl (o,(c,()),(z,()),(p,()),t.1,t.2,()) | .inr e=> .inr ([],((13,o,e),()),())):=by
 refine bW (body:=f63_148) (mk:=fun j (t:WS)=>(o,(c,()),(z,()),(p,()),t.1,t.2,l,(l.length:Int),(j:Int),())) (fin:=fun r:WS ⊕ Int=>match r with | .inl t=> .inl (o,(c,()),(z,()),(p,()),t.1,t.2,()) | .inr e=> .inr ([],((13,o,e),()),())) (step:=flS l) (I:=fun _ t=>WI p t) (n:=l.length) (fun j t hj w=>?_) (fun j t t' hj w h=>?_) (fun t _=>?_) l.length 0 t (by omega) w
 ·have hx:=hl _ (aW (d:=F0) hj)
  have hls:=w.ls
  have hld:=w.ld
  have hsg:=w.sg
  simp only [f63_148,Int.toNat_natCast]
  rw [aH hj,aB hj]
  simp only [cond_true,flS]
  generalize l.getD j F0=x at hx
  obtain ⟨⟨a0,a1⟩,sg⟩:=hx
  have hlen:=sg_len pw sg
  rw [aK a0 (show x.1 < (t.1.length:Int) by omega),aK a0 (show x.1 < (t.2.length:Int) by omega),f114_ok _ hlen.1,f120_ok _ hlen.2]
  simp only [cond_true]
  cases hb:(t.1.getD x.1.toNat fI).1 with
  | false=>
   simp only [Bool.not_false,cond_true,Option.bind_some]
   rw [aC hj (by omega)]
  | true=>
   have sg2:=hsg x.1.toNat (by omega) hb
   have hlen2:=sg_len pw sg2
   simp only [Bool.not_true,cond_false]
   rw [f121_ok _ _ (by have:=sg2.ts;have:=sg.ts;omega) hlen2.1 hlen2.2]
   simp only [Option.bind_some,f112]
   rw [aC hj (by omega)]
   cases sm (t.1.getD x.1.toNat fI) x.2<;>rfl
 ·exact (flS_inv pw (hl _ (aW hj)) w h).1
 ·simp only [f63_148]
  rw [aJ]
  rfl
theorem flI_WI {c:aN} {p:S9} (pw:PW c p) {l:List S5} {j:Nat} {t t':WS×Int} (hj:FG p (l.getD j F0)) (w:WI p t.1) (h:flI l j t= .inl t'):WI p t'.1:=by
 have:flS l j t.1= .inl t'.1:=by
  unfold flI at h
  unfold flS
  revert h
  cases (t.1.1.getD (l.getD j F0).1.toNat fI).1<;>cases sm (t.1.1.getD (l.getD j F0).1.toNat fI) (l.getD j F0).2<;>intro h<;>cases h<;>rfl
 exact (flS_inv pw hj w this).1
theorem f68_96_loop {c:aN} {p:S9} (pw:PW c p) (l:List S5) (hl:∀ x,x∈l→FG p x) (hl2:l.length≤2) (t:WS) (least:Int) (w:WI p t) :
  aA f68_96 ((c,()),(p,()),t.1,t.2,least,l,(l.length:Int),(0:Int),())=some (match run (flI l) l.length 0 (t,least) with | .inl t=> .inl ((c,()),(p,()),t.1.1,t.1.2,t.2,()) | .inr e=> .inr ([],13,e,())):=by
 refine bW (body:=f68_96) (mk:=fun j (t:WS×Int)=>((c,()),(p,()),t.1.1,t.1.2,t.2,l,(l.length:Int),(j:Int),())) (fin:=fun r:(WS×Int) ⊕ Int=>match r with | .inl t=> .inl ((c,()),(p,()),t.1.1,t.1.2,t.2,()) | .inr e=> .inr ([],13,e,())) (step:=flI l) (I:=fun _ t=>WI p t.1) (n:=l.length) (fun j t hj w=>?_) (fun j t t' hj w h=>?_) (fun t _=>?_) l.length 0 (t,least) (by omega) w
 ·have hx:=hl _ (aW (d:=F0) hj)
  have hls:=w.ls
  have hld:=w.ld
  have hsg:=w.sg
  simp only [f68_96,Int.toNat_natCast]
  rw [aH hj,aB hj]
  simp only [cond_true,flI]
  generalize l.getD j F0=x at hx
  obtain ⟨⟨a0,a1⟩,sg⟩:=hx
  have hlen:=sg_len pw sg
  rw [aK a0 (show x.1 < (t.1.1.length:Int) by omega),aK a0 (show x.1 < (t.1.2.length:Int) by omega),f132_ok x.2 hlen.1 hlen.2,sg.on]
  simp only [cond_true]
  cases hb:(t.1.1.getD x.1.toNat fI).1 with
  | false=>
   simp only [Bool.not_false,cond_true,Option.bind_some]
   rw [aC hj (by omega)]
  | true=>
   have sg2:=hsg x.1.toNat (by omega) hb
   have hlen2:=sg_len pw sg2
   simp only [Bool.not_true,cond_false]
   rw [f133_ok _ _ (by have:=sg2.ts;have:=sg.ts;omega) hlen2.1 hlen2.2]
   simp only [Option.bind_some]
   rw [aC hj (by omega)]
   cases sm (t.1.1.getD x.1.toNat fI) x.2<;>rfl
 ·exact flI_WI pw (hl _ (aW hj)) w h
 ·simp only [f68_96]
  rw [aJ]
  rfl
end Go.Ev.L6
namespace Go.Ev.L6
open Go.Proofs
def dT (due:List Bool) (i:Nat):Option Nat:=bif due.getD i false then some i else none
theorem f63_56_loop (o:Int) (c:aN) (z:aZ) (p:S9) (states:List S6) (due:List Bool) (hl:due.length≤1048576) :
  aA f63_56 (o,(c,()),(z,()),(p,()),states,due,(0:Int),())=some (o,(c,()),(z,()),(p,()),states,due,(match bJ (dT due) due.length 0 with | none=>(due.length:Int) | some i=>(i:Int)),()):=by
 refine aP (body:=f63_56) (fun i=>(o,(c,()),(z,()),(p,()),states,due,(i:Int),())) (fun r:Option Nat=>(o,(c,()),(z,()),(p,()),states,due,(match r with | none=>(due.length:Int) | some i=>(i:Int)),())) (dT due) due.length (fun i hi=>?_) ?_
 ·simp only [f63_56,Int.toNat_natCast]
  rw [aH hi,aB hi,aC hi hl]
  simp only [cond_true,jB,Option.bind_some,dT]
  cases due.getD i false<;>rfl
 ·simp only [f63_56]
  rw [aJ,iV]
  rfl
theorem f68_skip {c:aN} {p:S9} (states:List S6) (due:List Bool) (hl:due.length≤1048576):∀ (k i:Nat),i+k≤due.length→(∀ j,i≤j→j < i+k→due.getD j false=false)→
  aA f68_60 ((c,()),(p,()),states,due,(i:Int),())=aA f68_60 ((c,()),(p,()),states,due,((i+k:Nat):Int),())
 | 0,i,_,_=>rfl
 | k+1,i,h,hf=>by
  rw [aM]
  simp only [f68_60,Int.toNat_natCast]
  rw [aH (show i < due.length by omega),aB (show i < due.length by omega),hf i (by omega) (by omega),aC (show i < due.length by omega) hl]
  simp only [cond_true,Bool.not_false]
  rw [f68_skip states due hl k (i+1) (by omega) (fun j h1 h2=>hf j (by omega) (by omega)),show i+1+k=i+(k+1) by omega]
noncomputable def tail15 (y:((S9×Unit)×(List S6)×Unit) ⊕ ((List S6)×Int×Int×Unit)):Option (((List S6)×Int×Int×Unit)×Unit):=match y with
 | .inl z67=>(
  (f134 (z67.1.1,z67.2.1,())).bind fun r69=>
  bif (ble (0:Int) r69.1.1) then some ((([]:List S6),(14:Int),r69.1.1,()),())
  else some ((z67.2.1,(0:Int),(0:Int),()),()))
 | .inr z71=>(
  some ((z71.1,z71.2.1,z71.2.2.1,()),()))
def Ends (o:Int) (a:Option ((List S6)×(aZ×Unit)×Unit)) (b:Option (((List S6)×Int×Int×Unit)×Unit)):Prop:=
 ∃ st st' k at1,((k=0∧a=some (st,((0,0,0),()),()))∨(k≠0∧a=some (st,((k,o,at1),()),())))∧b=some ((st',k,at1,()),())
theorem kept_code {c:aN} {n:S2} {at1:Int} {s:S6} {e:Int} (h:stp c n at1 s= .inl e):e≠0:=by
 unfold stp at h
 cases hr:rdC c n s.2.1 with
 | none=>
  rw [hr] at h
  cases h
  decide
 | some r=>
  rw [hr] at h
  cases hc:chg n s.2.2 with
  | none=>
   rw [hc] at h
   cases h
   decide
  | some g=>
   rw [hc] at h
   simp only [] at h
   revert h
   cases kept r.2 s.2.1 (fA n r.1) s.2.2<;>intro h<;>cases h
   decide
theorem spec_step {c:aN} {p:S9} (pw:PW c p) (w:CW c) (o:Int) (z:aZ) (t:WS) (wi:WI p t) (at1:Nat) (hat:at1 < p.2.2.2.2.2.2.2.1.length) (hdue:bJ (dT t.2) t.2.length 0=some at1) (hon:(t.1.getD at1 fI).1=true) :
  f63_52 (o,(c,()),(z,()),(p,()),t.1,t.2,())=(match stp c (p.2.2.2.2.2.2.2.1.getD at1 aT) (at1:Int) (t.1.getD at1 fI) with
   | .inl e=>some (.inr ([],((e,o,(at1:Int)),()),()))
   | .inr l=>(aA f63_148 (o,(c,()),(z,()),(p,()),t.1,t.2.set at1 false,l,(l.length:Int),(0:Int),())).bind fun y110=>match y110 with
    | .inl z104=>some (.inl (z104.1,(z104.2.1.1,()),(z104.2.2.1.1,()),(z104.2.2.2.1.1,()),z104.2.2.2.2.1,z104.2.2.2.2.2.1,()))
    | .inr z108=>some (.inr (z108.1,(z108.2.1.1,()),()))):=by
 have hls:=wi.ls
 have hld:=wi.ld
 have hplen:=pw.len
 have sg:=wi.sg at1 hat hon
 have hlen:=sg_len pw sg
 have hn:=pw.ins at1 hat
 have hR:=pw.regs
 simp only [f63_52]
 rw [f63_56_loop o c z p t.1 t.2 (by omega),hdue]
 simp only [Option.bind_some,Int.toNat_natCast]
 rw [kU (show (at1:Int)≠(t.2.length:Int) by omega),aB (show at1 < t.2.length by omega),aB hat,aB (show at1 < t.1.length by omega)]
 simp only [cond_true,cond_false]
 generalize hs:t.1.getD at1 fI=s at sg hlen
 rw [f114_ok _ hlen.1]
 simp only [Option.bind_some]
 obtain ⟨ts',h23⟩:=f115_ok c o p (p.2.2.2.2.2.2.2.1.getD at1 aT) s.2.1 hn hR sg.ts w.len w.ups
 rw [h23]
 unfold stp
 cases hr:rdC c (p.2.2.2.2.2.2.2.1.getD at1 aT) s.2.1 with
 | none=>rfl
 | some r=>
  have hinv:=rdC_inv hr
  simp only [Option.bind_some,Bool.not_true,cond_false]
  obtain ⟨g',h24⟩:=f116_ok (p.2.2.2.2.2.2.2.1.getD at1 aT) s.2.2 hlen.2
  rw [h24]
  cases hg:chg (p.2.2.2.2.2.2.2.1.getD at1 aT) s.2.2 with
  | none=>rfl
  | some g=>
   simp only [Option.bind_some,Bool.not_true,cond_false]
   have hw:(fA (p.2.2.2.2.2.2.2.1.getD at1 aT) r.1).length=s.2.1.length:=by rw [wrC_len,hinv.1]
   rw [f117_ok c p _ r.1 hn hR (by rw [hinv.1];exact sg.ts)]
   simp only [Option.bind_some]
   rw [f118_ok (p.2.2.2.2.2.2.2.1.getD at1 aT) s.2.2 r.2 s.2.1 (fA (p.2.2.2.2.2.2.2.1.getD at1 aT) r.1) hlen.2 (by have:=hinv.2.1;omega) hlen.1 (fun g hg=>by rw [sg.ts];exact sg.keep g hg) hw (fun h32=>by
    obtain ⟨a,b⟩:=hinv.2.2.1 h32
    exact ⟨a,by rw [wrC32 h32,b]⟩)]
   simp only [Option.bind_some,f112]
   cases hk:kept r.2 s.2.1 (fA (p.2.2.2.2.2.2.2.1.getD at1 aT) r.1) s.2.2 with
   | false=>rfl
   | true=>
    simp only [Bool.not_true,cond_false,cond_true]
    rw [f119_ok c p at1 s (fA (p.2.2.2.2.2.2.2.1.getD at1 aT) r.1) g hat hplen hn hR sg.ts hw (fun h41=>by rw [wrC41 h41,hinv.2.2.2 h41])]
    rfl
theorem impl_step {c:aN} {p:S9} (pw:PW c p) (w:CW c) (t:WS) (wi:WI p t) (at1:Nat) (hat:at1 < p.2.2.2.2.2.2.2.1.length) (hdue:t.2.getD at1 false=true) (hon:(t.1.getD at1 fI).1=true) :
  f68_60 ((c,()),(p,()),t.1,t.2,(at1:Int),())=(match stp c (p.2.2.2.2.2.2.2.1.getD at1 aT) (at1:Int) (t.1.getD at1 fI) with
   | .inl e=>some (.inr (.inr ([],e,(at1:Int),())))
   | .inr l=>(aA f68_96 ((c,()),(p,()),t.1,t.2.set at1 false,((at1+1:Nat):Int),l,(l.length:Int),(0:Int),())).bind fun y66=>match y66 with
    | .inl z58=>some (.inl ((z58.1.1,()),(z58.2.1.1,()),z58.2.2.1,z58.2.2.2.1,z58.2.2.2.2.1,()))
    | .inr z62=>some (.inr (.inr (z62.1,z62.2.1,z62.2.2.1,())))):=by
 have hls:=wi.ls
 have hld:=wi.ld
 have hplen:=pw.len
 have sg:=wi.sg at1 hat hon
 simp only [f68_60,Int.toNat_natCast]
 rw [aH (show at1 < t.2.length by omega),aB (show at1 < t.2.length by omega),aB (show at1 < t.1.length by omega),hdue,f131_ok c p at1 _ _ hat rfl hplen (pw.ins at1 hat) pw.regs sg w.len w.ups,aC hat hplen]
 simp only [cond_true,Bool.not_true,cond_false]
 cases hs:stp c (p.2.2.2.2.2.2.2.1.getD at1 aT) (at1:Int) (t.1.getD at1 fI) with
 | inl e=>
  simp only [Option.bind_some]
  rw [jW.2 (kept_code hs)]
  rfl
 | inr l=>rfl
theorem dT_some {due:List Bool} {n i:Nat} (h:bJ (dT due) n 0=some i):i < n∧due.getD i false=true∧∀ j,j < i→due.getD j false=false:=by
 have key:∀ k a,a+k=n→bJ (dT due) k a=some i→a≤i∧i < n∧due.getD i false=true∧∀ j,a≤j→j < i→due.getD j false=false:=by
  intro k
  induction k with
  | zero=>
   intro a _ h
   cases h
  | succ k ih=>
   intro a ha h
   unfold bJ at h
   cases hb:due.getD a false with
   | true=>
    have:dT due a=some a:=by
     unfold dT
     rw [hb]
     rfl
    rw [this] at h
    cases h
    exact ⟨Nat.le_refl _,by omega,hb,fun j h1 h2=>by omega⟩
   | false=>
    have:dT due a=none:=by
     unfold dT
     rw [hb]
     rfl
    rw [this] at h
    obtain ⟨h1,h2,h3,h4⟩:=ih (a+1) (by omega) h
    refine ⟨by omega,h2,h3,fun j h5 h6=>?_⟩
    by_cases hj:j=a
    ·rw [hj]
     exact hb
    ·exact h4 j (by omega) h6
 obtain ⟨-,h2,h3,h4⟩:=key n 0 (by omega) h
 exact ⟨h2,h3,fun j hj=>h4 j (by omega) hj⟩
theorem walk {c:aN} {p:S9} (pw:PW c p) (w:CW c) (o:Int):∀ (m:Nat) (t:WS) (x:Nat),2*unr t.1+cd t.2≤m→WI p t→Low t (x:Int)→x≤p.2.2.2.2.2.2.2.1.length→
  Ends o (aA f63_52 (o,(c,()),((0,0,0),()),(p,()),t.1,t.2,())) ((aA f68_60 ((c,()),(p,()),t.1,t.2,(x:Int),())).bind tail15)
 | m,t,x,hm,wi,hx,hxl=>by
  have hls:=wi.ls
  have hld:=wi.ld
  have hplen:=pw.len
  cases hd:bJ (dT t.2) t.2.length 0 with
  | none=>
   have hnone:∀ j,j < t.2.length→t.2.getD j false=false:=fun j hj=>by
    have:=jT hd j hj
    unfold dT at this
    revert this
    cases t.2.getD j false<;>intro this
    ·rfl
    ·cases this
   rw [f68_skip t.1 t.2 (by omega) (t.2.length - x) x (by omega) (fun j h1 h2=>hnone j (by omega)),show x+(t.2.length - x)=t.2.length by omega]
   have e1:aA f68_60 ((c,()),(p,()),t.1,t.2,(t.2.length:Int),())=some (.inl ((p,()),t.1,())):=by
    rw [aM]
    simp only [f68_60]
    rw [aJ]
    rfl
   rw [e1,aM]
   simp only [f63_52]
   rw [f63_56_loop o c _ p t.1 t.2 (by omega),hd]
   simp only [Option.bind_some]
   rw [gA]
   simp only [cond_true]
   rw [f63_72_loop pw o _ t.1 hls]
   simp only [tail15]
   rw [f134_ok pw t.1 hls]
   cases hr:bJ (rgT p t.1) p.2.2.2.2.2.2.2.1.length 0 with
   | none=>exact ⟨t.1,t.1,0,0, .inl ⟨rfl,rfl⟩,rfl⟩
   | some i=>
    refine ⟨[],[],14,(i:Int), .inr ⟨by decide,rfl⟩,?_⟩
    simp only [Option.bind_some]
    rw [ble_true (show (0:Int)≤(i:Int) by omega)]
    rfl
  | some at1=>
   obtain ⟨d1,d2,d3⟩:=dT_some hd
   have hat:at1 < p.2.2.2.2.2.2.2.1.length:=by omega
   have hon:=wi.due at1 hat d2
   have sg:=wi.sg at1 hat hon
   have hxa:x≤at1:=by
    rcases Nat.lt_or_ge at1 x with h | h
    ·have:=hx.2 at1 (by omega)
     rw [this] at d2
     cases d2
    ·exact h
   rw [f68_skip t.1 t.2 (by omega) (at1 - x) x (by omega) (fun j h1 h2=>d3 j (by omega)),show x+(at1 - x)=at1 by omega]
   rw [aM f63_52,aM f68_60,spec_step pw w o _ t wi at1 hat hd hon,impl_step pw w t wi at1 hat d2 hon]
   cases hs:stp c (p.2.2.2.2.2.2.2.1.getD at1 aT) (at1:Int) (t.1.getD at1 fI) with
   | inl e=>exact ⟨[],[],e,(at1:Int), .inr ⟨kept_code hs,rfl⟩,rfl⟩
   | inr l=>
    have hl:=stp_good pw at1 hat _ sg hs
    have hl2:=stp_len hs
    have wi':WI p (t.1,t.2.set at1 false):=by
     refine ⟨hls,by rw [List.length_set];exact hld,wi.sg,fun i hi=>?_⟩
     show (t.2.set at1 false).getD i false=true→_
     rw [eS d1]
     split
     ·exact fun h=>by cases h
     ·exact wi.due i hi
    have hcd:=cd_false t.2 at1 d2
    have hlow:Low (t.1,t.2.set at1 false) ((at1+1:Nat):Int):=by
     refine ⟨by omega,fun i hi=>?_⟩
     show (t.2.set at1 false).getD i false=false
     rw [eS d1]
     split
     ·rfl
     ·exact d3 i (by omega)
    have h12:aA f63_148 (o,(c,()),((0,0,0),()),(p,()),t.1,t.2.set at1 false,l,(l.length:Int),(0:Int),())=_:=f63_148_loop pw o (0,0,0) l hl hl2 (t.1,t.2.set at1 false) wi'
    have h15:aA f68_96 ((c,()),(p,()),t.1,t.2.set at1 false,((at1+1:Nat):Int),l,(l.length:Int),(0:Int),())=_:=f68_96_loop pw l hl hl2 (t.1,t.2.set at1 false) ((at1+1:Nat):Int) wi'
    have hrun:=flI_run hl l.length 0 (t.1,t.2.set at1 false) ((at1+1:Nat):Int) (by omega) hlow (by rw [List.length_set];exact hld)
    simp only []
    rw [h12,h15]
    cases hf:run (flS l) l.length 0 (t.1,t.2.set at1 false) with
    | inr e=>
     rw [hf] at hrun
     rw [hrun]
     exact ⟨[],[],13,e, .inr ⟨by decide,rfl⟩,rfl⟩
    | inl t'=>
     rw [hf] at hrun
     obtain ⟨x',h1,h2,h3⟩:=hrun
     obtain ⟨wi2,m2⟩:=fl_inv pw hl l.length 0 _ t' (by omega) wi' hf
     have m2':2*unr t'.1+cd t'.2≤2*unr t.1+cd (t.2.set at1 false):=m2
     rw [h1]
     have h20:=h2.1
     obtain ⟨y,rfl⟩:∃ y:Nat,x'=(y:Int):=⟨x'.toNat,by omega⟩
     match m,hm with
     | 0,hm=>omega
     | m+1,hm=>exact walk pw w o m t' y (by omega) wi2 h2 (by omega)
def fst1 (k i:Nat) (ts:List Int):List Int:=match run (ε:=Unit) (fun i t=> .inl (t.set i 1)) k i ts with
 | .inl t=>t
 | .inr _=>[]
theorem fst1_run:∀ (k i:Nat) (ts:List Int),run (ε:=Unit) (fun i (t:List Int)=> .inl (t.set i 1)) k i ts= .inl (fst1 k i ts)
 | 0,i,ts=>rfl
 | k+1,i,ts=>by
  have h:=fst1_run k (i+1) (ts.set i 1)
  exact h
theorem fst1_len:∀ (k i:Nat) (ts:List Int),(fst1 k i ts).length=ts.length
 | 0,i,ts=>rfl
 | k+1,i,ts=>by
  have h:=fst1_len k (i+1) (ts.set i 1)
  rw [List.length_set] at h
  rw [← h]
  rfl
theorem f63_24_loop (o:Int) (c:aN) (z:aZ) (p:S9) (states:List S6) (due:List Bool) (ts:List Int) (hp:0≤p.2.2.1∧p.2.2.1≤(ts.length:Int)) (hl:ts.length≤1048576) :
  aA f63_24 (o,(c,()),(z,()),(p,()),states,due,ts,(0:Int),())=some (o,(c,()),(z,()),(p,()),states,due,fst1 p.2.2.1.toNat 0 ts,()):=by
 refine (bW (body:=f63_24) (mk:=fun i (t:List Int)=>(o,(c,()),(z,()),(p,()),states,due,t,(i:Int),())) (ε:=Unit) (fin:=fun r=>(o,(c,()),(z,()),(p,()),states,due,(match r with | .inl t=>t | .inr _=>[]),())) (step:=fun i t=> .inl (t.set i 1)) (I:=fun _ t=>t.length=ts.length) (n:=p.2.2.1.toNat) (fun i t hi ht=>?_) (fun i t t' hi ht h=>?_) (fun t ht=>?_) p.2.2.1.toNat 0 ts (by omega) rfl).trans ?_
 ·simp only [f63_24,Int.toNat_natCast]
  rw [blt_toNat hi,aB (show i < t.length by omega),aC hi (by omega)]
  rfl
 ·cases h
  rw [List.length_set]
  exact ht
 ·simp only [f63_24]
  rw [gX]
  rfl
 ·rw [fst1_run]
theorem f68_20_loop (c:aN) (p:S9) (states:List S6) (ts:List Int) (hp:0≤p.2.2.1∧p.2.2.1≤(ts.length:Int)) (hl:ts.length≤1048576) :
  aA f68_20 ((c,()),(p,()),states,(true,ts,[],()),p.2.2.1,(0:Int),())=some ((c,()),(p,()),states,(true,fst1 p.2.2.1.toNat 0 ts,[],()),()):=by
 refine (bW (body:=f68_20) (mk:=fun i (t:List Int)=>((c,()),(p,()),states,(true,t,[],()),p.2.2.1,(i:Int),())) (ε:=Unit) (fin:=fun r=>((c,()),(p,()),states,(true,(match r with | .inl t=>t | .inr _=>[]),[],()),())) (step:=fun i t=> .inl (t.set i 1)) (I:=fun _ t=>t.length=ts.length) (n:=p.2.2.1.toNat) (fun i t hi ht=>?_) (fun i t t' hi ht h=>?_) (fun t ht=>?_) p.2.2.1.toNat 0 ts (by omega) rfl).trans ?_
 ·simp only [f68_20,Int.toNat_natCast]
  rw [blt_toNat hi,aB (show i < t.length by omega),aC hi (by omega)]
  rfl
 ·cases h
  rw [List.length_set]
  exact ht
 ·simp only [f68_20]
  rw [gX]
  rfl
 ·rw [fst1_run]
theorem wi_start {p:S9} (hpos:0 < p.2.2.2.2.2.2.2.1.length) {ts:List Int} (hts:(ts.length:Int)=p.2.2.2.2.1):WI p ((List.replicate p.2.2.2.2.2.2.2.1.length fI).set 0 (true,ts,[]),(List.replicate p.2.2.2.2.2.2.2.1.length false).set 0 true):=by
 have hr:∀ i,(List.replicate p.2.2.2.2.2.2.2.1.length fI).getD i fI=fI:=fun i=>by
  rw [List.getD_eq_getElem?_getD,List.getElem?_replicate]
  split<;>rfl
 refine ⟨by rw [List.length_set,List.length_replicate],by rw [List.length_set,List.length_replicate],fun i hi=>?_,fun i hi=>?_⟩
 ·show (((List.replicate _ fI).set 0 (true,ts,[])).getD i fI).1=true→SG p (((List.replicate _ fI).set 0 (true,ts,[])).getD i fI)
  rw [eS (by rw [List.length_replicate];exact hpos)]
  split
  ·exact fun _=>⟨rfl,hts,Nat.zero_le _,fun g hg=>by cases hg⟩
  ·rw [hr]
   exact fun h=>by cases h
 ·show ((List.replicate _ false).set 0 true).getD i false=true→(((List.replicate _ fI).set 0 (true,ts,[])).getD i fI).1=true
  rw [eS (by rw [List.length_replicate];exact hpos),eS (by rw [List.length_replicate];exact hpos)]
  split
  ·exact fun _=>rfl
  ·rw [rep_getD]
   exact fun h=>by cases h
theorem both_walks {c:aN} (w:CW c) (h:shp c=none) (pi:Nat) (hpi:pi < c.length) :
  ∃ st st' k at1,((k=0∧f63 (c,(pi:Int),())=some ((st,(0,0,0),()),()))∨(k≠0∧f63 (c,(pi:Int),())=some ((st,(k,(pi:Int),at1),()),())))∧f68 (c,(pi:Int),())=some ((st',k,at1,()),()):=by
 have pw:=pw_of w h pi hpi
 have hplen:=pw.len
 have hpos:=pw.pos
 have hR:=pw.regs
 have hpar:=pw.params
 simp only [f63,f68,Int.toNat_natCast]
 rw [aB hpi]
 generalize hp:c.getD pi P0=p at pw hplen hpos hR hpar
 have hple:p.2.2.1≤p.2.2.2.2.1:=by
  have:=hpar.2
  revert this
  cases p.2.2.2.1<;>intro this
  ·exact this
  ·simp only [cond_true] at this
   omega
 rw [cC (show (0:Int)≤(p.2.2.2.2.2.2.2.1.length:Int) by omega) (show (p.2.2.2.2.2.2.2.1.length:Int)≤((5026338869833:Nat):Int) by omega),cC (show (0:Int)≤(p.2.2.2.2.2.2.2.1.length:Int) by omega) (show (p.2.2.2.2.2.2.2.1.length:Int)≤((281474976710656:Nat):Int) by omega),cC hR.1 (show p.2.2.2.2.1≤((35184372088832:Nat):Int) by omega)]
 simp only [cond_true]
 have hrl:((List.replicate p.2.2.2.2.1.toNat (0:Int)).length:Int)=p.2.2.2.2.1:=by
  rw [List.length_replicate]
  omega
 rw [f63_24_loop _ _ _ _ _ _ _ ⟨hpar.1,by rw [hrl];exact hple⟩ (by rw [List.length_replicate];omega),f68_20_loop _ _ _ _ ⟨hpar.1,by rw [hrl];exact hple⟩ (by rw [List.length_replicate];omega)]
 simp only [Option.bind_some]
 have hfl:((fst1 p.2.2.1.toNat 0 (List.replicate p.2.2.2.2.1.toNat (0:Int))).length:Int)=p.2.2.2.2.1:=by
  rw [fst1_len]
  exact hrl
 generalize fst1 p.2.2.1.toNat 0 (List.replicate p.2.2.2.2.1.toNat (0:Int))=ts at hfl
 have key:∀ ts:List Int,(ts.length:Int)=p.2.2.2.2.1→Ends (pi:Int) (aA f63_52 ((pi:Int),(c,()),((0,0,0),()),(p,()),(List.replicate p.2.2.2.2.2.2.2.1.length fI).set 0 (true,ts,[]),(List.replicate p.2.2.2.2.2.2.2.1.length false).set 0 true,())) ((aA f68_60 ((c,()),(p,()),(List.replicate p.2.2.2.2.2.2.2.1.length fI).set 0 (true,ts,[]),(List.replicate p.2.2.2.2.2.2.2.1.length false).set 0 true,(0:Int),())).bind tail15):=by
  intro ts hts
  exact walk pw w (pi:Int) _ ((List.replicate p.2.2.2.2.2.2.2.1.length fI).set 0 (true,ts,[]),(List.replicate p.2.2.2.2.2.2.2.1.length false).set 0 true) 0 (Nat.le_refl _) (wi_start hpos hts) ⟨Int.le_refl _,fun i hi=>by omega⟩ (Nat.zero_le _)
 have in0a:aE 0 ((List.replicate p.2.2.2.2.2.2.2.1.length fI).length:Int)=true:=by
  rw [List.length_replicate]
  exact aK (by omega) (by omega)
 have in0b:aE 0 ((List.replicate p.2.2.2.2.2.2.2.1.length false).length:Int)=true:=by
  rw [List.length_replicate]
  exact aK (by omega) (by omega)
 have inE1:inE (p.2.2.2.2.2.2.2.1.length:Int) ((281474976710656:Nat):Int)=true:=cC (by omega) (by omega)
 simp only [in0a,in0b,inE1]
 simp only [cond_true]
 cases hrest:p.2.2.2.1 with
 | true=>
  have hpr:=hpar.2
  rw [hrest] at hpr
  simp only [cond_true] at hpr
  rw [aK hpar.1 (show p.2.2.1 < (ts.length:Int) by omega)]
  simp only [cond_true]
  obtain ⟨st,st',k,at1,h1,h2⟩:=key (ts.set p.2.2.1.toNat 3) (by rw [List.length_set];exact hfl)
  refine ⟨st,st',k,at1,?_,h2⟩
  rcases h1 with ⟨hk,h1⟩ | ⟨hk,h1⟩
  ·refine .inl ⟨hk,?_⟩
   exact (congrArg (fun q=>Option.bind q fun z111:(List S6)×(aZ×Unit)×Unit=>some ((z111.1,z111.2.1.1,()),())) h1)
  ·refine .inr ⟨hk,?_⟩
   exact (congrArg (fun q=>Option.bind q fun z111:(List S6)×(aZ×Unit)×Unit=>some ((z111.1,z111.2.1.1,()),())) h1)
 | false=>
  simp only [cond_false]
  obtain ⟨st,st',k,at1,h1,h2⟩:=key ts hfl
  refine ⟨st,st',k,at1,?_,h2⟩
  rcases h1 with ⟨hk,h1⟩ | ⟨hk,h1⟩
  ·refine .inl ⟨hk,?_⟩
   exact (congrArg (fun q=>Option.bind q fun z111:(List S6)×(aZ×Unit)×Unit=>some ((z111.1,z111.2.1.1,()),())) h1)
  ·refine .inr ⟨hk,?_⟩
   exact (congrArg (fun q=>Option.bind q fun z111:(List S6)×(aZ×Unit)×Unit=>some ((z111.1,z111.2.1.1,()),())) h1)
noncomputable def wkC (c:aN) (pi:Nat):Option aZ:=match f68 (c,(pi:Int),()) with
 | some r=>bif bne r.1.2.1 0 then some (r.1.2.1,(pi:Int),r.1.2.2.1) else none
 | none=>none
theorem f24_20_loop {c:aN} (w:CW c) (h:shp c=none):aA f24_20 ((c,()),((0,0,0),()),(c.length:Int),(0:Int),())=some (match bJ (wkC c) c.length 0 with | none=> .inl (((0,0,0),()),()) | some e=> .inr ((e,()),())):=by
 refine aP (body:=f24_20) (fun i=>((c,()),((0,0,0),()),(c.length:Int),(i:Int),())) (fun o:Option aZ=>match o with | none=> .inl (((0,0,0),()),()) | some e=> .inr ((e,()),())) (wkC c) c.length (fun i hi=>?_) ?_
 ·obtain ⟨st,st',k,at1,h1,h2⟩:=both_walks w h i hi
  simp only [f24_20]
  unfold wkC
  rw [aH hi,h2,aC hi w.len]
  simp only [cond_true]
  rcases h1 with ⟨rfl,h1⟩ | ⟨hk,h1⟩
  ·rw [h1]
   rfl
  ·rw [h1]
   simp only [Option.bind_some]
   rw [jW.2 hk]
   rfl
 ·simp only [f24_20]
  rw [aJ]
  rfl
theorem f27_20_loop {c:aN} (w:CW c) (h:shp c=none):aA f27_20 ((c,()),((0,0,0),()),(c.length:Int),(0:Int),())=some (match bJ (wkC c) c.length 0 with | none=> .inl (((0,0,0),()),()) | some e=> .inr ((e,()),())):=by
 refine aP (body:=f27_20) (fun i=>((c,()),((0,0,0),()),(c.length:Int),(i:Int),())) (fun o:Option aZ=>match o with | none=> .inl (((0,0,0),()),()) | some e=> .inr ((e,()),())) (wkC c) c.length (fun i hi=>?_) ?_
 ·obtain ⟨st,st',k,at1,h1,h2⟩:=both_walks w h i hi
  simp only [f27_20]
  unfold wkC
  rw [aH hi,h2,aC hi w.len]
  simp only [cond_true,Option.bind_some]
  cases bne k 0<;>rfl
 ·simp only [f27_20]
  rw [aJ]
  rfl
noncomputable def chk (c:aN):aZ:=match shp c with
 | some e=>e
 | none=>(bJ (wkC c) c.length 0).getD (0,0,0)
theorem f24_ok (c:aN) (w:CW c):f24 (c,())=some ((chk c,()),()):=by
 simp only [f24]
 rw [f62_ok c w]
 unfold chk
 cases h:shp c with
 | some e=>
  show (bif bne e.1 0 then _ else _)=_
  rw [shp_code h]
  rfl
 | none=>
  show ((aA f24_20 ((c,()),((0,0,0),()),(c.length:Int),(0:Int),())).bind _)=_
  rw [f24_20_loop w h]
  cases bJ (wkC c) c.length 0<;>rfl
theorem f27_ok (c:aN) (w:CW c):f27 (c,())=some ((chk c,()),()):=by
 simp only [f27]
 rw [f67_ok c w]
 unfold chk
 cases h:shp c with
 | some e=>
  have he:=shp_code h
  rw [cX,Bool.not_eq_true'] at he
  show (bif !(beq e.1 0 && (beq e.2.1 0 && (beq e.2.2 0 && true))) then _ else _)=_
  rw [he]
  rfl
 | none=>
  show ((aA f27_20 ((c,()),((0,0,0),()),(c.length:Int),(0:Int),())).bind _)=_
  rw [f27_20_loop w h]
  cases bJ (wkC c) c.length 0<;>rfl
end Go.Ev.L6
