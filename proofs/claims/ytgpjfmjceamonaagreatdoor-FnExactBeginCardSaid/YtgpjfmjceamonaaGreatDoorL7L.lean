import Derived.Test.YtgpjfmjceamonaaGreatDoorEvO
import Derived.Test.YtgpjfmjceamonaaGreatDoorL7P2
import Derived.Test.YtgpjfmjceamonaaGreatDoorRows
import Derived.MakeChecks
import Derived.ProofKit
import Derived.LaidMore
import Derived.OpenShut
import Derived.Stop.Joined
import Derived.Test.YtgpjfmjceamonaaGreatDoorCards
import Derived.Test.YtgpjfmjceamonaaGreatDoorTie
namespace Go.Ev.L7
open Go.Ev.L6 (bB envD)
open Go.Proofs Go.Proofs.YtgpjfmjceamonaaGreatDoor Go.ChangeShapes Go.WideShapes Go.ChangeAt Go.RowKit
abbrev laid1:List (String×DataW Unit):=[("loop.example/loom/impl.roles",Rows.laid_loop_example_loom_impl_roles)]
theorem gRoles:Tryz.prog.globalNamed "loop.example/loom/impl.roles"=some 1:=by kernel_rfl
theorem tRoles:(Tryz.prog.globals[1]?).map (·.type)=some 292:=by kernel_rfl
theorem laid_is:(Rows.laid_loop_example_loom_impl_roles:DataW Unit)= .map (laidOf bB):=by rfl
theorem globOk {W:World} (h:laidMetH Tryz.prog laid1 W):GlobOk envD (· < W.heap.size) W:=by
 rw [MakeChecks.laidMetH_plain _ _ _ (by kernel_rfl)] at h
 obtain ⟨ps,⟨g0,t0,cs0,f0,p0,q0,hg0,ht0,hv0,hd0,_,_⟩,_,_⟩:=h
 obtain rfl:=Option.some.inj (gRoles.symm.trans hg0)
 obtain rfl:=Option.some.inj (tRoles.symm.trans ht0)
 rw [laid_is] at hd0
 obtain ⟨bm,ents,ck,hcs,hb,ht⟩:=tbl_open (K:=3) (V:=290) (E:=289) (by kernel_rfl) (by kernel_rfl) (by kernel_rfl) (by kernel_rfl) (by kernel_rfl) (by kernel_rfl) (by kernel_rfl) hd0
 have hcell:W.cell? ⟨1,0,none⟩=some (.map (some bm)):=by
  have:=World.var?_cell hg0 hv0 0
  rw [Array.eq_one_of_toList hcs] at this
  simpa using this
 intro g tbl hg
 have hg':g=1∧tbl=bB:=by
  have hq:bL [(1,bB)] g=some tbl:=hg
  unfold bL at hq
  cases hb:Nat.beq 1 g with
  | true=>rw [hb] at hq;exact ⟨(Nat.eq_of_beq_eq_true hb).symm,(Option.some.inj hq).symm⟩
  | false=>rw [hb] at hq;cases hq
 obtain ⟨rfl,rfl⟩:=hg'
 exact ⟨block_lt' hcell,bm,ents,ck,hcell,(Array.getElem?_eq_some_iff.1 hb).1,hb,ht⟩
theorem own:ownKnob Tryz.prog.godebug=none:=by kernel_rfl
theorem laidOut:laidOutB Tryz.prog=true:=by kernel_rfl
theorem door_met (os:Os) (args:Array Value):laidMetH Tryz.prog laid1 ((World.doorLaid Tryz.prog 4000 os).forCall (fun _ _=>0) ⟨#[],args,[]⟩).memory:=
 laidMetH_of_parts3 (fuel:=8) (laidMet_of_run' 8 (by kernel_rfl) (by kernel_rfl)) (by kernel_rfl) (by kernel_rfl)
theorem var_stays {H:Type} {enc:TypeId×Value→H} {W W':World} (hb:Below W.heap.size W W') {gs:List (DataW H)} {q:List MemPlace} (h:DataW.TrodVars enc Tryz.prog W (fun _=>true) ["loop.example/loom/impl.roles"] gs q) :
  (∃ d,gs=[d])∧DataW.TrodVars enc Tryz.prog W' (fun b=>decide (b < W.heap.size)) ["loop.example/loom/impl.roles"] gs q:=by
 match gs,h with
 | [d],h=>
  obtain ⟨g,t,cs,fuel,p,q',hg,ht,hv,hd,hr,hq⟩:=h
  obtain rfl:=Option.some.inj (gRoles.symm.trans hg)
  obtain rfl:=Option.some.inj (tRoles.symm.trans ht)
  refine ⟨⟨d,rfl⟩,?_⟩
  have hrest:q'=[]:=hr
  subst hrest
  have hcell:(1:Nat) < W.heap.size:=by
   simp only [World.var?,hg,Option.bind_some] at hv
   split at hv
   ·rename_i hh
    exact (Array.getElem?_eq_some_iff.1 hh).1
   ·cases hv
  have hv':W'.var? Tryz.prog "loop.example/loom/impl.roles"=some cs:=by
   simp only [World.var?,hg,Option.bind_some] at hv ⊢
   rw [hb.block 1 hcell]
   exact hv
  obtain ⟨f2,hd2⟩:=Below.trod (v:= .agg cs) laidOut (by kernel_rfl) (of_decide_eq_true (by kernel_rfl)) ⟨fuel,hd⟩ hb (fun x hx=>DataW.trod_lt fuel _ _ _ hd x hx)
  exact ⟨1,292,cs,f2,p,[],hg,ht,hv',hd2,rfl,hq⟩
theorem con_or {P:Program} {e:Env} {g:Nat} {ps rs:List VS} {f1 f2:VS.dens ps→Option (VS.dens rs×VS.dens (bR ps))} (h1:jY P e g ⟨ps,rs,f1⟩) (h2:jY P e g ⟨ps,rs,f2⟩):jY P e g ⟨ps,rs,fun x=>(f1 x).or (f2 x)⟩:=by
 intro w Fz args x r bs hf
 have hf':(f1 x).or (f2 x)=some r:=hf
 cases h:f1 x with
 | some q=>
  rw [h] at hf'
  exact h1 w Fz args x r bs (h.trans hf')
 | none=>
  rw [h] at hf'
  exact h2 w Fz args x r bs hf'
noncomputable def fL (x:VS.dens ps4):Option (VS.dens rs4×VS.dens (bR ps4)):=(f4 x).or (f1004 x)
theorem conL:jY Tryz.prog envD 4 ⟨ps4,rs4,fL⟩:=con_or con4 con1004
set_option maxRecDepth 100000 in
theorem lifted (pure4:∀ x:VS.dens ps4,bnds ps4 x→∃ b,fL x=some ((true,()),b)) (os:Os) (started:os.Started) (H:Type) (enc:TypeId×Value→H) :
  ReturnsInHanded {} Tryz.checked os 4 .any (fun w args=>(Rows.fnExactBeginSpec.pre enc Tryz.prog Tryz.f4 [] false w args∧laidMetH Tryz.prog laid1 w)∧sizedMet enc Tryz.prog Tryz.f4 (OpenSpec.ofChange Rows.fnExactBeginSpec) false w args)
   (Rows.fnExactBeginSpec.post enc Tryz.prog Tryz.f4 false true false false):=by
 refine returnsInHanded_of_change_and (C:=Tryz.checked) (X:=fun w _=>laidMetH Tryz.prog laid1 w) (fun _ _ _ hh h=>h.of_heap hh) own started (by kernel_rfl) Tryz.func4
  (ChangeSpec.witness_shaped (enc:=enc) (C:=Tryz.checked) (os:=os) (X:=fun w _=>laidMetH Tryz.prog laid1 w) false (World.doorLaid Tryz.prog 4000 os) #[.agg #[.slice none 0 0], .agg #[.slice none 0 0, .slice none 0 0, .int .i64 0, .int .i64 0, .int .i64 0], .int .i64 0] 8 rfl (World.shaped_of_RefB (by kernel_rfl) (by kernel_rfl)) (by kernel_rfl) (by kernel_rfl) (by kernel_rfl) (door_met os _)) ?_
 intro W base args ds gs before hval0 hW _ _ hL _
 have hW':=hW
 obtain ⟨p,q,hA0,hV,rfl,hfz,iB⟩:=hW
 have hA:DataW.TrodAll enc Tryz.prog W 0 (fun _=>true) true Tryz.f4.params.toList args.toList ds p:=hA0
 rw [Tryz.params4] at hA
 have hval:∀ (j:Nat) t v,Tryz.f4.params[j]?=some t→args[j]?=some v→Value.okWide Tryz.prog W .any base t v:=hval0
 rw [Tryz.params4] at hval
 have hA2:=hA
 obtain ⟨v0,vs0,d0,ds0,p0,q0,hargs,rfl,rfl,_,r0⟩:=trodAll_cons hA2
 obtain ⟨v1,vs1,d1,ds1,p1,q1,hargs1,rfl,rfl,_,r1⟩:=trodAll_cons r0
 obtain ⟨v2,vs2,d2,ds2,p2,q2,hargs2,rfl,rfl,_,r2⟩:=trodAll_cons r1
 obtain ⟨rfl,rfl,rfl⟩:=trodAll_nil r2
 clear hA0 hval0
 obtain ⟨x,hx,hb⟩:=open_args (vs:=ps4) (n:=12) (base:=base) (by kernel_rfl) (fun j t v ht hv=>hval j t v (by simpa using ht) (by simpa using hv)) hA
 have hlt:=trodAll_lt hA
 refine (law_calls conL hx (globOk hL) (pure4 x hb)).mono fun e W' ⟨he,bel⟩=>?_
 subst he
 have hk:=below_trodAll laidOut bel (by kernel_rfl) hA hlt
 obtain ⟨⟨g1,rfl⟩,hv⟩:=var_stays bel hV
 exact ⟨_,rfl,_,_,_,[],_,_,hW',trodAll_mk1 (shut_bool Tryz.underlying4 true),hk,hv,bel.frame _,fun h=>(by cases h)⟩
theorem over (pure4:∀ x:VS.dens ps4,bnds ps4 x→∃ b,fL x=some ((true,()),b)):Rows.FnExactBeginSaid:=
 OpenClaim.holds_of_wide 4 Tryz.f4 rfl rfl rfl rfl rfl rfl rfl ⟨rfl,rfl,rfl,rfl,rfl⟩ rfl rfl rfl rfl rfl (by kernel_rfl) Tryz.func4 (by kernel_rfl)
  (of_decide_eq_true (by kernel_rfl)) (by unfold Func.isWrapper;first | (rw [if_pos (by decide +kernel)];kernel_rfl) | (rw [if_neg (by decide +kernel)];exact ⟨rfl,rfl⟩))
  (fun os started H enc _=>lifted pure4 os started H enc)
theorem card (pure4:∀ x:VS.dens ps4,bnds ps4 x→∃ b,fL x=some ((true,()),b)):Rows.FnExactBeginCardSaid:=
 Claim7.holds_tied_plain_at .later [] [.mapped] true (true, "f07cb11a616e1ad9d03cc487a65087448bf95f69b1bf94ad091a87a9c35410c2") false
  (over pure4) (fun _ h=>by cases h) (by kernel_rfl) (fun _ h=>by cases h) fnExactBegin_row_tie rfl ⟨rfl,rfl⟩ (by kernel_rfl) rfl
  (fun f fn hf hfn=>by
   obtain rfl:f=4:=Option.some.inj ((show Tryz.prog.funcNamed "loop.example/loom/laws.FnExactBegin"=some 4 by kernel_rfl).symm.trans hf) |>.symm
   obtain rfl:fn=Tryz.f4:=(Option.some.inj (Tryz.func4.symm.trans hfn)).symm
   exact ⟨by kernel_rfl,fun j t ht=>by
    rw [Tryz.params4] at ht
    have hm:t∈[24,41,3]:=by simpa using Array.mem_of_getElem? ht
    have hall:([24,41,3].all fun u=>!Tryz.prog.wantsStandIn u)=true:=by kernel_rfl
    exact (show Tryz.prog.wantsStandIn t=false by simpa using List.all_eq_true.1 hall t hm)⟩)
  (by kernel_rfl)
end Go.Ev.L7
