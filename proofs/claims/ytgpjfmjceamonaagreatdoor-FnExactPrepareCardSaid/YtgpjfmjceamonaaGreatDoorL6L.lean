import Derived.Test.YtgpjfmjceamonaaGreatDoorEvO
import Derived.Test.YtgpjfmjceamonaaGreatDoorL6P7
import Derived.Test.YtgpjfmjceamonaaGreatDoorRows
import Derived.MakeChecks
import Derived.ProofKit
import Derived.LaidMore
import Derived.OpenShut
import Derived.Stop.Joined
import Derived.Test.YtgpjfmjceamonaaGreatDoorCards
import Derived.Test.YtgpjfmjceamonaaGreatDoorTie
namespace Go.Ev.L6
open Go.Proofs Go.Proofs.YtgpjfmjceamonaaGreatDoor Go.ChangeShapes Go.WideShapes Go.ChangeAt Go.RowKit
abbrev laid1 : List (String × DataW Unit) := [("loop.example/loom/impl.roles", Rows.laid_loop_example_loom_impl_roles)]
theorem gRoles : Tryz.prog.globalNamed "loop.example/loom/impl.roles" = some 1 := by kernel_rfl
theorem tRoles : (Tryz.prog.globals[1]?).map (·.type) = some 292 := by kernel_rfl
theorem laid_is : (Rows.laid_loop_example_loom_impl_roles : DataW Unit) = .map (laidOf tbl1) := by rfl
theorem globOk {W : World} (h : laidMetH Tryz.prog laid1 W) : GlobOk envD (· < W.heap.size) W := by
 rw [MakeChecks.laidMetH_plain _ _ _ (by kernel_rfl)] at h
 obtain ⟨ps, ⟨g0, t0, cs0, f0, p0, q0, hg0, ht0, hv0, hd0, _, _⟩, _, _⟩ := h
 obtain rfl := Option.some.inj (gRoles.symm.trans hg0)
 obtain rfl := Option.some.inj (tRoles.symm.trans ht0)
 rw [laid_is] at hd0
 obtain ⟨bm, ents, ck, hcs, hb, ht⟩ := tbl_open (K := 3) (V := 290) (E := 289) (by kernel_rfl) (by kernel_rfl) (by kernel_rfl) (by kernel_rfl) (by kernel_rfl) (by kernel_rfl) (by kernel_rfl) hd0
 have hcell : W.cell? ⟨1, 0, none⟩ = some (.map (some bm)) := by
  have := World.var?_cell hg0 hv0 0
  rw [Array.eq_one_of_toList hcs] at this
  simpa using this
 intro g tbl hg
 have hg' : g = 1 ∧ tbl = tbl1 := by
  have hq : look [(1, tbl1)] g = some tbl := hg
  unfold look at hq
  cases hb : Nat.beq 1 g with
  | true => rw [hb] at hq; exact ⟨(Nat.eq_of_beq_eq_true hb).symm, (Option.some.inj hq).symm⟩
  | false => rw [hb] at hq; cases hq
 obtain ⟨rfl, rfl⟩ := hg'
 exact ⟨block_lt' hcell, bm, ents, ck, hcell, (Array.getElem?_eq_some_iff.1 hb).1, hb, ht⟩
theorem own : ownKnob Tryz.prog.godebug = none := by kernel_rfl
theorem laidOut : laidOutB Tryz.prog = true := by kernel_rfl
theorem door_met (os : Os) (args : Array Value) : laidMetH Tryz.prog laid1 ((World.doorLaid Tryz.prog 4000 os).forCall (fun _ _ => 0) ⟨#[], args, []⟩).memory :=
 laidMetH_of_parts3 (fuel := 8) (laidMet_of_run' 8 (by kernel_rfl) (by kernel_rfl)) (by kernel_rfl) (by kernel_rfl)
/-- The variable reads behind the call as it read. -/
theorem var_stays {H : Type} {enc : TypeId × Value → H} {W W' : World} (hb : Below W.heap.size W W') {gs : List (DataW H)} {q : List MemPlace} (h : DataW.TrodVars enc Tryz.prog W (fun _ => true) ["loop.example/loom/impl.roles"] gs q) :
  (∃ d, gs = [d]) ∧ DataW.TrodVars enc Tryz.prog W' (fun b => decide (b < W.heap.size)) ["loop.example/loom/impl.roles"] gs q := by
 match gs, h with
 | [d], h =>
  obtain ⟨g, t, cs, fuel, p, q', hg, ht, hv, hd, hr, hq⟩ := h
  obtain rfl := Option.some.inj (gRoles.symm.trans hg)
  obtain rfl := Option.some.inj (tRoles.symm.trans ht)
  refine ⟨⟨d, rfl⟩, ?_⟩
  have hrest : q' = [] := hr
  subst hrest
  have hcell : (1 : Nat) < W.heap.size := by
   simp only [World.var?, hg, Option.bind_some] at hv
   split at hv
   ·rename_i hh
    exact (Array.getElem?_eq_some_iff.1 hh).1
   ·cases hv
  have hv' : W'.var? Tryz.prog "loop.example/loom/impl.roles" = some cs := by
   simp only [World.var?, hg, Option.bind_some] at hv ⊢
   rw [hb.block 1 hcell]
   exact hv
  obtain ⟨f2, hd2⟩ := Below.trod (v := .agg cs) laidOut (by kernel_rfl) (of_decide_eq_true (by kernel_rfl)) ⟨fuel, hd⟩ hb (fun x hx => DataW.trod_lt fuel _ _ _ hd x hx)
  exact ⟨1, 292, cs, f2, p, [], hg, ht, hv', hd2, rfl, hq⟩
set_option maxRecDepth 100000 in
theorem lifted (pure3 : ∀ x : VS.dens ps3, bnds ps3 x → ∃ b, f3 x = some ((true, ()), b)) (os : Os) (started : os.Started) (H : Type) (enc : TypeId × Value → H) :
  ReturnsInHanded {} Tryz.checked os 3 .any (fun w args => (Rows.fnExactPrepareSpec.pre enc Tryz.prog Tryz.f3 [] false w args ∧ laidMetH Tryz.prog laid1 w) ∧ sizedMet enc Tryz.prog Tryz.f3 (OpenSpec.ofChange Rows.fnExactPrepareSpec) false w args)
   (Rows.fnExactPrepareSpec.post enc Tryz.prog Tryz.f3 false true false false) := by
 refine returnsInHanded_of_change_and (C := Tryz.checked) (X := fun w _ => laidMetH Tryz.prog laid1 w) (fun _ _ _ hh h => h.of_heap hh) own started (by kernel_rfl) Tryz.func3
  (ChangeSpec.witness_shaped (enc := enc) (C := Tryz.checked) (os := os) (X := fun w _ => laidMetH Tryz.prog laid1 w) false (World.doorLaid Tryz.prog 4000 os) #[.agg #[.slice none 0 0]] 8 rfl (World.shaped_of_RefB (by kernel_rfl) (by kernel_rfl)) (by kernel_rfl) (by kernel_rfl) (by kernel_rfl) (door_met os _)) ?_
 intro W base args ds gs before hval0 hW _ _ hL _
 have hW' := hW
 obtain ⟨p, q, hA0, hV, rfl, hfz, hnd⟩ := hW
 have hA : DataW.TrodAll enc Tryz.prog W 0 (fun _ => true) true Tryz.f3.params.toList args.toList ds p := hA0
 rw [Tryz.params3] at hA
 have hval : ∀ (j : Nat) t v, Tryz.f3.params[j]? = some t → args[j]? = some v → Value.okWide Tryz.prog W .any base t v := hval0
 rw [Tryz.params3] at hval
 have hA2 := hA
 obtain ⟨v0, vs0, d0, ds0, p0, q0, hargs, rfl, rfl, _, r0⟩ := trodAll_cons hA2
 obtain ⟨rfl, rfl, rfl⟩ := trodAll_nil r0
 clear hA0 hval0
 obtain ⟨x, hx, hb⟩ := open_args (vs := ps3) (n := 12) (base := base) (by kernel_rfl) (fun j t v ht hv => hval j t v (by simpa using ht) (by simpa using hv)) hA
 have hlt := trodAll_lt hA
 refine (law_calls con3 hx (globOk hL) (pure3 x hb)).mono fun e W' ⟨he, bel⟩ => ?_
 subst he
 have hk := below_trodAll laidOut bel (by kernel_rfl) hA hlt
 obtain ⟨⟨g1, rfl⟩, hv⟩ := var_stays bel hV
 exact ⟨_, rfl, _, _, _, [], _, _, hW', trodAll_mk1 (shut_bool Tryz.underlying4 true), hk, hv, bel.frame _, fun h => (by cases h)⟩
theorem over (pure3 : ∀ x : VS.dens ps3, bnds ps3 x → ∃ b, f3 x = some ((true, ()), b)) : Rows.FnExactPrepareSaid :=
 OpenClaim.holds_of_wide 3 Tryz.f3 rfl rfl rfl rfl rfl rfl rfl ⟨rfl, rfl, rfl, rfl, rfl⟩ rfl rfl rfl rfl rfl (by kernel_rfl) Tryz.func3 (by kernel_rfl)
  (of_decide_eq_true (by kernel_rfl)) (by unfold Func.isWrapper; first | (rw [if_pos (by decide +kernel)]; kernel_rfl) | (rw [if_neg (by decide +kernel)]; exact ⟨rfl, rfl⟩))
  (fun os started H enc _ => lifted pure3 os started H enc)
theorem card (pure3 : ∀ x : VS.dens ps3, bnds ps3 x → ∃ b, f3 x = some ((true, ()), b)) : Rows.FnExactPrepareCardSaid :=
 Claim7.holds_tied_plain_at .later [] [.mapped] true (true, "f07cb11a616e1ad9d03cc487a65087448bf95f69b1bf94ad091a87a9c35410c2") false
  (over pure3) (fun _ h => by cases h) (by kernel_rfl) (fun _ h => by cases h) fnExactPrepare_row_tie rfl ⟨rfl, rfl⟩ (by kernel_rfl) rfl
  (fun f fn hf hfn => by
   obtain rfl : f = 3 := Option.some.inj ((show Tryz.prog.funcNamed "loop.example/loom/laws.FnExactPrepare" = some 3 by kernel_rfl).symm.trans hf) |>.symm
   obtain rfl : fn = Tryz.f3 := (Option.some.inj (Tryz.func3.symm.trans hfn)).symm
   exact ⟨by kernel_rfl, fun j t ht => by
    rw [Tryz.params3] at ht
    have hm : t ∈ [24] := by simpa using Array.mem_of_getElem? ht
    have hall : ([24].all fun u => !Tryz.prog.wantsStandIn u) = true := by kernel_rfl
    exact (show Tryz.prog.wantsStandIn t = false by simpa using List.all_eq_true.1 hall t hm)⟩)
  (by kernel_rfl)
end Go.Ev.L6
