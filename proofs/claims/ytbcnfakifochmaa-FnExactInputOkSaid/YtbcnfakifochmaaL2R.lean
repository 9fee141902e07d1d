/-
  The law FnExactInputOk of the given program answers true: at every input the program's InputOk and the reference's tell the same, and leave their input as it was. No condition is asked.
-/
import Derived.Test.YtbcnfakifochmaaL2P
import Derived.Test.YtbcnfakifochmaaRows
namespace Go.Ev.L2
open Go.Proofs Go.Proofs.Ytbcnfakifochmaa Go.ChangeShapes Go.WideShapes Go.ChangeAt Go.RowKit
theorem own : ownKnob Try.prog.godebug = none := by kernel_rfl
theorem laidOut : laidOutB Try.prog = true := by kernel_rfl
set_option maxRecDepth 100000 in
theorem lifted (os : Os) (started : os.Started) (H : Type) (enc : TypeId × Value → H) :
    ReturnsInHanded {} Try.checked os 4 .any (Rows.fnExactInputOkSpec.pre6 enc Try.prog Try.f4 Rows.fnExactInputOkRow.domain false) (Rows.fnExactInputOkSpec.post enc Try.prog Try.f4 false true false false) := by
  refine returnsInHanded_of_change (C := Try.checked) own started (by kernel_rfl) Try.func4
    (ChangeSpec.witness6 (enc := enc) (C := Try.checked) false ⟨#[], #[.agg #[.slice none 0 0, .slice none 0 0, .int .i64 0, .int .i64 0, .int .i64 0]], []⟩ 8 (by kernel_rfl) (by kernel_rfl) (by kernel_rfl) (by kernel_rfl)) ?_
  intro W base args ds gs before hval0 hW hcnd _
  have hW' := hW
  obtain ⟨p, q, hA0, hV, rfl, hfz, hnd⟩ := hW
  have hA : DataW.TrodAll enc Try.prog W 0 (fun _ => true) true Try.f4.params.toList args.toList ds p := hA0
  rw [Try.params4] at hA
  have hval : ∀ (j : Nat) t v, Try.f4.params[j]? = some t → args[j]? = some v → Value.okWide Try.prog W .any base t v := hval0
  rw [Try.params4] at hval
  have hA2 := hA
  obtain ⟨v0, vs0, d0, ds0, p0, q0, hargs, rfl, rfl, _, r0⟩ := trodAll_cons hA2
  obtain ⟨rfl, rfl, rfl⟩ := trodAll_nil r0
  obtain ⟨rfl, rfl⟩ := trodVars_none hV
  clear hA0 hval0
  simp only [List.append_nil] at hW'
  obtain ⟨x, hx, hb⟩ := open_args (vs := ps4) (n := 8) (base := base) (by kernel_rfl) (fun j t v ht hv => hval j t v (by simpa using ht) (by simpa using hv)) hA
  have hlt := trodAll_lt hA
  refine (law_calls con4 hx (fun g tbl h => by cases h) (pure4 x hb)).mono fun e W' ⟨he, bel⟩ => ?_
  subst he
  have hk := below_trodAll laidOut bel (by kernel_rfl) hA hlt
  exact ⟨_, rfl, _, _, _, [], _, [], hW', trodAll_mk1 (shut_bool Try.underlying4 true), hk, rfl, bel.frame _, fun h => (by cases h)⟩
theorem over : Rows.FnExactInputOkSaid :=
  OpenClaim.holds_of_wide 4 Try.f4 rfl rfl rfl rfl rfl rfl rfl ⟨rfl, rfl, rfl, rfl, rfl⟩ rfl rfl rfl rfl rfl (by kernel_rfl) Try.func4 (by kernel_rfl)
    (of_decide_eq_true (by kernel_rfl)) (by unfold Func.isWrapper; first | (rw [if_pos (by decide +kernel)]; kernel_rfl) | (rw [if_neg (by decide +kernel)]; exact ⟨rfl, rfl⟩))
    (fun os started H enc _ => lifted os started H enc)
end Go.Ev.L2
namespace Go.Proofs.Ytbcnfakifochmaa
/-- The law: the program's InputOk is the reference's. -/
theorem inputOk_holds : Rows.FnExactInputOkSaid := Go.Ev.L2.over
#print axioms inputOk_holds
end Go.Proofs.Ytbcnfakifochmaa
