/-
 The tables of the program; math.Signbit by hand (it calls what has no body).
-/
import Derived.Test.YtgpjfmjceamonaaGreatDoorL6
import Derived.WalkKit
import Derived.ProofKit
import Derived.Laws.Externs
namespace Go.Ev.L6
open Go.Proofs Go.ChangeShapes Go.WideShapes Go.ChangeAt Go.RowKit
theorem envOk : EnvOk Tryz.prog env := envOk_full (by kernel_rfl) (by kernel_rfl) (by kernel_rfl) (by kernel_rfl) (by kernel_rfl) (by kernel_rfl) (by kernel_rfl)
theorem envOkD : EnvOk Tryz.prog envD := envOk_full (by kernel_rfl) (by kernel_rfl) (by kernel_rfl) (by kernel_rfl) (by kernel_rfl) (by kernel_rfl) (by kernel_rfl)
theorem run168 (b : Nat) (w : World) : (callFunc 168 #[.float .f64 b]).run Tryz.prog w = .ok (.value (.int .u64 (b : Int))) w := by
 rw [run_callFunc_extern (fn := Tryz.f168) (e := Extern.MathFloatBits.float64bits) Tryz.func168 (by kernel_rfl) (by kernel_rfl) (by kernel_rfl) (by kernel_rfl)]
 rfl
theorem enter_of {P : Program} {g : Nat} {fn : Func} {c : Code} {args : Array Value} {w : World} (hfn : P.funcs[g]? = some fn) (hname : (fn.name == "runtime.NumGoroutine") = false) (hb : fn.body = some c) : (callFunc g args).run P w = .ok (.enter g args) w := by
 have h1 : fn.name ≠ "runtime.NumGoroutine" := by simpa using hname
 simp [callFunc, hfn, h1, hb]
theorem wrap_same (n : Int) : IntKind.wrap .i64 n = wrap64 n := by
 rw [IntKind.wrap_i64]
 unfold wrap64
 first | rfl | omega
attribute [local go_sem] run168
set_option maxHeartbeats 8000000 in
set_option maxRecDepth 100000 in
theorem walk129 (b : Nat) (w : World) : Calls Tryz.prog 129 #[.float .f64 b] w fun e w' => e = .returned (.bool (blt (wr (b : Int)) 0)) ∧ w' = w := by
 go_enter Tryz.func129, Tryz.ntmps129
 go_wp2
 go_ret
 refine ⟨?_, rfl⟩
 unfold blt wr
 rw [wrap_same]
 rfl
theorem con129 : Con Tryz.prog env 129 ⟨ps129, rs129, f129⟩ := by
 intro w Fz args x r bs hf hx hnd hb hlt hg
 obtain ⟨u, u2, b1, b2, rfl, rfl, ⟨rfl, hu⟩, h2⟩ := hx
 obtain ⟨rfl, rfl⟩ := h2
 have hu' : [u] = [Value.float .f64 x.1] := by
  rcases hu with ⟨h, _⟩ | ⟨_, h⟩
  ·cases h
  ·exact h
 cases hu'
 have hr : r = ((blt (wr (x.1 : Int)) 0, ()), ()) := (Option.some.inj hf).symm
 subst hr
 refine ⟨?_, (walk129 x.1 w).mono fun e w' hh => ?_⟩
 ·exact enter_of (c := Tryz.f129.body.getD .skip) Tryz.func129 (by kernel_rfl) (by kernel_rfl)
 ·obtain ⟨rfl, rfl⟩ := hh
  exact ⟨Fz, [.bool (blt (wr (x.1 : Int)) 0)], [], [], rfl, Ch.refl _ _, fun _ h => h, fun k hk => ⟨hlt k hk, .inl hk⟩, ⟨_, [], [], [], rfl, rfl, ⟨rfl, .inr ⟨rfl, rfl⟩⟩, rfl, rfl⟩, ⟨rfl, rfl⟩, List.nodup_nil, fun k hk => by cases hk⟩
end Go.Ev.L6
