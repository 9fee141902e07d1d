/-
  The tables of the program; math.Signbit by hand (it calls what has no body).
-/
import Derived.Test.YtgpjfmjceamonaaDoorL3
import Derived.WalkKit
import Derived.ProofKit
import Derived.Laws.Externs
namespace Go.Ev.L3
open Go.Proofs Go.ChangeShapes Go.WideShapes Go.ChangeAt Go.RowKit
theorem envOk : EnvOk Tryd.prog env := envOk_full (by kernel_rfl) (by kernel_rfl) (by kernel_rfl) (by kernel_rfl) (by kernel_rfl) (by kernel_rfl) (by kernel_rfl)

theorem run60 (b : Nat) (w : World) : (callFunc 60 #[.float .f64 b]).run Tryd.prog w = .ok (.value (.int .u64 (b : Int))) w := by
  rw [run_callFunc_extern (fn := Tryd.f60) (e := Extern.MathFloatBits.float64bits) Tryd.func60 (by kernel_rfl) (by kernel_rfl) (by kernel_rfl) (by kernel_rfl)]
  rfl
theorem enter_of {P : Program} {g : Nat} {fn : Func} {c : Code} {args : Array Value} {w : World} (hfn : P.funcs[g]? = some fn) (hname : (fn.name == "runtime.NumGoroutine") = false) (hb : fn.body = some c) : (callFunc g args).run P w = .ok (.enter g args) w := by
  have h1 : fn.name ≠ "runtime.NumGoroutine" := by simpa using hname
  simp [callFunc, hfn, h1, hb]
theorem wrap_same (n : Int) : IntKind.wrap .i64 n = wrap64 n := by
  rw [IntKind.wrap_i64]
  unfold wrap64
  first | rfl | omega
attribute [local go_sem] run60
set_option maxHeartbeats 8000000 in
set_option maxRecDepth 100000 in
theorem walk34 (b : Nat) (w : World) : Calls Tryd.prog 34 #[.float .f64 b] w fun e w' => e = .returned (.bool (blt (wr (b : Int)) 0)) ∧ w' = w := by
  go_enter Tryd.func34, Tryd.ntmps34
  go_wp2
  go_ret
  refine ⟨?_, rfl⟩
  unfold blt wr
  rw [wrap_same]
  rfl

theorem con34 : Con Tryd.prog env 34 ⟨ps34, rs34, f34⟩ := by
  intro w Fz args x r bs hf hx hnd hb hlt hg
  obtain ⟨u, u2, b1, b2, rfl, rfl, ⟨rfl, hu⟩, h2⟩ := hx
  obtain ⟨rfl, rfl⟩ := h2
  have hu' : [u] = [Value.float .f64 x.1] := by
    rcases hu with ⟨h, _⟩ | ⟨_, h⟩
    · cases h
    · exact h
  cases hu'
  have hr : r = ((blt (wr (x.1 : Int)) 0, ()), ()) := (Option.some.inj hf).symm
  subst hr
  refine ⟨?_, (walk34 x.1 w).mono fun e w' hh => ?_⟩
  · exact enter_of (c := Tryd.f34.body.getD .skip) Tryd.func34 (by kernel_rfl) (by kernel_rfl)
  · obtain ⟨rfl, rfl⟩ := hh
    exact ⟨Fz, [.bool (blt (wr (x.1 : Int)) 0)], [], [], rfl, Ch.refl _ _, fun _ h => h, fun k hk => ⟨hlt k hk, .inl hk⟩, ⟨_, [], [], [], rfl, rfl, ⟨rfl, .inr ⟨rfl, rfl⟩⟩, rfl, rfl⟩, ⟨rfl, rfl⟩, List.nodup_nil, fun k hk => by cases hk⟩
end Go.Ev.L3
