import Derived.Test.YtbcnfakifochmaaEvW
import Derived.Test.YtbcnfakifochmaaRows
import Derived.KernelRfl
namespace Go.Ev.L2
open Go.Proofs
def env : Env := { tys := [(3, ⟨(.int .i64), 8⟩), (4, ⟨.bool, 1⟩), (9, ⟨.str, 16⟩), (23, ⟨(.row .str), 24⟩), (25, ⟨(.st (.pair (.row .str) (.pair (.row .str) (.pair (.int .i64) (.pair (.int .i64) (.int .i64)))))), 72⟩), (28, ⟨(.st (.pair (.row .str) (.pair (.row .str) (.pair (.int .i64) (.pair (.int .i64) (.int .i64)))))), 72⟩), (34, ⟨(.row (.row .str)), 24⟩)], els := [(23, 9), (34, 23)], flds := [(25, [(0, 1, false), (1, 1, false), (2, 1, false), (3, 1, false), (4, 1, false)]), (28, [(0, 1, false), (1, 1, false), (2, 1, false), (3, 1, false), (4, 1, false)])], globs := [], eqs := [], maps := [], imaps := [], arrs := [] }
theorem envOk : EnvOk Try.prog env := envOk_plain (by kernel_rfl) (by kernel_rfl) (by kernel_rfl) rfl rfl rfl rfl
/-! ### loop.example/loom/laws.szStringS -/
def sh10_10 : Sh := ⟨[0, 1, 5], [.val (.row .str), .val (.int .i64), .val (.int .i64)]⟩
def outs10_10 : List (Ex × Sh) := [((.exit 0), ⟨[1], [.val (.int .i64)]⟩), (.ret, ⟨[4], [.val (.int .i64)]⟩)]
noncomputable def f10_10 (x : (List ByteArray) × Int × Int × Unit) : Option (((List ByteArray) × Int × Int × Unit) ⊕ ((Int × Unit) ⊕ (Int × Unit))) :=
  let a6 := x.1
  let left7 := x.2.1
  let i8 := x.2.2.1
  bif (blt i8 (a6.length : Int)) then (
    bif (inR i8 (a6.length : Int)) then (
      let v13 := (wr (left7 - ((a6.getD i8.toNat (⟨#[]⟩ : ByteArray)).size : Int)))
      bif (blt v13 (0 : Int)) then some (.inr (.inr ((-1 : Int), ())))
      else some (.inl (a6, v13, (wr (i8 + (1 : Int))), ())))
    else none)
  else some (.inr (.inl (left7, ())))
def ps10 : List VS := [.val (.row .str), .val (.int .i64)]
def rs10 : List VS := [.val (.int .i64)]
noncomputable def f10 (x : (List ByteArray) × Int × Unit) : Option ((Int × Unit) × (Unit)) :=
  let a1 := x.1
  let v4 := (wr (x.2.1 - (a1.length : Int)))
  bif (blt v4 (0 : Int)) then some (((-1 : Int), ()), ())
  else (
    (loopF f10_10 (a1, v4, (0 : Int), ())).bind fun y20 => match y20 with
      | .inl z16 => (
        some ((z16.1, ()), ()))
      | .inr z18 => (
        some ((z18.1, ()), ())))
/-! ### loop.example/loom/laws.szInput -/
abbrev S0 := (List ByteArray) × (List ByteArray) × Int × Int × Int
def ps5 : List VS := [.val (.st (.pair (.row .str) (.pair (.row .str) (.pair (.int .i64) (.pair (.int .i64) (.int .i64)))))), .val (.int .i64)]
def rs5 : List VS := [.val (.int .i64)]
noncomputable def f5 (x : S0 × Int × Unit) : Option ((Int × Unit) × (Unit)) :=
  let a1 := x.1
  (f10 (a1.1, x.2.1, ())).bind fun r3 =>
  bif (blt r3.1.1 (0 : Int)) then some (((-1 : Int), ()), ())
  else (
    (f10 (a1.2.1, r3.1.1, ())).bind fun r5 =>
    bif (blt r5.1.1 (0 : Int)) then some (((-1 : Int), ()), ())
    else some ((r5.1.1, ()), ()))
/-! ### loop.example/loom/spec.InputOk -/
def sh6_8 : Sh := ⟨[1, 18, 19, 20], [.box 28 [.sc (.st (.pair (.row .str) (.pair (.row .str) (.pair (.int .i64) (.pair (.int .i64) (.int .i64))))))], .val (.row .str), .val (.int .i64), .val (.int .i64)]⟩
def outs6_8 : List (Ex × Sh) := [((.exit 0), ⟨[1], [.box 28 [.sc (.st (.pair (.row .str) (.pair (.row .str) (.pair (.int .i64) (.pair (.int .i64) (.int .i64))))))]]⟩), (.ret, ⟨[2], [.val .bool]⟩)]
noncomputable def f6_8 (x : (S0 × Unit) × (List ByteArray) × Int × Int × Unit) : Option (((S0 × Unit) × (List ByteArray) × Int × Int × Unit) ⊕ (((S0 × Unit) × Unit) ⊕ (Bool × Unit))) :=
  let v6 := x.2.1
  let v7 := x.2.2.1
  let v8 := x.2.2.2.1
  bif (blt v8 v7) then (
    bif (inR v8 (v6.length : Int)) then (
      bif (blt (4000 : Int) ((v6.getD v8.toNat (⟨#[]⟩ : ByteArray)).size : Int)) then some (.inr (.inr (false, ())))
      else some (.inl ((x.1.1, ()), v6, v7, (wr (v8 + (1 : Int))), ())))
    else none)
  else some (.inr (.inl ((x.1.1, ()), ())))
def sh6_20 : Sh := ⟨[1, 29, 30, 31], [.box 28 [.sc (.st (.pair (.row .str) (.pair (.row .str) (.pair (.int .i64) (.pair (.int .i64) (.int .i64))))))], .val (.row .str), .val (.int .i64), .val (.int .i64)]⟩
def outs6_20 : List (Ex × Sh) := [((.exit 2), ⟨[1], [.box 28 [.sc (.st (.pair (.row .str) (.pair (.row .str) (.pair (.int .i64) (.pair (.int .i64) (.int .i64))))))]]⟩), (.ret, ⟨[2], [.val .bool]⟩)]
noncomputable def f6_20 (x : (S0 × Unit) × (List ByteArray) × Int × Int × Unit) : Option (((S0 × Unit) × (List ByteArray) × Int × Int × Unit) ⊕ (((S0 × Unit) × Unit) ⊕ (Bool × Unit))) :=
  let v16 := x.2.1
  let v17 := x.2.2.1
  let v18 := x.2.2.2.1
  bif (blt v18 v17) then (
    bif (inR v18 (v16.length : Int)) then (
      bif (blt (4000 : Int) ((v16.getD v18.toNat (⟨#[]⟩ : ByteArray)).size : Int)) then some (.inr (.inr (false, ())))
      else some (.inl ((x.1.1, ()), v16, v17, (wr (v18 + (1 : Int))), ())))
    else none)
  else some (.inr (.inl ((x.1.1, ()), ())))
def ps6 : List VS := [.val (.st (.pair (.row .str) (.pair (.row .str) (.pair (.int .i64) (.pair (.int .i64) (.int .i64))))))]
def rs6 : List VS := [.val .bool]
noncomputable def f6 (x : S0 × Unit) : Option ((Bool × Unit) × (Unit)) :=
  let in1 := x.1
  bif ((blt (200 : Int) (in1.1.length : Int)) || (blt (200 : Int) (in1.2.1.length : Int))) then some ((false, ()), ())
  else (
    (loopF f6_8 ((in1, ()), in1.1, (in1.1.length : Int), (0 : Int), ())).bind fun y36 => match y36 with
      | .inl z14 => (
        (loopF f6_20 ((z14.1.1, ()), z14.1.1.2.1, (z14.1.1.2.1.length : Int), (0 : Int), ())).bind fun y33 => match y33 with
          | .inl z24 => (
            some ((((((((ble (0 : Int) z24.1.1.2.2.1) && (ble z24.1.1.2.2.1 (5000 : Int))) && (ble (1 : Int) z24.1.1.2.2.2.1)) && (ble z24.1.1.2.2.2.1 (60 : Int))) && (ble (0 : Int) z24.1.1.2.2.2.2)) && (ble z24.1.1.2.2.2.2 (20000 : Int))), ()), ()))
          | .inr z31 => (
            some ((z31.1, ()), ())))
      | .inr z34 => (
        some ((z34.1, ()), ())))
/-! ### loop.example/loom/laws.toStringS -/
def sh11_6 : Sh := ⟨[0, 3, 4], [.val (.row .str), .own 9 .str, .val (.int .i64)]⟩
def outs11_6 : List (Ex × Sh) := [((.exit 0), ⟨[3], [.own 9 .str]⟩)]
noncomputable def f11_6 (x : (List ByteArray) × (List ByteArray) × Int × Unit) : Option (((List ByteArray) × (List ByteArray) × Int × Unit) ⊕ ((List ByteArray) × Unit)) :=
  let a4 := x.1
  let out5 := x.2.1
  let i6 := x.2.2.1
  bif (blt i6 (a4.length : Int)) then (
    bif (inR i6 (a4.length : Int)) then (
      bif (inR i6 (out5.length : Int)) then (
        some (.inl (a4, (out5.set i6.toNat (a4.getD i6.toNat (⟨#[]⟩ : ByteArray))), (wr (i6 + (1 : Int))), ())))
      else none)
    else none)
  else some (.inr (out5, ()))
def ps11 : List VS := [.val (.row .str)]
def rs11 : List VS := [.own 9 .str]
noncomputable def f11 (x : (List ByteArray) × Unit) : Option (((List ByteArray) × Unit) × (Unit)) :=
  let a1 := x.1
  let v2 := (a1.length : Int)
  bif (inE v2 ((17592186044416 : Nat) : Int)) then (
    (loopF f11_6 (a1, (List.replicate v2.toNat (⟨#[]⟩ : ByteArray)), (0 : Int), ())).bind fun z12 =>
    some ((z12.1, ()), ()))
  else none
/-! ### loop.example/loom/laws.toInput -/
def ps7 : List VS := [.val (.st (.pair (.row .str) (.pair (.row .str) (.pair (.int .i64) (.pair (.int .i64) (.int .i64))))))]
def rs7 : List VS := [.val (.st (.pair (.row .str) (.pair (.row .str) (.pair (.int .i64) (.pair (.int .i64) (.int .i64))))))]
noncomputable def f7 (x : S0 × Unit) : Option ((S0 × Unit) × (Unit)) :=
  let a1 := x.1
  (f11 (a1.1, ())).bind fun r2 =>
  (f11 (a1.2.1, ())).bind fun r3 =>
  some (((r2.1.1, r3.1.1, a1.2.2), ()), ())
/-! ### loop.example/loom/impl.InputOk -/
def sh8_14 : Sh := ⟨[1, 21, 22, 23, 27, 28, 29], [.box 28 [.sc (.st (.pair (.row .str) (.pair (.row .str) (.pair (.int .i64) (.pair (.int .i64) (.int .i64))))))], .own 23 (.row .str), .val (.int .i64), .val (.int .i64), .val (.row .str), .val (.int .i64), .val (.int .i64)]⟩
def outs8_14 : List (Ex × Sh) := [((.exit 2), ⟨[1, 21, 22, 23], [.box 28 [.sc (.st (.pair (.row .str) (.pair (.row .str) (.pair (.int .i64) (.pair (.int .i64) (.int .i64))))))], .own 23 (.row .str), .val (.int .i64), .val (.int .i64)]⟩), (.ret, ⟨[2], [.val .bool]⟩)]
noncomputable def f8_14 (x : (S0 × Unit) × (List (List ByteArray)) × Int × Int × (List ByteArray) × Int × Int × Unit) : Option (((S0 × Unit) × (List (List ByteArray)) × Int × Int × (List ByteArray) × Int × Int × Unit) ⊕ (((S0 × Unit) × (List (List ByteArray)) × Int × Int × Unit) ⊕ (Bool × Unit))) :=
  let v13 := x.2.1
  let v14 := x.2.2.1
  let v15 := x.2.2.2.1
  let v16 := x.2.2.2.2.1
  let v17 := x.2.2.2.2.2.1
  let v18 := x.2.2.2.2.2.2.1
  bif (blt v18 v17) then (
    bif (inR v18 (v16.length : Int)) then (
      bif (blt (4000 : Int) ((v16.getD v18.toNat (⟨#[]⟩ : ByteArray)).size : Int)) then some (.inr (.inr (false, ())))
      else some (.inl ((x.1.1, ()), v13, v14, v15, v16, v17, (wr (v18 + (1 : Int))), ())))
    else none)
  else some (.inr (.inl ((x.1.1, ()), v13, v14, v15, ())))
def sh8_8 : Sh := ⟨[1, 21, 22, 23], [.box 28 [.sc (.st (.pair (.row .str) (.pair (.row .str) (.pair (.int .i64) (.pair (.int .i64) (.int .i64))))))], .own 23 (.row .str), .val (.int .i64), .val (.int .i64)]⟩
def outs8_8 : List (Ex × Sh) := [((.exit 0), ⟨[1], [.box 28 [.sc (.st (.pair (.row .str) (.pair (.row .str) (.pair (.int .i64) (.pair (.int .i64) (.int .i64))))))]]⟩), (.ret, ⟨[2], [.val .bool]⟩)]
noncomputable def f8_8 (x : (S0 × Unit) × (List (List ByteArray)) × Int × Int × Unit) : Option (((S0 × Unit) × (List (List ByteArray)) × Int × Int × Unit) ⊕ (((S0 × Unit) × Unit) ⊕ (Bool × Unit))) :=
  let v7 := x.2.1
  let v8 := x.2.2.1
  let v9 := x.2.2.2.1
  bif (blt v9 v8) then (
    bif (inR v9 (v7.length : Int)) then (
      let v11 := (v7.getD v9.toNat [])
      (loopF f8_14 ((x.1.1, ()), v7, v8, v9, v11, (v11.length : Int), (0 : Int), ())).bind fun y31 => match y31 with
        | .inl z24 => (
          some (.inl ((z24.1.1, ()), z24.2.1, z24.2.2.1, (wr (z24.2.2.2.1 + (1 : Int))), ())))
        | .inr z29 => (
          some (.inr (.inr (z29.1, ())))))
    else none)
  else some (.inr (.inl ((x.1.1, ()), ())))
def ps8 : List VS := [.val (.st (.pair (.row .str) (.pair (.row .str) (.pair (.int .i64) (.pair (.int .i64) (.int .i64))))))]
def rs8 : List VS := [.val .bool]
noncomputable def f8 (x : S0 × Unit) : Option ((Bool × Unit) × (Unit)) :=
  let in1 := x.1
  bif ((blt (200 : Int) (in1.1.length : Int)) || (blt (200 : Int) (in1.2.1.length : Int))) then some ((false, ()), ())
  else (
    let row5 := ([in1.1, in1.2.1])
    (loopF f8_8 ((in1, ()), row5, (row5.length : Int), (0 : Int), ())).bind fun y41 => match y41 with
      | .inl z32 => (
        some ((((((((ble (0 : Int) z32.1.1.2.2.1) && (ble z32.1.1.2.2.1 (5000 : Int))) && (ble (1 : Int) z32.1.1.2.2.2.1)) && (ble z32.1.1.2.2.2.1 (60 : Int))) && (ble (0 : Int) z32.1.1.2.2.2.2)) && (ble z32.1.1.2.2.2.2 (20000 : Int))), ()), ()))
      | .inr z39 => (
        some ((z39.1, ()), ())))
/-! ### loop.example/loom/laws.eqStringS -/
def sh12_8 : Sh := ⟨[0, 1, 5], [.val (.row .str), .val (.row .str), .val (.int .i64)]⟩
def outs12_8 : List (Ex × Sh) := [((.exit 0), ⟨[], []⟩), (.ret, ⟨[4], [.val .bool]⟩)]
noncomputable def f12_8 (x : (List ByteArray) × (List ByteArray) × Int × Unit) : Option (((List ByteArray) × (List ByteArray) × Int × Unit) ⊕ ((Unit) ⊕ (Bool × Unit))) :=
  let a6 := x.1
  let b7 := x.2.1
  let i8 := x.2.2.1
  bif (blt i8 (a6.length : Int)) then (
    bif (inR i8 (a6.length : Int)) then (
      bif (inR i8 (b7.length : Int)) then (
        bif (!(beqS (a6.getD i8.toNat (⟨#[]⟩ : ByteArray)) (b7.getD i8.toNat (⟨#[]⟩ : ByteArray)))) then some (.inr (.inr (false, ())))
        else some (.inl (a6, b7, (wr (i8 + (1 : Int))), ())))
      else none)
    else none)
  else some (.inr (.inl ()))
def ps12 : List VS := [.val (.row .str), .val (.row .str)]
def rs12 : List VS := [.val .bool]
noncomputable def f12 (x : (List ByteArray) × (List ByteArray) × Unit) : Option ((Bool × Unit) × (Unit)) :=
  let a1 := x.1
  let b2 := x.2.1
  bif (bne (a1.length : Int) (b2.length : Int)) then some ((false, ()), ())
  else (
    (loopF f12_8 (a1, b2, (0 : Int), ())).bind fun y18 => match y18 with
      | .inl _ => (
        some ((true, ()), ()))
      | .inr z16 => (
        some ((z16.1, ()), ())))
/-! ### loop.example/loom/laws.eqInput -/
def ps9 : List VS := [.val (.st (.pair (.row .str) (.pair (.row .str) (.pair (.int .i64) (.pair (.int .i64) (.int .i64)))))), .val (.st (.pair (.row .str) (.pair (.row .str) (.pair (.int .i64) (.pair (.int .i64) (.int .i64))))))]
def rs9 : List VS := [.val .bool]
noncomputable def f9 (x : S0 × S0 × Unit) : Option ((Bool × Unit) × (Unit)) :=
  let a1 := x.1
  let b2 := x.2.1
  (f12 (a1.1, b2.1, ())).bind fun r3 =>
  bif (!r3.1.1) then some ((false, ()), ())
  else (
    (f12 (a1.2.1, b2.2.1, ())).bind fun r5 =>
    bif (!r5.1.1) then some ((false, ()), ())
    else bif (bne a1.2.2.1 b2.2.2.1) then some ((false, ()), ())
    else bif (bne a1.2.2.2.1 b2.2.2.2.1) then some ((false, ()), ())
    else bif (bne a1.2.2.2.2 b2.2.2.2.2) then some ((false, ()), ())
    else some ((true, ()), ()))
/-! ### loop.example/loom/laws.FnExactInputOk -/
def ps4 : List VS := [.val (.st (.pair (.row .str) (.pair (.row .str) (.pair (.int .i64) (.pair (.int .i64) (.int .i64))))))]
def rs4 : List VS := [.val .bool]
noncomputable def f4 (x : S0 × Unit) : Option ((Bool × Unit) × (Unit)) :=
  let aIn1 := x.1
  (f5 (aIn1, (1048576 : Int), ())).bind fun r2 =>
  bif (blt r2.1.1 (0 : Int)) then some ((true, ()), ())
  else (
    (f7 (aIn1, ())).bind fun r4 =>
    (f6 (r4.1.1, ())).bind fun r5 =>
    (f7 (aIn1, ())).bind fun r6 =>
    (f8 (r6.1.1, ())).bind fun r7 =>
    bif (!(beqB r7.1.1 r5.1.1)) then some ((false, ()), ())
    else (
      (f7 (aIn1, ())).bind fun r9 =>
      (f9 (r6.1.1, r9.1.1, ())).bind fun r10 =>
      bif (!r10.1.1) then some ((false, ()), ())
      else some ((true, ()), ())))
noncomputable def code10 : Code := Try.f10.body.getD .skip
def H10 : Nat → Option FH := fun _ => none
theorem hH10 : ∀ g h, H10 g = some h → Con Try.prog env g h := fun g h hh => by cases hh
noncomputable def c10_10 : Code := inner (at' code10 10)
noncomputable def p10_10 : Pc := ⟨10, sh10_10, outs10_10, loopF f10_10⟩
theorem occ10_10 : occ code10 10 = [.loop c10_10] := by kernel_rfl
theorem ok10_10 : PcOk Try.prog env 0 28 p10_10 (.loop c10_10) :=
  loop_ok (T := []) (H := H10) envOk hH10 (ok_nil) (by kernel_rfl) (fun x => by kernel_rfl)
theorem con10 : Con Try.prog env 10 ⟨ps10, rs10, f10⟩ :=
  con_of (T := [p10_10]) (H := H10) (n := 28) (c := code10) envOk hH10 Try.func10 (by kernel_rfl) (by kernel_rfl) (by kernel_rfl) (by kernel_rfl)
    (ok_of (ok_one occ10_10 ok10_10 ok_end)) (by kernel_rfl) (fun x => by kernel_rfl)
noncomputable def code5 : Code := Try.f5.body.getD .skip
noncomputable def H5 : Nat → Option FH := fun g => bif Nat.beq g 10 then some ⟨ps10, rs10, f10⟩ else none
theorem hH5 : ∀ g h, H5 g = some h → Con Try.prog env g h := hH_cons con10 hH_nil
theorem con5 : Con Try.prog env 5 ⟨ps5, rs5, f5⟩ :=
  con_of (T := []) (H := H5) (n := 18) (c := code5) envOk hH5 Try.func5 (by kernel_rfl) (by kernel_rfl) (by kernel_rfl) (by kernel_rfl)
    (ok_nil) (by kernel_rfl) (fun x => by kernel_rfl)
noncomputable def code6 : Code := Try.f6.body.getD .skip
def H6 : Nat → Option FH := fun _ => none
theorem hH6 : ∀ g h, H6 g = some h → Con Try.prog env g h := fun g h hh => by cases hh
noncomputable def c6_20 : Code := inner (at' code6 20)
noncomputable def c6_8 : Code := inner (at' code6 8)
noncomputable def p6_8 : Pc := ⟨8, sh6_8, outs6_8, loopF f6_8⟩
theorem occ6_8 : occ code6 8 = [.loop c6_8] := by kernel_rfl
theorem ok6_8 : PcOk Try.prog env 0 67 p6_8 (.loop c6_8) :=
  loop_ok (T := []) (H := H6) envOk hH6 (ok_nil) (by kernel_rfl) (fun x => by kernel_rfl)
noncomputable def p6_20 : Pc := ⟨20, sh6_20, outs6_20, loopF f6_20⟩
theorem occ6_20 : occ code6 20 = [.loop c6_20] := by kernel_rfl
theorem ok6_20 : PcOk Try.prog env 0 67 p6_20 (.loop c6_20) :=
  loop_ok (T := []) (H := H6) envOk hH6 (ok_nil) (by kernel_rfl) (fun x => by kernel_rfl)
theorem con6 : Con Try.prog env 6 ⟨ps6, rs6, f6⟩ :=
  con_of (T := [p6_8, p6_20]) (H := H6) (n := 67) (c := code6) envOk hH6 Try.func6 (by kernel_rfl) (by kernel_rfl) (by kernel_rfl) (by kernel_rfl)
    (ok_of (ok_one occ6_8 ok6_8 (ok_one occ6_20 ok6_20 ok_end))) (by kernel_rfl) (fun x => by kernel_rfl)
noncomputable def code11 : Code := Try.f11.body.getD .skip
def H11 : Nat → Option FH := fun _ => none
theorem hH11 : ∀ g h, H11 g = some h → Con Try.prog env g h := fun g h hh => by cases hh
noncomputable def c11_6 : Code := inner (at' code11 6)
noncomputable def p11_6 : Pc := ⟨6, sh11_6, outs11_6, loopF f11_6⟩
theorem occ11_6 : occ code11 6 = [.loop c11_6] := by kernel_rfl
theorem ok11_6 : PcOk Try.prog env 0 22 p11_6 (.loop c11_6) :=
  loop_ok (T := []) (H := H11) envOk hH11 (ok_nil) (by kernel_rfl) (fun x => by kernel_rfl)
theorem con11 : Con Try.prog env 11 ⟨ps11, rs11, f11⟩ :=
  con_of (T := [p11_6]) (H := H11) (n := 22) (c := code11) envOk hH11 Try.func11 (by kernel_rfl) (by kernel_rfl) (by kernel_rfl) (by kernel_rfl)
    (ok_of (ok_one occ11_6 ok11_6 ok_end)) (by kernel_rfl) (fun x => by kernel_rfl)
noncomputable def code7 : Code := Try.f7.body.getD .skip
noncomputable def H7 : Nat → Option FH := fun g => bif Nat.beq g 11 then some ⟨ps11, rs11, f11⟩ else none
theorem hH7 : ∀ g h, H7 g = some h → Con Try.prog env g h := hH_cons con11 hH_nil
theorem con7 : Con Try.prog env 7 ⟨ps7, rs7, f7⟩ :=
  con_of (T := []) (H := H7) (n := 22) (c := code7) envOk hH7 Try.func7 (by kernel_rfl) (by kernel_rfl) (by kernel_rfl) (by kernel_rfl)
    (ok_nil) (by kernel_rfl) (fun x => by kernel_rfl)
noncomputable def code8 : Code := Try.f8.body.getD .skip
def H8 : Nat → Option FH := fun _ => none
theorem hH8 : ∀ g h, H8 g = some h → Con Try.prog env g h := fun g h hh => by cases hh
noncomputable def c8_8 : Code := inner (at' code8 8)
noncomputable def c8_14 : Code := inner (at' c8_8 14)
noncomputable def p8_14 : Pc := ⟨14, sh8_14, outs8_14, loopF f8_14⟩
theorem occ8_14 : occ c8_8 14 = [.loop c8_14] := by kernel_rfl
theorem ok8_14 : PcOk Try.prog env 0 66 p8_14 (.loop c8_14) :=
  loop_ok (T := []) (H := H8) envOk hH8 (ok_nil) (by kernel_rfl) (fun x => by kernel_rfl)
noncomputable def p8_8 : Pc := ⟨8, sh8_8, outs8_8, loopF f8_8⟩
theorem occ8_8 : occ code8 8 = [.loop c8_8] := by kernel_rfl
theorem ok8_8 : PcOk Try.prog env 0 66 p8_8 (.loop c8_8) :=
  loop_ok (T := [p8_14]) (H := H8) envOk hH8 (ok_of (ok_one occ8_14 ok8_14 ok_end)) (by kernel_rfl) (fun x => by kernel_rfl)
theorem con8 : Con Try.prog env 8 ⟨ps8, rs8, f8⟩ :=
  con_of (T := [p8_8]) (H := H8) (n := 66) (c := code8) envOk hH8 Try.func8 (by kernel_rfl) (by kernel_rfl) (by kernel_rfl) (by kernel_rfl)
    (ok_of (ok_one occ8_8 ok8_8 ok_end)) (by kernel_rfl) (fun x => by kernel_rfl)
noncomputable def code12 : Code := Try.f12.body.getD .skip
def H12 : Nat → Option FH := fun _ => none
theorem hH12 : ∀ g h, H12 g = some h → Con Try.prog env g h := fun g h hh => by cases hh
noncomputable def c12_8 : Code := inner (at' code12 8)
noncomputable def p12_8 : Pc := ⟨8, sh12_8, outs12_8, loopF f12_8⟩
theorem occ12_8 : occ code12 8 = [.loop c12_8] := by kernel_rfl
theorem ok12_8 : PcOk Try.prog env 0 26 p12_8 (.loop c12_8) :=
  loop_ok (T := []) (H := H12) envOk hH12 (ok_nil) (by kernel_rfl) (fun x => by kernel_rfl)
theorem con12 : Con Try.prog env 12 ⟨ps12, rs12, f12⟩ :=
  con_of (T := [p12_8]) (H := H12) (n := 26) (c := code12) envOk hH12 Try.func12 (by kernel_rfl) (by kernel_rfl) (by kernel_rfl) (by kernel_rfl)
    (ok_of (ok_one occ12_8 ok12_8 ok_end)) (by kernel_rfl) (fun x => by kernel_rfl)
noncomputable def code9 : Code := Try.f9.body.getD .skip
noncomputable def H9 : Nat → Option FH := fun g => bif Nat.beq g 12 then some ⟨ps12, rs12, f12⟩ else none
theorem hH9 : ∀ g h, H9 g = some h → Con Try.prog env g h := hH_cons con12 hH_nil
theorem con9 : Con Try.prog env 9 ⟨ps9, rs9, f9⟩ :=
  con_of (T := []) (H := H9) (n := 32) (c := code9) envOk hH9 Try.func9 (by kernel_rfl) (by kernel_rfl) (by kernel_rfl) (by kernel_rfl)
    (ok_nil) (by kernel_rfl) (fun x => by kernel_rfl)
noncomputable def code4 : Code := Try.f4.body.getD .skip
noncomputable def H4 : Nat → Option FH := fun g => bif Nat.beq g 5 then some ⟨ps5, rs5, f5⟩ else bif Nat.beq g 6 then some ⟨ps6, rs6, f6⟩ else bif Nat.beq g 7 then some ⟨ps7, rs7, f7⟩ else bif Nat.beq g 8 then some ⟨ps8, rs8, f8⟩ else bif Nat.beq g 9 then some ⟨ps9, rs9, f9⟩ else none
theorem hH4 : ∀ g h, H4 g = some h → Con Try.prog env g h := hH_cons con5 (hH_cons con6 (hH_cons con7 (hH_cons con8 (hH_cons con9 hH_nil))))
theorem con4 : Con Try.prog env 4 ⟨ps4, rs4, f4⟩ :=
  con_of (T := []) (H := H4) (n := 27) (c := code4) envOk hH4 Try.func4 (by kernel_rfl) (by kernel_rfl) (by kernel_rfl) (by kernel_rfl)
    (ok_nil) (by kernel_rfl) (fun x => by kernel_rfl)
end Go.Ev.L2
