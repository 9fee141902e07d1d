import Derived.Test.YtgpjfmjceamonaaDoorEvW
import Derived.Test.YtgpjfmjceamonaaDoorEv21
import Derived.Test.YtgpjfmjceamonaaDoorRows
import Derived.KernelRfl
namespace Go.Ev.L3
open Go.Proofs
abbrev Y0 : Ty := .st (.pair .bool (.int .i64))
abbrev Y1 : Ty := .st (.pair (.int .i64) (.pair (.int .i64) (.pair .flt (.pair .str (.int .i64)))))
abbrev Y2 : Ty := .st (.pair (.int .i64) (.pair (.int .i64) (.pair (.int .i64) (.pair (.int .i64) (.int .i64)))))
abbrev Y3 : Ty := .st (.pair .str (.pair (.int .i64) (.pair (.int .i64) (.int .i64))))
abbrev Y4 : Ty := .st (.pair .str (.pair (.int .i64) (.pair (.int .i64) (.pair .bool (.pair (.int .i64) (.pair (.row Y0) (.pair (.row Y1) (.pair (.row Y2) (.row Y3)))))))))
abbrev Y5 : Ty := .st (.row Y4)
abbrev Y6 : Ty := .st (.pair (.int .i64) (.pair (.int .i64) (.int .i64)))
abbrev Y7 : Ty := .st (.pair .bool (.pair (.int .i64) (.int .i64)))
abbrev Y8 : Ty := .st (.pair .bool (.pair (.row (.int .i64)) (.row Y7)))
abbrev Y9 : Ty := .st (.pair (.int .i64) Y8)
abbrev Y10 : Ty := .st (.pair (.int .i64) (.pair (.int .i64) (.pair (.int .i64) (.int .i64))))
def tbl1 : List (Int × List Int) := [(1, [7, 0, 0, 0]), (2, [8, 0, 0, 0]), (3, [0, 0, 0, 0]), (4, [1, 9, 0, 0]), (5, [1, 2, 0, 0]), (6, [1, 2, 0, 0]), (7, [1, 5, 0, 0]), (8, [5, 2, 0, 0]), (9, [1, 10, 0, 0]), (10, [10, 2, 0, 0]), (11, [1, 11, 0, 0]), (12, [1, 0, 0, 0]), (13, [4, 2, 2, 0]), (14, [4, 2, 3, 0]), (15, [1, 2, 2, 0]), (16, [2, 2, 2, 0]), (17, [1, 14, 2, 0]), (18, [1, 13, 2, 2]), (19, [12, 0, 0, 0]), (20, [2, 12, 0, 0]), (21, [2, 12, 0, 0]), (22, [1, 0, 0, 0]), (23, [6, 2, 0, 0]), (24, [6, 3, 0, 0]), (25, [1, 3, 0, 0]), (26, [1, 6, 15, 0]), (27, [1, 6, 0, 0]), (28, [1, 2, 3, 0]), (29, [3, 0, 0, 0]), (30, [2, 0, 0, 0]), (31, [12, 17, 0, 0]), (32, [0, 0, 0, 0]), (33, [16, 0, 0, 0]), (34, [16, 0, 0, 0]), (35, [2, 3, 0, 0]), (36, [0, 0, 0, 0]), (37, [18, 0, 0, 0]), (38, [18, 12, 0, 0]), (39, [18, 12, 0, 0]), (40, [19, 0, 0, 0]), (41, [20, 12, 1, 0]), (42, [1, 0, 0, 0])]
def env : Env := { tys := [(2, ⟨(.int .i64), 8⟩), (3, ⟨(.int .i64), 8⟩), (4, ⟨.bool, 1⟩), (9, ⟨.str, 16⟩), (22, ⟨(.row Y4), 24⟩), (24, ⟨Y5, 24⟩), (27, ⟨Y6, 24⟩), (29, ⟨(.row Y4), 24⟩), (31, ⟨Y5, 24⟩), (37, ⟨(.row Y8), 24⟩), (45, ⟨(.row Y0), 24⟩), (46, ⟨(.row Y1), 24⟩), (47, ⟨(.row Y2), 24⟩), (48, ⟨(.row Y3), 24⟩), (50, ⟨Y4, 144⟩), (51, ⟨(.row .bool), 24⟩), (52, ⟨(.row Y0), 24⟩), (53, ⟨(.row Y1), 24⟩), (54, ⟨(.row Y2), 24⟩), (55, ⟨(.row Y3), 24⟩), (57, ⟨Y4, 144⟩), (59, ⟨Y2, 40⟩), (62, ⟨(.row (.int .i64)), 24⟩), (63, ⟨(.row Y7), 24⟩), (65, ⟨Y8, 56⟩), (74, ⟨(.row Y9), 24⟩), (77, ⟨Y9, 64⟩), (82, ⟨.flt, 8⟩), (84, ⟨Y1, 48⟩), (88, ⟨Y3, 40⟩), (91, ⟨Y0, 16⟩), (92, ⟨(.row Y9), 24⟩), (96, ⟨Y9, 64⟩), (111, ⟨Y7, 24⟩), (120, ⟨(.int .i64), 8⟩), (121, ⟨Y10, 32⟩), (124, ⟨Y10, 32⟩), (136, ⟨Y1, 48⟩), (138, ⟨Y3, 40⟩), (141, ⟨Y0, 16⟩), (144, ⟨Y2, 40⟩)], els := [(22, 50), (29, 57), (37, 65), (45, 141), (46, 136), (47, 144), (48, 138), (51, 4), (52, 91), (53, 84), (54, 59), (55, 88), (62, 3), (63, 111), (74, 77), (92, 96)], flds := [(24, [(0, 1, false)]), (27, [(0, 1, false), (1, 1, false), (2, 1, false)]), (31, [(0, 1, false)]), (50, [(0, 1, false), (1, 1, false), (2, 1, false), (3, 1, false), (4, 1, false), (5, 1, false), (6, 1, false), (7, 1, false), (8, 1, false)]), (57, [(0, 1, false), (1, 1, false), (2, 1, false), (3, 1, false), (4, 1, false), (5, 1, false), (6, 1, false), (7, 1, false), (8, 1, false)]), (59, [(0, 1, false), (1, 1, false), (2, 1, false), (3, 1, false), (4, 1, false)]), (65, [(0, 1, false), (1, 1, false), (2, 1, false)]), (77, [(0, 1, false), (1, 3, true)]), (84, [(0, 1, false), (1, 1, false), (2, 1, false), (3, 1, false), (4, 1, false)]), (88, [(0, 1, false), (1, 1, false), (2, 1, false), (3, 1, false)]), (91, [(0, 1, false), (1, 1, false)]), (96, [(0, 1, false), (1, 3, true)]), (111, [(0, 1, false), (1, 1, false), (2, 1, false)]), (136, [(0, 1, false), (1, 1, false), (2, 1, false), (3, 1, false), (4, 1, false)]), (138, [(0, 1, false), (1, 1, false), (2, 1, false), (3, 1, false)]), (141, [(0, 1, false), (1, 1, false)]), (144, [(0, 1, false), (1, 1, false), (2, 1, false), (3, 1, false), (4, 1, false)])], globs := [(1, tbl1)], eqs := [27, 111], maps := [123], imaps := [127], arrs := [121, 124] }
noncomputable def f34 (x : Nat × Unit) : Option ((Bool × Unit) × Unit) := some ((blt (wr (x.1 : Int)) (0 : Int), ()), ())
def ps34 : List VS := [.val .flt]
def rs34 : List VS := [.val .bool]
/-! ### closure64 -/
abbrev S0 := Bool × Int
abbrev S1 := Int × Int × Nat × ByteArray × Int
abbrev S2 := Int × Int × Int × Int × Int
abbrev S3 := ByteArray × Int × Int × Int
abbrev S4 := Bool × Int × Int
abbrev S6 := Bool × (List Int) × List S4
abbrev S5 := Int × S6
def sh64_8 : Sh := ⟨[0, 1, 7, 8, 9], [.val (.int .i64), .box 65 [.sc Y8], .val (.row Y7), .val (.int .i64), .val (.int .i64)], []⟩
def outs64_8 : List (Ex × Sh) := [((.exit 0), ⟨[0, 1], [.val (.int .i64), .box 65 [.sc Y8]], []⟩), (.ret, ⟨[0, 1, 3], [.val (.int .i64), .box 65 [.sc Y8], .val .bool], []⟩)]
noncomputable def f64_8 (x : Int × (S6 × Unit) × (List S4) × Int × Int × Unit) : Option ((Int × (S6 × Unit) × (List S4) × Int × Int × Unit) ⊕ ((Int × (S6 × Unit) × Unit) ⊕ (Int × (S6 × Unit) × Bool × Unit))) :=
  let k3 := x.1
  let v4 := x.2.2.1
  let v5 := x.2.2.2.1
  let v6 := x.2.2.2.2.1
  bif (blt v6 v5) then (
    bif (inR v6 (v4.length : Int)) then (
      bif ((v4.getD v6.toNat (false, (0 : Int), (0 : Int))).1 && (blt k3 (v4.getD v6.toNat (false, (0 : Int), (0 : Int))).2.1)) then some (.inr (.inr (k3, (x.2.1.1, ()), false, ())))
      else some (.inl (k3, (x.2.1.1, ()), v4, v5, (wr (v6 + (1 : Int))), ())))
    else none)
  else some (.inr (.inl (k3, (x.2.1.1, ()), ())))
def ps64 : List VS := [.val (.int .i64), .box 65 [.sc Y8]]
def rs64 : List VS := [.val .bool]
noncomputable def f64 (x : Int × (S6 × Unit) × Unit) : Option ((Bool × Unit) × ((S6 × Unit) × Unit)) :=
  (loopF f64_8 (x.1, (x.2.1.1, ()), x.2.1.1.2.2, (x.2.1.1.2.2.length : Int), (0 : Int), ())).bind fun y16 => match y16 with
    | .inl z11 => (
      some ((true, ()), (z11.2.1.1, ()), ()))
    | .inr z13 => (
      some ((z13.2.2.1, ()), (z13.2.1.1, ()), ()))
/-! ### loop.example/loom/laws.szUpS -/
def ps41 : List VS := [.val (.row Y0), .val (.int .i64)]
def rs41 : List VS := [.val (.int .i64)]
noncomputable def f41 (x : (List S0) × Int × Unit) : Option ((Int × Unit) × (Unit)) :=
  let v4 := (wr (x.2.1 - (x.1.length : Int)))
  bif (blt v4 (0 : Int)) then some (((-1 : Int), ()), ())
  else some ((v4, ()), ())
/-! ### loop.example/loom/laws.szValue -/
def ps71 : List VS := [.val Y1, .val (.int .i64)]
def rs71 : List VS := [.val (.int .i64)]
noncomputable def f71 (x : S1 × Int × Unit) : Option ((Int × Unit) × (Unit)) :=
  let v4 := (wr (x.2.1 - (x.1.2.2.2.1.size : Int)))
  bif (blt v4 (0 : Int)) then some (((-1 : Int), ()), ())
  else some ((v4, ()), ())
/-! ### loop.example/loom/laws.szValueS -/
def sh42_20 : Sh := ⟨[0, 1, 5], [.val (.row Y1), .val (.int .i64), .val (.int .i64)], []⟩
def outs42_20 : List (Ex × Sh) := [((.exit 0), ⟨[1], [.val (.int .i64)], []⟩), (.ret, ⟨[4], [.val (.int .i64)], []⟩)]
noncomputable def f42_20 (x : (List S1) × Int × Int × Unit) : Option (((List S1) × Int × Int × Unit) ⊕ ((Int × Unit) ⊕ (Int × Unit))) :=
  let a6 := x.1
  let left7 := x.2.1
  let i8 := x.2.2.1
  bif (blt i8 (a6.length : Int)) then (
    bif (inR i8 (a6.length : Int)) then (
      (f71 ((a6.getD i8.toNat ((0 : Int), (0 : Int), (0 : Nat), (⟨#[]⟩ : ByteArray), (0 : Int))), left7, ())).bind fun r11 =>
      bif (blt r11.1.1 (0 : Int)) then some (.inr (.inr ((-1 : Int), ())))
      else some (.inl (a6, r11.1.1, (wr (i8 + (1 : Int))), ())))
    else none)
  else some (.inr (.inl (left7, ())))
def ps42 : List VS := [.val (.row Y1), .val (.int .i64)]
def rs42 : List VS := [.val (.int .i64)]
noncomputable def f42 (x : (List S1) × Int × Unit) : Option ((Int × Unit) × (Unit)) :=
  let a1 := x.1
  let v4 := (wr (x.2.1 - (a1.length : Int)))
  bif (blt v4 (0 : Int)) then some (((-1 : Int), ()), ())
  else (
    (loopF f42_20 (a1, v4, (0 : Int), ())).bind fun y18 => match y18 with
      | .inl z14 => (
        some ((z14.1, ()), ()))
      | .inr z16 => (
        some ((z16.1, ()), ())))
/-! ### loop.example/loom/laws.szInsS -/
def ps43 : List VS := [.val (.row Y2), .val (.int .i64)]
def rs43 : List VS := [.val (.int .i64)]
noncomputable def f43 (x : (List S2) × Int × Unit) : Option ((Int × Unit) × (Unit)) :=
  let v4 := (wr (x.2.1 - (x.1.length : Int)))
  bif (blt v4 (0 : Int)) then some (((-1 : Int), ()), ())
  else some ((v4, ()), ())
/-! ### loop.example/loom/laws.szNamed -/
def ps72 : List VS := [.val Y3, .val (.int .i64)]
def rs72 : List VS := [.val (.int .i64)]
noncomputable def f72 (x : S3 × Int × Unit) : Option ((Int × Unit) × (Unit)) :=
  let v4 := (wr (x.2.1 - (x.1.1.size : Int)))
  bif (blt v4 (0 : Int)) then some (((-1 : Int), ()), ())
  else some ((v4, ()), ())
/-! ### loop.example/loom/laws.szNamedS -/
def sh44_20 : Sh := ⟨[0, 1, 5], [.val (.row Y3), .val (.int .i64), .val (.int .i64)], []⟩
def outs44_20 : List (Ex × Sh) := [((.exit 0), ⟨[1], [.val (.int .i64)], []⟩), (.ret, ⟨[4], [.val (.int .i64)], []⟩)]
noncomputable def f44_20 (x : (List S3) × Int × Int × Unit) : Option (((List S3) × Int × Int × Unit) ⊕ ((Int × Unit) ⊕ (Int × Unit))) :=
  let a6 := x.1
  let left7 := x.2.1
  let i8 := x.2.2.1
  bif (blt i8 (a6.length : Int)) then (
    bif (inR i8 (a6.length : Int)) then (
      (f72 ((a6.getD i8.toNat ((⟨#[]⟩ : ByteArray), (0 : Int), (0 : Int), (0 : Int))), left7, ())).bind fun r11 =>
      bif (blt r11.1.1 (0 : Int)) then some (.inr (.inr ((-1 : Int), ())))
      else some (.inl (a6, r11.1.1, (wr (i8 + (1 : Int))), ())))
    else none)
  else some (.inr (.inl (left7, ())))
def ps44 : List VS := [.val (.row Y3), .val (.int .i64)]
def rs44 : List VS := [.val (.int .i64)]
noncomputable def f44 (x : (List S3) × Int × Unit) : Option ((Int × Unit) × (Unit)) :=
  let a1 := x.1
  let v4 := (wr (x.2.1 - (a1.length : Int)))
  bif (blt v4 (0 : Int)) then some (((-1 : Int), ()), ())
  else (
    (loopF f44_20 (a1, v4, (0 : Int), ())).bind fun y18 => match y18 with
      | .inl z14 => (
        some ((z14.1, ()), ()))
      | .inr z16 => (
        some ((z16.1, ()), ())))
/-! ### loop.example/loom/laws.szProto -/
abbrev S7 := ByteArray × Int × Int × Bool × Int × (List S0) × (List S1) × (List S2) × List S3
def ps17 : List VS := [.val Y4, .val (.int .i64)]
def rs17 : List VS := [.val (.int .i64)]
noncomputable def f17 (x : S7 × Int × Unit) : Option ((Int × Unit) × (Unit)) :=
  let a1 := x.1
  let v4 := (wr (x.2.1 - (a1.1.size : Int)))
  bif (blt v4 (0 : Int)) then some (((-1 : Int), ()), ())
  else (
    (f41 (a1.2.2.2.2.2.1, v4, ())).bind fun r6 =>
    bif (blt r6.1.1 (0 : Int)) then some (((-1 : Int), ()), ())
    else (
      (f42 (a1.2.2.2.2.2.2.1, r6.1.1, ())).bind fun r8 =>
      bif (blt r8.1.1 (0 : Int)) then some (((-1 : Int), ()), ())
      else (
        (f43 (a1.2.2.2.2.2.2.2.1, r8.1.1, ())).bind fun r10 =>
        bif (blt r10.1.1 (0 : Int)) then some (((-1 : Int), ()), ())
        else (
          (f44 (a1.2.2.2.2.2.2.2.2, r10.1.1, ())).bind fun r12 =>
          bif (blt r12.1.1 (0 : Int)) then some (((-1 : Int), ()), ())
          else some ((r12.1.1, ()), ())))))
/-! ### loop.example/loom/laws.szProtoS -/
def sh10_20 : Sh := ⟨[0, 1, 5], [.val (.row Y4), .val (.int .i64), .val (.int .i64)], []⟩
def outs10_20 : List (Ex × Sh) := [((.exit 0), ⟨[1], [.val (.int .i64)], []⟩), (.ret, ⟨[4], [.val (.int .i64)], []⟩)]
noncomputable def f10_20 (x : (List S7) × Int × Int × Unit) : Option (((List S7) × Int × Int × Unit) ⊕ ((Int × Unit) ⊕ (Int × Unit))) :=
  let a6 := x.1
  let left7 := x.2.1
  let i8 := x.2.2.1
  bif (blt i8 (a6.length : Int)) then (
    bif (inR i8 (a6.length : Int)) then (
      (f17 ((a6.getD i8.toNat ((⟨#[]⟩ : ByteArray), (0 : Int), (0 : Int), false, (0 : Int), ([] : List S0), ([] : List S1), ([] : List S2), ([] : List S3))), left7, ())).bind fun r11 =>
      bif (blt r11.1.1 (0 : Int)) then some (.inr (.inr ((-1 : Int), ())))
      else some (.inl (a6, r11.1.1, (wr (i8 + (1 : Int))), ())))
    else none)
  else some (.inr (.inl (left7, ())))
def ps10 : List VS := [.val (.row Y4), .val (.int .i64)]
def rs10 : List VS := [.val (.int .i64)]
noncomputable def f10 (x : (List S7) × Int × Unit) : Option ((Int × Unit) × (Unit)) :=
  let a1 := x.1
  let v4 := (wr (x.2.1 - (a1.length : Int)))
  bif (blt v4 (0 : Int)) then some (((-1 : Int), ()), ())
  else (
    (loopF f10_20 (a1, v4, (0 : Int), ())).bind fun y18 => match y18 with
      | .inl z14 => (
        some ((z14.1, ()), ()))
      | .inr z16 => (
        some ((z16.1, ()), ())))
/-! ### loop.example/loom/laws.szCode -/
abbrev S8 := List S7
def ps4 : List VS := [.val Y5, .val (.int .i64)]
def rs4 : List VS := [.val (.int .i64)]
noncomputable def f4 (x : S8 × Int × Unit) : Option ((Int × Unit) × (Unit)) :=
  (f10 (x.1, x.2.1, ())).bind fun r3 =>
  bif (blt r3.1.1 (0 : Int)) then some (((-1 : Int), ()), ())
  else some ((r3.1.1, ()), ())
/-! ### loop.example/loom/spec.l3fault -/
abbrev S9 := Int × Int × Int
def ps20 : List VS := [.val (.int .i64), .val (.int .i64), .val (.int .i64)]
def rs20 : List VS := [.val Y6]
noncomputable def f20 (x : Int × Int × Int × Unit) : Option ((S9 × Unit) × (Unit)) :=
  some (((x.1, x.2.1, x.2.2.1), ()), ())
/-! ### loop.example/loom/spec.l3in -/
def ps49 : List VS := [.val (.int .i64), .val (.int .i64), .val (.int .i64)]
def rs49 : List VS := [.val .bool]
noncomputable def f49 (x : Int × Int × Int × Unit) : Option ((Bool × Unit) × (Unit)) :=
  let x1 := x.1
  some ((((ble x.2.1 x1) && (ble x1 x.2.2.1)), ()), ())
/-! ### loop.example/loom/spec.l3headOk -/
def ps45 : List VS := [.val Y5, .val (.int .i64)]
def rs45 : List VS := [.val .bool]
noncomputable def f45 (x : S8 × Int × Unit) : Option ((Bool × Unit) × (Unit)) :=
  let c1 := x.1
  let p2 := x.2.1
  bif (inR p2 (c1.length : Int)) then (
    let v3 := (c1.getD p2.toNat ((⟨#[]⟩ : ByteArray), (0 : Int), (0 : Int), false, (0 : Int), ([] : List S0), ([] : List S1), ([] : List S2), ([] : List S3))).2.2.2.2.1
    (joinB (ble ((c1.getD p2.toNat ((⟨#[]⟩ : ByteArray), (0 : Int), (0 : Int), false, (0 : Int), ([] : List S0), ([] : List S1), ([] : List S2), ([] : List S3))).1.size : Int) (40 : Int)) ((f49 ((c1.getD p2.toNat ((⟨#[]⟩ : ByteArray), (0 : Int), (0 : Int), false, (0 : Int), ([] : List S0), ([] : List S1), ([] : List S2), ([] : List S3))).2.1, (0 : Int), (100000 : Int), ())).bind fun r9 => (some r9.1.1)) (some false)).bind fun c10 =>
    (joinB c10 ((f49 ((c1.getD p2.toNat ((⟨#[]⟩ : ByteArray), (0 : Int), (0 : Int), false, (0 : Int), ([] : List S0), ([] : List S1), ([] : List S2), ([] : List S3))).2.2.2.2.1, (0 : Int), (250 : Int), ())).bind fun r11 => (some r11.1.1)) (some false)).bind fun c12 =>
    (joinB c12 ((f49 ((c1.getD p2.toNat ((⟨#[]⟩ : ByteArray), (0 : Int), (0 : Int), false, (0 : Int), ([] : List S0), ([] : List S1), ([] : List S2), ([] : List S3))).2.2.1, (0 : Int), (bif (c1.getD p2.toNat ((⟨#[]⟩ : ByteArray), (0 : Int), (0 : Int), false, (0 : Int), ([] : List S0), ([] : List S1), ([] : List S2), ([] : List S3))).2.2.2.1 then (wr (v3 - (1 : Int))) else v3), ())).bind fun r13 => (some r13.1.1)) (some false)).bind fun c14 =>
    some (((((c14 && (ble ((c1.getD p2.toNat ((⟨#[]⟩ : ByteArray), (0 : Int), (0 : Int), false, (0 : Int), ([] : List S0), ([] : List S1), ([] : List S2), ([] : List S3))).2.2.2.2.2.1.length : Int) (250 : Int))) && (ble ((c1.getD p2.toNat ((⟨#[]⟩ : ByteArray), (0 : Int), (0 : Int), false, (0 : Int), ([] : List S0), ([] : List S1), ([] : List S2), ([] : List S3))).2.2.2.2.2.2.1.length : Int) (500 : Int))) && ((blt (0 : Int) p2) || ((beq (c1.getD p2.toNat ((⟨#[]⟩ : ByteArray), (0 : Int), (0 : Int), false, (0 : Int), ([] : List S0), ([] : List S1), ([] : List S2), ([] : List S3))).2.2.1 (0 : Int)) && (beq ((c1.getD p2.toNat ((⟨#[]⟩ : ByteArray), (0 : Int), (0 : Int), false, (0 : Int), ([] : List S0), ([] : List S1), ([] : List S2), ([] : List S3))).2.2.2.2.2.1.length : Int) (0 : Int))))), ()), ()))
  else none
/-! ### loop.example/loom/spec.l1zero -/
def ps83 : List VS := [.val Y1, .val .bool, .val .bool, .val .bool, .val .bool]
def rs83 : List VS := [.val .bool]
noncomputable def f83 (x : S1 × Bool × Bool × Bool × Bool × Unit) : Option ((Bool × Unit) × (Unit)) :=
  let v1 := x.1
  some ((((((x.2.1 || (beq v1.2.1 (0 : Int))) && (x.2.2.1 || (fOrd v1.2.2.1 (0 : Nat) == some .eq))) && (x.2.2.2.1 || (beqS v1.2.2.2.1 (⟨#[]⟩ : ByteArray)))) && (x.2.2.2.2.1 || (beq v1.2.2.2.2 (0 : Int)))), ()), ())
/-! ### loop.example/loom/spec.ValueOk -/
def ps73 : List VS := [.val Y1]
def rs73 : List VS := [.val .bool]
noncomputable def f73 (x : S1 × Unit) : Option ((Bool × Unit) × (Unit)) :=
  let v1 := x.1
  bif (beq v1.1 (0 : Int)) then (
    (f83 (v1, false, false, false, false, ())).bind fun r3 =>
    some ((r3.1.1, ()), ()))
  else bif (beq v1.1 (1 : Int)) then (
    (f83 (v1, true, false, false, false, ())).bind fun r5 =>
    some (((r5.1.1 && ((beq v1.2.1 (0 : Int)) || (beq v1.2.1 (1 : Int)))), ()), ()))
  else bif (beq v1.1 (2 : Int)) then (
    (f83 (v1, true, false, false, false, ())).bind fun r8 =>
    some ((r8.1.1, ()), ()))
  else bif (beq v1.1 (3 : Int)) then (
    (f83 (v1, false, true, false, false, ())).bind fun r10 =>
    some ((r10.1.1, ()), ()))
  else bif (beq v1.1 (4 : Int)) then (
    (f83 (v1, false, false, true, false, ())).bind fun r12 =>
    some (((r12.1.1 && (ble (v1.2.2.2.1.size : Int) (4000 : Int))), ()), ()))
  else bif ((beq v1.1 (5 : Int)) || ((beq v1.1 (6 : Int)) || (beq v1.1 (7 : Int)))) then (
    (f83 (v1, false, false, false, true, ())).bind fun r16 =>
    some (((r16.1.1 && (ble (0 : Int) v1.2.2.2.2)), ()), ()))
  else bif (beq v1.1 (8 : Int)) then (
    (f83 (v1, true, false, false, false, ())).bind fun r19 =>
    some ((((r19.1.1 && (ble (0 : Int) v1.2.1)) && (blt v1.2.1 (15 : Int))), ()), ()))
  else some ((false, ()), ())
/-! ### loop.example/loom/spec.l3constOk -/
def ps46 : List VS := [.val Y1]
def rs46 : List VS := [.val .bool]
noncomputable def f46 (x : S1 × Unit) : Option ((Bool × Unit) × (Unit)) :=
  let v1 := x.1
  (f73 (v1, ())).bind fun r2 =>
  bif ((((!r2.1.1) || (beq v1.1 (5 : Int))) || (beq v1.1 (6 : Int))) || (beq v1.1 (7 : Int))) then some ((false, ()), ())
  else bif (bne v1.1 (3 : Int)) then (
    (joinB (fOrd v1.2.2.1 (0 : Nat) == some .eq) ((FloatKind.f64.format.div (4607182418800017408 : Nat) v1.2.2.1).bind fun v9 => (some (fOrd v9 (0 : Nat) == some .gt))) (some false)).bind fun c10 =>
    some ((c10, ()), ()))
  else some (((fOrd v1.2.2.1 v1.2.2.1 == some .eq), ()), ())
/-! ### loop.example/loom/spec.l3namedOk -/
def ps47 : List VS := [.val Y4, .val (.int .i64)]
def rs47 : List VS := [.val .bool]
noncomputable def f47 (x : S7 × Int × Unit) : Option ((Bool × Unit) × (Unit)) :=
  let f1 := x.1
  let i2 := x.2.1
  bif (inR i2 (f1.2.2.2.2.2.2.2.2.length : Int)) then (
    (joinB (blt i2 (500 : Int)) ((f49 (((f1.2.2.2.2.2.2.2.2.getD i2.toNat ((⟨#[]⟩ : ByteArray), (0 : Int), (0 : Int), (0 : Int))).1.size : Int), (1 : Int), (40 : Int), ())).bind fun r4 => (some r4.1.1)) (some false)).bind fun c5 =>
    (joinB c5 ((f49 ((f1.2.2.2.2.2.2.2.2.getD i2.toNat ((⟨#[]⟩ : ByteArray), (0 : Int), (0 : Int), (0 : Int))).2.1, (0 : Int), (wr (f1.2.2.2.2.1 - (1 : Int))), ())).bind fun r6 => (some r6.1.1)) (some false)).bind fun c7 =>
    some (((((c7 && (ble (0 : Int) (f1.2.2.2.2.2.2.2.2.getD i2.toNat ((⟨#[]⟩ : ByteArray), (0 : Int), (0 : Int), (0 : Int))).2.2.1)) && (ble (f1.2.2.2.2.2.2.2.2.getD i2.toNat ((⟨#[]⟩ : ByteArray), (0 : Int), (0 : Int), (0 : Int))).2.2.1 (f1.2.2.2.2.2.2.2.2.getD i2.toNat ((⟨#[]⟩ : ByteArray), (0 : Int), (0 : Int), (0 : Int))).2.2.2)) && (ble (f1.2.2.2.2.2.2.2.2.getD i2.toNat ((⟨#[]⟩ : ByteArray), (0 : Int), (0 : Int), (0 : Int))).2.2.2 (f1.2.2.2.2.2.2.2.1.length : Int))), ()), ()))
  else none
/-! ### loop.example/loom/spec.l3roles -/
def ps51 : List VS := [.val (.int .i64)]
def rs51 : List VS := [.own 3 (.int .i64)]
noncomputable def f51 (x : Int × Unit) : Option (((List Int) × Unit) × (Unit)) :=
  let op1 := x.1
  bif (beq op1 (1 : Int)) then (
    some ((([(11 : Int), (0 : Int), (0 : Int), (0 : Int)]), ()), ()))
  else bif (beq op1 (2 : Int)) then (
    some ((([(12 : Int), (0 : Int), (0 : Int), (0 : Int)]), ()), ()))
  else bif ((beq op1 (3 : Int)) || ((beq op1 (32 : Int)) || (beq op1 (36 : Int)))) then (
    some ((([(0 : Int), (0 : Int), (0 : Int), (0 : Int)]), ()), ()))
  else bif (beq op1 (4 : Int)) then (
    some ((([(1 : Int), (7 : Int), (0 : Int), (0 : Int)]), ()), ()))
  else bif ((beq op1 (5 : Int)) || (beq op1 (6 : Int))) then (
    some ((([(1 : Int), (2 : Int), (0 : Int), (0 : Int)]), ()), ()))
  else bif (beq op1 (7 : Int)) then (
    some ((([(1 : Int), (5 : Int), (0 : Int), (0 : Int)]), ()), ()))
  else bif (beq op1 (8 : Int)) then (
    some ((([(5 : Int), (2 : Int), (0 : Int), (0 : Int)]), ()), ()))
  else bif (beq op1 (9 : Int)) then (
    some ((([(1 : Int), (8 : Int), (0 : Int), (0 : Int)]), ()), ()))
  else bif (beq op1 (10 : Int)) then (
    some ((([(8 : Int), (2 : Int), (0 : Int), (0 : Int)]), ()), ()))
  else bif (beq op1 (11 : Int)) then (
    some ((([(1 : Int), (9 : Int), (0 : Int), (0 : Int)]), ()), ()))
  else bif ((beq op1 (12 : Int)) || (beq op1 (22 : Int))) then (
    some ((([(1 : Int), (0 : Int), (0 : Int), (0 : Int)]), ()), ()))
  else bif (beq op1 (13 : Int)) then (
    some ((([(4 : Int), (2 : Int), (2 : Int), (0 : Int)]), ()), ()))
  else bif (beq op1 (14 : Int)) then (
    some ((([(4 : Int), (2 : Int), (3 : Int), (0 : Int)]), ()), ()))
  else bif (beq op1 (15 : Int)) then (
    some ((([(1 : Int), (2 : Int), (2 : Int), (0 : Int)]), ()), ()))
  else bif (beq op1 (16 : Int)) then (
    some ((([(2 : Int), (2 : Int), (2 : Int), (0 : Int)]), ()), ()))
  else bif (beq op1 (17 : Int)) then (
    some ((([(1 : Int), (15 : Int), (2 : Int), (0 : Int)]), ()), ()))
  else bif (beq op1 (18 : Int)) then (
    some ((([(1 : Int), (16 : Int), (2 : Int), (2 : Int)]), ()), ()))
  else bif (beq op1 (19 : Int)) then (
    some ((([(10 : Int), (0 : Int), (0 : Int), (0 : Int)]), ()), ()))
  else bif ((beq op1 (20 : Int)) || (beq op1 (21 : Int))) then (
    some ((([(2 : Int), (10 : Int), (0 : Int), (0 : Int)]), ()), ()))
  else bif (beq op1 (23 : Int)) then (
    some ((([(6 : Int), (2 : Int), (0 : Int), (0 : Int)]), ()), ()))
  else bif (beq op1 (24 : Int)) then (
    some ((([(6 : Int), (3 : Int), (0 : Int), (0 : Int)]), ()), ()))
  else bif (beq op1 (25 : Int)) then (
    some ((([(1 : Int), (3 : Int), (0 : Int), (0 : Int)]), ()), ()))
  else bif (beq op1 (26 : Int)) then (
    some ((([(1 : Int), (6 : Int), (17 : Int), (0 : Int)]), ()), ()))
  else bif (beq op1 (27 : Int)) then (
    some ((([(1 : Int), (6 : Int), (0 : Int), (0 : Int)]), ()), ()))
  else bif (beq op1 (28 : Int)) then (
    some ((([(1 : Int), (2 : Int), (3 : Int), (0 : Int)]), ()), ()))
  else bif (beq op1 (29 : Int)) then (
    some ((([(3 : Int), (0 : Int), (0 : Int), (0 : Int)]), ()), ()))
  else bif (beq op1 (30 : Int)) then (
    some ((([(2 : Int), (0 : Int), (0 : Int), (0 : Int)]), ()), ()))
  else bif (beq op1 (31 : Int)) then (
    some ((([(10 : Int), (14 : Int), (0 : Int), (0 : Int)]), ()), ()))
  else bif ((beq op1 (33 : Int)) || (beq op1 (34 : Int))) then (
    some ((([(13 : Int), (0 : Int), (0 : Int), (0 : Int)]), ()), ()))
  else bif (beq op1 (35 : Int)) then (
    some ((([(2 : Int), (3 : Int), (0 : Int), (0 : Int)]), ()), ()))
  else bif (beq op1 (37 : Int)) then (
    some ((([(18 : Int), (0 : Int), (0 : Int), (0 : Int)]), ()), ()))
  else bif ((beq op1 (38 : Int)) || (beq op1 (39 : Int))) then (
    some ((([(18 : Int), (10 : Int), (0 : Int), (0 : Int)]), ()), ()))
  else bif (beq op1 (40 : Int)) then (
    some ((([(19 : Int), (0 : Int), (0 : Int), (0 : Int)]), ()), ()))
  else bif (beq op1 (41 : Int)) then (
    some ((([(20 : Int), (10 : Int), (1 : Int), (0 : Int)]), ()), ()))
  else bif (beq op1 (42 : Int)) then (
    some ((([(21 : Int), (0 : Int), (0 : Int), (0 : Int)]), ()), ()))
  else some ((([] : List Int), ()), ())
/-! ### loop.example/loom/spec.l3fields -/
def ps52 : List VS := [.val Y2]
def rs52 : List VS := [.own 3 (.int .i64)]
noncomputable def f52 (x : S2 × Unit) : Option (((List Int) × Unit) × (Unit)) :=
  let n1 := x.1
  some ((([n1.2.1, n1.2.2.1, n1.2.2.2.1, n1.2.2.2.2]), ()), ())
/-! ### loop.example/loom/spec.l3fits -/
def ps74 : List VS := [.val Y5, .val (.int .i64), .val (.int .i64), .val (.int .i64)]
def rs74 : List VS := [.val .bool]
noncomputable def f74 (x : S8 × Int × Int × Int × Unit) : Option ((Bool × Unit) × (Unit)) :=
  let c1 := x.1
  let p2 := x.2.1
  let role3 := x.2.2.1
  let x4 := x.2.2.2.1
  bif (inR p2 (c1.length : Int)) then (
    bif (beq role3 (0 : Int)) then some (((beq x4 (0 : Int)), ()), ())
    else bif ((beq role3 (1 : Int)) || ((beq role3 (4 : Int)) || ((beq role3 (5 : Int)) || ((beq role3 (6 : Int)) || (beq role3 (21 : Int)))))) then (
      (f49 (x4, (0 : Int), (wr ((c1.getD p2.toNat ((⟨#[]⟩ : ByteArray), (0 : Int), (0 : Int), false, (0 : Int), ([] : List S0), ([] : List S1), ([] : List S2), ([] : List S3))).2.2.2.2.1 - (1 : Int))), ())).bind fun r11 =>
      some ((r11.1.1, ()), ()))
    else bif ((beq role3 (2 : Int)) || (beq role3 (3 : Int))) then (
      (f49 (x4, (wr (0 - (c1.getD p2.toNat ((⟨#[]⟩ : ByteArray), (0 : Int), (0 : Int), false, (0 : Int), ([] : List S0), ([] : List S1), ([] : List S2), ([] : List S3))).2.2.2.2.1)), (wr ((c1.getD p2.toNat ((⟨#[]⟩ : ByteArray), (0 : Int), (0 : Int), false, (0 : Int), ([] : List S0), ([] : List S1), ([] : List S2), ([] : List S3))).2.2.2.2.1 - (1 : Int))), ())).bind fun r18 =>
      some ((r18.1.1, ()), ()))
    else bif (beq role3 (7 : Int)) then (
      (f49 (x4, (0 : Int), (wr (((c1.getD p2.toNat ((⟨#[]⟩ : ByteArray), (0 : Int), (0 : Int), false, (0 : Int), ([] : List S0), ([] : List S1), ([] : List S2), ([] : List S3))).2.2.2.2.2.2.1.length : Int) - (1 : Int))), ())).bind fun r23 =>
      some ((r23.1.1, ()), ()))
    else bif (beq role3 (8 : Int)) then (
      (f49 (x4, (0 : Int), (wr (((c1.getD p2.toNat ((⟨#[]⟩ : ByteArray), (0 : Int), (0 : Int), false, (0 : Int), ([] : List S0), ([] : List S1), ([] : List S2), ([] : List S3))).2.2.2.2.2.1.length : Int) - (1 : Int))), ())).bind fun r28 =>
      some ((r28.1.1, ()), ()))
    else bif (beq role3 (9 : Int)) then (
      (f49 (x4, (0 : Int), (wr ((c1.length : Int) - (1 : Int))), ())).bind fun r32 =>
      some ((r32.1.1, ()), ()))
    else bif (beq role3 (10 : Int)) then (
      (f49 (x4, (0 : Int), (wr (((c1.getD p2.toNat ((⟨#[]⟩ : ByteArray), (0 : Int), (0 : Int), false, (0 : Int), ([] : List S0), ([] : List S1), ([] : List S2), ([] : List S3))).2.2.2.2.2.2.2.1.length : Int) - (1 : Int))), ())).bind fun r37 =>
      some ((r37.1.1, ()), ()))
    else bif (beq role3 (11 : Int)) then (
      (f49 (x4, (1 : Int), (100000 : Int), ())).bind fun r39 =>
      some ((r39.1.1, ()), ()))
    else bif (beq role3 (12 : Int)) then (
      (f49 (x4, (0 : Int), (100000 : Int), ())).bind fun r41 =>
      some ((r41.1.1, ()), ()))
    else bif (beq role3 (13 : Int)) then (
      (f49 (x4, (0 : Int), (c1.getD p2.toNat ((⟨#[]⟩ : ByteArray), (0 : Int), (0 : Int), false, (0 : Int), ([] : List S0), ([] : List S1), ([] : List S2), ([] : List S3))).2.2.2.2.1, ())).bind fun r44 =>
      some ((r44.1.1, ()), ()))
    else bif (beq role3 (14 : Int)) then (
      (f49 (x4, (0 : Int), (wr ((c1.getD p2.toNat ((⟨#[]⟩ : ByteArray), (0 : Int), (0 : Int), false, (0 : Int), ([] : List S0), ([] : List S1), ([] : List S2), ([] : List S3))).2.2.2.2.1 - (2 : Int))), ())).bind fun r48 =>
      some ((r48.1.1, ()), ()))
    else bif (beq role3 (15 : Int)) then (
      (f49 (x4, (19 : Int), (22 : Int), ())).bind fun r50 =>
      some ((r50.1.1, ()), ()))
    else bif (beq role3 (16 : Int)) then (
      (f49 (x4, (1 : Int), (18 : Int), ())).bind fun r52 =>
      some ((r52.1.1, ()), ()))
    else bif (beq role3 (17 : Int)) then (
      (f49 (x4, (0 : Int), (250 : Int), ())).bind fun r54 =>
      some ((r54.1.1, ()), ()))
    else bif (beq role3 (18 : Int)) then (
      (f49 (x4, (0 : Int), (wr ((c1.getD p2.toNat ((⟨#[]⟩ : ByteArray), (0 : Int), (0 : Int), false, (0 : Int), ([] : List S0), ([] : List S1), ([] : List S2), ([] : List S3))).2.2.2.2.1 - (3 : Int))), ())).bind fun r58 =>
      some ((r58.1.1, ()), ()))
    else (
      (f49 (x4, (0 : Int), (wr ((c1.getD p2.toNat ((⟨#[]⟩ : ByteArray), (0 : Int), (0 : Int), false, (0 : Int), ([] : List S0), ([] : List S1), ([] : List S2), ([] : List S3))).2.2.2.2.1 - (2 : Int))), ())).bind fun r61 =>
      some ((r61.1.1, ()), ())))
  else none
/-! ### loop.example/loom/spec.l3insOk -/
def sh48_24 : Sh := ⟨[1, 2, 3, 7, 8, 28, 29, 30], [.val (.int .i64), .val (.int .i64), .box 31 [.sc Y5], .box 59 [.sc Y2], .own 3 (.int .i64), .own 3 (.int .i64), .val (.int .i64), .val (.int .i64)], []⟩
def outs48_24 : List (Ex × Sh) := [((.exit 0), ⟨[1, 2, 3, 7], [.val (.int .i64), .val (.int .i64), .box 31 [.sc Y5], .box 59 [.sc Y2]], []⟩), (.ret, ⟨[6], [.val .bool], []⟩)]
noncomputable def f48_24 (x : Int × Int × (S8 × Unit) × (S2 × Unit) × (List Int) × (List Int) × Int × Int × Unit) : Option ((Int × Int × (S8 × Unit) × (S2 × Unit) × (List Int) × (List Int) × Int × Int × Unit) ⊕ ((Int × Int × (S8 × Unit) × (S2 × Unit) × Unit) ⊕ (Bool × Unit))) :=
  let p11 := x.1
  let i12 := x.2.1
  let roles13 := x.2.2.2.2.1
  let v14 := x.2.2.2.2.2.1
  let v15 := x.2.2.2.2.2.2.1
  let v16 := x.2.2.2.2.2.2.2.1
  bif (blt v16 v15) then (
    bif (inR v16 (v14.length : Int)) then (
      bif (inR v16 (roles13.length : Int)) then (
        (f74 (x.2.2.1.1, p11, (roles13.getD v16.toNat (0 : Int)), (v14.getD v16.toNat (0 : Int)), ())).bind fun r20 =>
        bif (!r20.1.1) then some (.inr (.inr (false, ())))
        else some (.inl (p11, i12, (x.2.2.1.1, ()), (x.2.2.2.1.1, ()), roles13, v14, v15, (wr (v16 + (1 : Int))), ())))
      else none)
    else none)
  else some (.inr (.inl (p11, i12, (x.2.2.1.1, ()), (x.2.2.2.1.1, ()), ())))
def ps48 : List VS := [.val Y5, .val (.int .i64), .val (.int .i64)]
def rs48 : List VS := [.val .bool]
noncomputable def f48 (x : S8 × Int × Int × Unit) : Option ((Bool × Unit) × (Unit)) :=
  let c1 := x.1
  let p2 := x.2.1
  let i3 := x.2.2.1
  bif (inR p2 (c1.length : Int)) then (
    let v4 := (c1.getD p2.toNat ((⟨#[]⟩ : ByteArray), (0 : Int), (0 : Int), false, (0 : Int), ([] : List S0), ([] : List S1), ([] : List S2), ([] : List S3))).2.2.2.2.2.2.2.1
    bif (inR i3 (v4.length : Int)) then (
      (f51 ((v4.getD i3.toNat ((0 : Int), (0 : Int), (0 : Int), (0 : Int), (0 : Int))).1, ())).bind fun r6 =>
      bif (beq (r6.1.1.length : Int) (0 : Int)) then some ((false, ()), ())
      else (
        (f52 ((v4.getD i3.toNat ((0 : Int), (0 : Int), (0 : Int), (0 : Int), (0 : Int))), ())).bind fun r9 =>
        (loopF f48_24 (p2, i3, (c1, ()), ((v4.getD i3.toNat ((0 : Int), (0 : Int), (0 : Int), (0 : Int), (0 : Int))), ()), r6.1.1, r9.1.1, (r9.1.1.length : Int), (0 : Int), ())).bind fun y36 => match y36 with
          | .inl z23 => (
            let p24 := z23.1
            bif (inR p24 (z23.2.2.1.1.length : Int)) then (
              some ((((((!(beq z23.2.1 (wr (((z23.2.2.1.1.getD p24.toNat ((⟨#[]⟩ : ByteArray), (0 : Int), (0 : Int), false, (0 : Int), ([] : List S0), ([] : List S1), ([] : List S2), ([] : List S3))).2.2.2.2.2.2.2.1.length : Int) - (1 : Int))))) || (beq z23.2.2.2.1.1.1 (19 : Int))) || (beq z23.2.2.2.1.1.1 (29 : Int))) || (beq z23.2.2.2.1.1.1 (30 : Int))), ()), ()))
            else none)
          | .inr z34 => (
            some ((z34.1, ()), ()))))
    else none)
  else none
/-! ### loop.example/loom/spec.l3parts -/
def sh18_12 : Sh := ⟨[1, 2, 3, 18, 19, 20], [.box 31 [.sc Y5], .box 27 [.sc Y6], .val (.int .i64), .val (.row Y4), .val (.int .i64), .val (.int .i64)], []⟩
def outs18_12 : List (Ex × Sh) := [((.exit 0), ⟨[1, 2, 3], [.box 31 [.sc Y5], .box 27 [.sc Y6], .val (.int .i64)], []⟩)]
noncomputable def f18_12 (x : (S8 × Unit) × (S9 × Unit) × Int × (List S7) × Int × Int × Unit) : Option (((S8 × Unit) × (S9 × Unit) × Int × (List S7) × Int × Int × Unit) ⊕ ((S8 × Unit) × (S9 × Unit) × Int × Unit)) :=
  let r3 := x.2.2.1
  let v4 := x.2.2.2.1
  let v5 := x.2.2.2.2.1
  let v6 := x.2.2.2.2.2.1
  bif (blt v6 v5) then (
    bif (inR v6 (v4.length : Int)) then (
      some (.inl ((x.1.1, ()), (x.2.1.1, ()), (wr (r3 + ((v4.getD v6.toNat ((⟨#[]⟩ : ByteArray), (0 : Int), (0 : Int), false, (0 : Int), ([] : List S0), ([] : List S1), ([] : List S2), ([] : List S3))).2.2.2.2.2.2.2.1.length : Int))), v4, v5, (wr (v6 + (1 : Int))), ())))
    else none)
  else some (.inr ((x.1.1, ()), (x.2.1.1, ()), r3, ()))
def sh18_40 : Sh := ⟨[1, 2, 47, 48], [.box 31 [.sc Y5], .box 27 [.sc Y6], .val (.int .i64), .val (.int .i64)], []⟩
def outs18_40 : List (Ex × Sh) := [((.exit 2), ⟨[1, 2], [.box 31 [.sc Y5], .box 27 [.sc Y6]], []⟩), (.ret, ⟨[2], [.box 27 [.sc Y6]], []⟩)]
noncomputable def f18_40 (x : (S8 × Unit) × (S9 × Unit) × Int × Int × Unit) : Option (((S8 × Unit) × (S9 × Unit) × Int × Int × Unit) ⊕ (((S8 × Unit) × (S9 × Unit) × Unit) ⊕ ((S9 × Unit) × Unit))) :=
  let v20 := x.2.2.1
  let v21 := x.2.2.2.1
  bif (blt v21 v20) then (
    (f45 (x.1.1, v21, ())).bind fun r23 =>
    bif (!r23.1.1) then (
      (f20 ((2 : Int), v21, (0 : Int), ())).bind fun r25 =>
      some (.inr (.inr ((r25.1.1, ()), ()))))
    else some (.inl ((x.1.1, ()), (x.2.1.1, ()), v20, (wr (v21 + (1 : Int))), ())))
  else some (.inr (.inl ((x.1.1, ()), (x.2.1.1, ()), ())))
def sh18_76 : Sh := ⟨[1, 2, 7, 59, 60, 61, 67, 68, 69], [.box 31 [.sc Y5], .box 27 [.sc Y6], .val (.int .i64), .val (.row Y4), .val (.int .i64), .val (.int .i64), .val (.row Y1), .val (.int .i64), .val (.int .i64)], []⟩
def outs18_76 : List (Ex × Sh) := [((.exit 6), ⟨[1, 2, 59, 60, 61], [.box 31 [.sc Y5], .box 27 [.sc Y6], .val (.row Y4), .val (.int .i64), .val (.int .i64)], []⟩), (.ret, ⟨[2], [.box 27 [.sc Y6]], []⟩)]
noncomputable def f18_76 (x : (S8 × Unit) × (S9 × Unit) × Int × (List S7) × Int × Int × (List S1) × Int × Int × Unit) : Option (((S8 × Unit) × (S9 × Unit) × Int × (List S7) × Int × Int × (List S1) × Int × Int × Unit) ⊕ (((S8 × Unit) × (S9 × Unit) × (List S7) × Int × Int × Unit) ⊕ ((S9 × Unit) × Unit))) :=
  let v35 := x.2.2.1
  let v36 := x.2.2.2.1
  let v37 := x.2.2.2.2.1
  let v38 := x.2.2.2.2.2.1
  let v39 := x.2.2.2.2.2.2.1
  let v40 := x.2.2.2.2.2.2.2.1
  let v41 := x.2.2.2.2.2.2.2.2.1
  bif (blt v41 v40) then (
    bif (inR v41 (v39.length : Int)) then (
      (f46 ((v39.getD v41.toNat ((0 : Int), (0 : Int), (0 : Nat), (⟨#[]⟩ : ByteArray), (0 : Int))), ())).bind fun r43 =>
      bif (!r43.1.1) then (
        (f20 ((3 : Int), v35, v41, ())).bind fun r45 =>
        some (.inr (.inr ((r45.1.1, ()), ()))))
      else some (.inl ((x.1.1, ()), (x.2.1.1, ()), v35, v36, v37, v38, v39, v40, (wr (v41 + (1 : Int))), ())))
    else none)
  else some (.inr (.inl ((x.1.1, ()), (x.2.1.1, ()), v36, v37, v38, ())))
def sh18_64 : Sh := ⟨[1, 2, 59, 60, 61], [.box 31 [.sc Y5], .box 27 [.sc Y6], .val (.row Y4), .val (.int .i64), .val (.int .i64)], []⟩
def outs18_64 : List (Ex × Sh) := [((.exit 4), ⟨[1, 2], [.box 31 [.sc Y5], .box 27 [.sc Y6]], []⟩), (.ret, ⟨[2], [.box 27 [.sc Y6]], []⟩)]
noncomputable def f18_64 (x : (S8 × Unit) × (S9 × Unit) × (List S7) × Int × Int × Unit) : Option (((S8 × Unit) × (S9 × Unit) × (List S7) × Int × Int × Unit) ⊕ (((S8 × Unit) × (S9 × Unit) × Unit) ⊕ ((S9 × Unit) × Unit))) :=
  let v29 := x.2.2.1
  let v30 := x.2.2.2.1
  let v31 := x.2.2.2.2.1
  bif (blt v31 v30) then (
    bif (inR v31 (v29.length : Int)) then (
      let v33 := (v29.getD v31.toNat ((⟨#[]⟩ : ByteArray), (0 : Int), (0 : Int), false, (0 : Int), ([] : List S0), ([] : List S1), ([] : List S2), ([] : List S3))).2.2.2.2.2.2.1
      (loopF f18_76 ((x.1.1, ()), (x.2.1.1, ()), v31, v29, v30, v31, v33, (v33.length : Int), (0 : Int), ())).bind fun y53 => match y53 with
        | .inl z47 => (
          some (.inl ((z47.1.1, ()), (z47.2.1.1, ()), z47.2.2.1, z47.2.2.2.1, (wr (z47.2.2.2.2.1 + (1 : Int))), ())))
        | .inr z52 => (
          some (.inr (.inr ((z52.1.1, ()), ())))))
    else none)
  else some (.inr (.inl ((x.1.1, ()), (x.2.1.1, ()), ())))
def sh18_116 : Sh := ⟨[1, 2, 11, 12, 83, 84, 85, 92, 93], [.box 31 [.sc Y5], .box 27 [.sc Y6], .val (.int .i64), .box 57 [.sc Y4], .val (.row Y4), .val (.int .i64), .val (.int .i64), .val (.int .i64), .val (.int .i64)], []⟩
def outs18_116 : List (Ex × Sh) := [((.exit 10), ⟨[1, 2, 83, 84, 85], [.box 31 [.sc Y5], .box 27 [.sc Y6], .val (.row Y4), .val (.int .i64), .val (.int .i64)], []⟩), (.ret, ⟨[2], [.box 27 [.sc Y6]], []⟩)]
noncomputable def f18_116 (x : (S8 × Unit) × (S9 × Unit) × Int × (S7 × Unit) × (List S7) × Int × Int × Int × Int × Unit) : Option (((S8 × Unit) × (S9 × Unit) × Int × (S7 × Unit) × (List S7) × Int × Int × Int × Int × Unit) ⊕ (((S8 × Unit) × (S9 × Unit) × (List S7) × Int × Int × Unit) ⊕ ((S9 × Unit) × Unit))) :=
  let v62 := x.2.2.1
  let v63 := x.2.2.2.2.1
  let v64 := x.2.2.2.2.2.1
  let v65 := x.2.2.2.2.2.2.1
  let v66 := x.2.2.2.2.2.2.2.1
  let v67 := x.2.2.2.2.2.2.2.2.1
  bif (blt v67 v66) then (
    (f47 (x.2.2.2.1.1, v67, ())).bind fun r69 =>
    bif (!r69.1.1) then (
      (f20 ((4 : Int), v62, v67, ())).bind fun r71 =>
      some (.inr (.inr ((r71.1.1, ()), ()))))
    else some (.inl ((x.1.1, ()), (x.2.1.1, ()), v62, (x.2.2.2.1.1, ()), v63, v64, v65, v66, (wr (v67 + (1 : Int))), ())))
  else some (.inr (.inl ((x.1.1, ()), (x.2.1.1, ()), v63, v64, v65, ())))
def sh18_104 : Sh := ⟨[1, 2, 83, 84, 85], [.box 31 [.sc Y5], .box 27 [.sc Y6], .val (.row Y4), .val (.int .i64), .val (.int .i64)], []⟩
def outs18_104 : List (Ex × Sh) := [((.exit 8), ⟨[1, 2], [.box 31 [.sc Y5], .box 27 [.sc Y6]], []⟩), (.ret, ⟨[2], [.box 27 [.sc Y6]], []⟩)]
noncomputable def f18_104 (x : (S8 × Unit) × (S9 × Unit) × (List S7) × Int × Int × Unit) : Option (((S8 × Unit) × (S9 × Unit) × (List S7) × Int × Int × Unit) ⊕ (((S8 × Unit) × (S9 × Unit) × Unit) ⊕ ((S9 × Unit) × Unit))) :=
  let v56 := x.2.2.1
  let v57 := x.2.2.2.1
  let v58 := x.2.2.2.2.1
  bif (blt v58 v57) then (
    bif (inR v58 (v56.length : Int)) then (
      (loopF f18_116 ((x.1.1, ()), (x.2.1.1, ()), v58, ((v56.getD v58.toNat ((⟨#[]⟩ : ByteArray), (0 : Int), (0 : Int), false, (0 : Int), ([] : List S0), ([] : List S1), ([] : List S2), ([] : List S3))), ()), v56, v57, v58, ((v56.getD v58.toNat ((⟨#[]⟩ : ByteArray), (0 : Int), (0 : Int), false, (0 : Int), ([] : List S0), ([] : List S1), ([] : List S2), ([] : List S3))).2.2.2.2.2.2.2.2.length : Int), (0 : Int), ())).bind fun y79 => match y79 with
        | .inl z73 => (
          some (.inl ((z73.1.1, ()), (z73.2.1.1, ()), z73.2.2.1, z73.2.2.2.1, (wr (z73.2.2.2.2.1 + (1 : Int))), ())))
        | .inr z78 => (
          some (.inr (.inr ((z78.1.1, ()), ())))))
    else none)
  else some (.inr (.inl ((x.1.1, ()), (x.2.1.1, ()), ())))
def sh18_164 : Sh := ⟨[1, 2, 14, 106, 107, 108, 121, 122], [.box 31 [.sc Y5], .box 27 [.sc Y6], .val (.int .i64), .val (.row Y4), .val (.int .i64), .val (.int .i64), .val (.int .i64), .val (.int .i64)], []⟩
def outs18_164 : List (Ex × Sh) := [((.exit 14), ⟨[1, 2, 106, 107, 108], [.box 31 [.sc Y5], .box 27 [.sc Y6], .val (.row Y4), .val (.int .i64), .val (.int .i64)], []⟩), (.ret, ⟨[2], [.box 27 [.sc Y6]], []⟩)]
noncomputable def f18_164 (x : (S8 × Unit) × (S9 × Unit) × Int × (List S7) × Int × Int × Int × Int × Unit) : Option (((S8 × Unit) × (S9 × Unit) × Int × (List S7) × Int × Int × Int × Int × Unit) ⊕ (((S8 × Unit) × (S9 × Unit) × (List S7) × Int × Int × Unit) ⊕ ((S9 × Unit) × Unit))) :=
  let v92 := x.2.2.1
  let v93 := x.2.2.2.1
  let v94 := x.2.2.2.2.1
  let v95 := x.2.2.2.2.2.1
  let v96 := x.2.2.2.2.2.2.1
  let v97 := x.2.2.2.2.2.2.2.1
  bif (blt v97 v96) then (
    (f48 (x.1.1, v92, v97, ())).bind fun r99 =>
    bif (!r99.1.1) then (
      (f20 ((5 : Int), v92, v97, ())).bind fun r101 =>
      some (.inr (.inr ((r101.1.1, ()), ()))))
    else some (.inl ((x.1.1, ()), (x.2.1.1, ()), v92, v93, v94, v95, v96, (wr (v97 + (1 : Int))), ())))
  else some (.inr (.inl ((x.1.1, ()), (x.2.1.1, ()), v93, v94, v95, ())))
def sh18_144 : Sh := ⟨[1, 2, 106, 107, 108], [.box 31 [.sc Y5], .box 27 [.sc Y6], .val (.row Y4), .val (.int .i64), .val (.int .i64)], []⟩
def outs18_144 : List (Ex × Sh) := [((.exit 12), ⟨[2], [.box 27 [.sc Y6]], []⟩), (.ret, ⟨[2], [.box 27 [.sc Y6]], []⟩)]
noncomputable def f18_144 (x : (S8 × Unit) × (S9 × Unit) × (List S7) × Int × Int × Unit) : Option (((S8 × Unit) × (S9 × Unit) × (List S7) × Int × Int × Unit) ⊕ (((S9 × Unit) × Unit) ⊕ ((S9 × Unit) × Unit))) :=
  let v82 := x.2.2.1
  let v83 := x.2.2.2.1
  let v84 := x.2.2.2.2.1
  bif (blt v84 v83) then (
    bif (inR v84 (v82.length : Int)) then (
      bif (beq ((v82.getD v84.toNat ((⟨#[]⟩ : ByteArray), (0 : Int), (0 : Int), false, (0 : Int), ([] : List S0), ([] : List S1), ([] : List S2), ([] : List S3))).2.2.2.2.2.2.2.1.length : Int) (0 : Int)) then (
        (f20 ((5 : Int), v84, (0 : Int), ())).bind fun r89 =>
        some (.inr (.inr ((r89.1.1, ()), ()))))
      else (
        (loopF f18_164 ((x.1.1, ()), (x.2.1.1, ()), v84, v82, v83, v84, ((v82.getD v84.toNat ((⟨#[]⟩ : ByteArray), (0 : Int), (0 : Int), false, (0 : Int), ([] : List S0), ([] : List S1), ([] : List S2), ([] : List S3))).2.2.2.2.2.2.2.1.length : Int), (0 : Int), ())).bind fun y109 => match y109 with
          | .inl z103 => (
            some (.inl ((z103.1.1, ()), (z103.2.1.1, ()), z103.2.2.1, z103.2.2.2.1, (wr (z103.2.2.2.2.1 + (1 : Int))), ())))
          | .inr z108 => (
            some (.inr (.inr ((z108.1.1, ()), ()))))))
    else none)
  else some (.inr (.inl ((x.2.1.1, ()), ())))
def ps18 : List VS := [.val Y5]
def rs18 : List VS := [.val Y6]
noncomputable def f18 (x : S8 × Unit) : Option ((S9 × Unit) × (Unit)) :=
  let t1 := x.1
  (loopF f18_12 ((t1, ()), (((0 : Int), (0 : Int), (0 : Int)), ()), (0 : Int), t1, (t1.length : Int), (0 : Int), ())).bind fun z12 =>
  bif (((beq (z12.1.1.length : Int) (0 : Int)) || (blt (200 : Int) (z12.1.1.length : Int))) || (blt (6000 : Int) z12.2.2.1)) then (
    (f20 ((1 : Int), (0 : Int), (0 : Int), ())).bind fun r18 =>
    some ((r18.1.1, ()), ()))
  else (
    (loopF f18_40 ((z12.1.1, ()), (z12.2.1.1, ()), (z12.1.1.length : Int), (0 : Int), ())).bind fun y118 => match y118 with
      | .inl z27 => (
        (loopF f18_64 ((z27.1.1, ()), (z27.2.1.1, ()), z27.1.1, (z27.1.1.length : Int), (0 : Int), ())).bind fun y116 => match y116 with
          | .inl z54 => (
            (loopF f18_104 ((z54.1.1, ()), (z54.2.1.1, ()), z54.1.1, (z54.1.1.length : Int), (0 : Int), ())).bind fun y114 => match y114 with
              | .inl z80 => (
                (loopF f18_144 ((z80.1.1, ()), (z80.2.1.1, ()), z80.1.1, (z80.1.1.length : Int), (0 : Int), ())).bind fun y112 => match y112 with
                  | .inl _ => (
                    some ((((0 : Int), (0 : Int), (0 : Int)), ()), ()))
                  | .inr z111 => (
                    some ((z111.1.1, ()), ())))
              | .inr z113 => (
                some ((z113.1.1, ()), ())))
          | .inr z115 => (
            some ((z115.1.1, ()), ())))
      | .inr z117 => (
        some ((z117.1.1, ()), ())))
/-! ### loop.example/loom/spec.l3upsOk -/
def sh19_8 : Sh := ⟨[1, 3, 14, 15, 16], [.val (.int .i64), .box 31 [.sc Y5], .val (.row Y0), .val (.int .i64), .val (.int .i64)], []⟩
def outs19_8 : List (Ex × Sh) := [((.exit 0), ⟨[], [], []⟩), (.ret, ⟨[6], [.val .bool], []⟩)]
noncomputable def f19_8 (x : Int × (S8 × Unit) × (List S0) × Int × Int × Unit) : Option ((Int × (S8 × Unit) × (List S0) × Int × Int × Unit) ⊕ ((Unit) ⊕ (Bool × Unit))) :=
  let p6 := x.1
  let v7 := x.2.2.1
  let v8 := x.2.2.2.1
  let v9 := x.2.2.2.2.1
  bif (blt v9 v8) then (
    bif (inR v9 (v7.length : Int)) then (
      bif (v7.getD v9.toNat (false, (0 : Int))).1 then (
        bif (inR p6 (x.2.1.1.length : Int)) then (
          (f49 ((v7.getD v9.toNat (false, (0 : Int))).2, (0 : Int), (wr ((x.2.1.1.getD p6.toNat ((⟨#[]⟩ : ByteArray), (0 : Int), (0 : Int), false, (0 : Int), ([] : List S0), ([] : List S1), ([] : List S2), ([] : List S3))).2.2.2.2.1 - (1 : Int))), ())).bind fun r15 =>
          bif (!r15.1.1) then some (.inr (.inr (false, ())))
          else bif (!(v7.getD v9.toNat (false, (0 : Int))).1) then (
            bif (inR p6 (x.2.1.1.length : Int)) then (
              (f49 ((v7.getD v9.toNat (false, (0 : Int))).2, (0 : Int), (wr (((x.2.1.1.getD p6.toNat ((⟨#[]⟩ : ByteArray), (0 : Int), (0 : Int), false, (0 : Int), ([] : List S0), ([] : List S1), ([] : List S2), ([] : List S3))).2.2.2.2.2.1.length : Int) - (1 : Int))), ())).bind fun r23 =>
              bif (!r23.1.1) then some (.inr (.inr (false, ())))
              else some (.inl (p6, (x.2.1.1, ()), v7, v8, (wr (v9 + (1 : Int))), ())))
            else none)
          else some (.inl (p6, (x.2.1.1, ()), v7, v8, (wr (v9 + (1 : Int))), ())))
        else none)
      else bif (!(v7.getD v9.toNat (false, (0 : Int))).1) then (
        bif (inR p6 (x.2.1.1.length : Int)) then (
          (f49 ((v7.getD v9.toNat (false, (0 : Int))).2, (0 : Int), (wr (((x.2.1.1.getD p6.toNat ((⟨#[]⟩ : ByteArray), (0 : Int), (0 : Int), false, (0 : Int), ([] : List S0), ([] : List S1), ([] : List S2), ([] : List S3))).2.2.2.2.2.1.length : Int) - (1 : Int))), ())).bind fun r33 =>
          bif (!r33.1.1) then some (.inr (.inr (false, ())))
          else some (.inl (p6, (x.2.1.1, ()), v7, v8, (wr (v9 + (1 : Int))), ())))
        else none)
      else some (.inl (p6, (x.2.1.1, ()), v7, v8, (wr (v9 + (1 : Int))), ())))
    else none)
  else some (.inr (.inl ()))
def ps19 : List VS := [.val Y5, .val (.int .i64), .val (.int .i64)]
def rs19 : List VS := [.val .bool]
noncomputable def f19 (x : S8 × Int × Int × Unit) : Option ((Bool × Unit) × (Unit)) :=
  let c1 := x.1
  let g3 := x.2.2.1
  bif (inR g3 (c1.length : Int)) then (
    let v4 := (c1.getD g3.toNat ((⟨#[]⟩ : ByteArray), (0 : Int), (0 : Int), false, (0 : Int), ([] : List S0), ([] : List S1), ([] : List S2), ([] : List S3))).2.2.2.2.2.1
    (loopF f19_8 (x.2.1, (c1, ()), v4, (v4.length : Int), (0 : Int), ())).bind fun y40 => match y40 with
      | .inl _ => (
        some ((true, ()), ()))
      | .inr z38 => (
        some ((z38.1, ()), ())))
  else none
/-! ### loop.example/loom/spec.CheckShape -/
def sh11_36 : Sh := ⟨[1, 2, 4, 5, 21, 22, 23, 29, 30, 31], [.box 31 [.sc Y5], .box 27 [.sc Y6], .own 4 .bool, .val (.int .i64), .val (.row Y4), .val (.int .i64), .val (.int .i64), .val (.row Y2), .val (.int .i64), .val (.int .i64)], []⟩
def outs11_36 : List (Ex × Sh) := [((.exit 2), ⟨[1, 2, 4, 21, 22, 23], [.box 31 [.sc Y5], .box 27 [.sc Y6], .own 4 .bool, .val (.row Y4), .val (.int .i64), .val (.int .i64)], []⟩), (.ret, ⟨[2], [.box 27 [.sc Y6]], []⟩)]
noncomputable def f11_36 (x : (S8 × Unit) × (S9 × Unit) × (List Bool) × Int × (List S7) × Int × Int × (List S2) × Int × Int × Unit) : Option (((S8 × Unit) × (S9 × Unit) × (List Bool) × Int × (List S7) × Int × Int × (List S2) × Int × Int × Unit) ⊕ (((S8 × Unit) × (S9 × Unit) × (List Bool) × (List S7) × Int × Int × Unit) ⊕ ((S9 × Unit) × Unit))) :=
  let made14 := x.2.2.1
  let p15 := x.2.2.2.1
  let v16 := x.2.2.2.2.1
  let v17 := x.2.2.2.2.2.1
  let v18 := x.2.2.2.2.2.2.1
  let v19 := x.2.2.2.2.2.2.2.1
  let v20 := x.2.2.2.2.2.2.2.2.1
  let v21 := x.2.2.2.2.2.2.2.2.2.1
  bif (blt v21 v20) then (
    bif (inR v21 (v19.length : Int)) then (
      bif (bne (v19.getD v21.toNat ((0 : Int), (0 : Int), (0 : Int), (0 : Int), (0 : Int))).1 (11 : Int)) then (
        some (.inl ((x.1.1, ()), (x.2.1.1, ()), made14, p15, v16, v17, v18, v19, v20, (wr (v21 + (1 : Int))), ())))
      else (
        (joinB (ble (v19.getD v21.toNat ((0 : Int), (0 : Int), (0 : Int), (0 : Int), (0 : Int))).2.2.1 p15) (some true) (bif (inR (v19.getD v21.toNat ((0 : Int), (0 : Int), (0 : Int), (0 : Int), (0 : Int))).2.2.1 (made14.length : Int)) then (some (made14.getD (v19.getD v21.toNat ((0 : Int), (0 : Int), (0 : Int), (0 : Int), (0 : Int))).2.2.1.toNat false)) else none)).bind fun c28 =>
        (joinB c28 (some true) ((f19 (x.1.1, p15, (v19.getD v21.toNat ((0 : Int), (0 : Int), (0 : Int), (0 : Int), (0 : Int))).2.2.1, ())).bind fun r29 => (some (!r29.1.1)))).bind fun c30 =>
        bif c30 then (
          (f20 ((6 : Int), p15, v21, ())).bind fun r31 =>
          some (.inr (.inr ((r31.1.1, ()), ()))))
        else (
          let v32 := (v19.getD v21.toNat ((0 : Int), (0 : Int), (0 : Int), (0 : Int), (0 : Int))).2.2.1
          bif (inR v32 (made14.length : Int)) then (
            some (.inl ((x.1.1, ()), (x.2.1.1, ()), (made14.set v32.toNat true), p15, v16, v17, v18, v19, v20, (wr (v21 + (1 : Int))), ())))
          else none)))
    else none)
  else some (.inr (.inl ((x.1.1, ()), (x.2.1.1, ()), made14, v16, v17, v18, ())))
def sh11_24 : Sh := ⟨[1, 2, 4, 21, 22, 23], [.box 31 [.sc Y5], .box 27 [.sc Y6], .own 4 .bool, .val (.row Y4), .val (.int .i64), .val (.int .i64)], []⟩
def outs11_24 : List (Ex × Sh) := [((.exit 0), ⟨[1, 2, 4], [.box 31 [.sc Y5], .box 27 [.sc Y6], .own 4 .bool], []⟩), (.ret, ⟨[2], [.box 27 [.sc Y6]], []⟩)]
noncomputable def f11_24 (x : (S8 × Unit) × (S9 × Unit) × (List Bool) × (List S7) × Int × Int × Unit) : Option (((S8 × Unit) × (S9 × Unit) × (List Bool) × (List S7) × Int × Int × Unit) ⊕ (((S8 × Unit) × (S9 × Unit) × (List Bool) × Unit) ⊕ ((S9 × Unit) × Unit))) :=
  let made7 := x.2.2.1
  let v8 := x.2.2.2.1
  let v9 := x.2.2.2.2.1
  let v10 := x.2.2.2.2.2.1
  bif (blt v10 v9) then (
    bif (inR v10 (v8.length : Int)) then (
      let v12 := (v8.getD v10.toNat ((⟨#[]⟩ : ByteArray), (0 : Int), (0 : Int), false, (0 : Int), ([] : List S0), ([] : List S1), ([] : List S2), ([] : List S3))).2.2.2.2.2.2.2.1
      (loopF f11_36 ((x.1.1, ()), (x.2.1.1, ()), made7, v10, v8, v9, v10, v12, (v12.length : Int), (0 : Int), ())).bind fun y42 => match y42 with
        | .inl z35 => (
          some (.inl ((z35.1.1, ()), (z35.2.1.1, ()), z35.2.2.1, z35.2.2.2.1, z35.2.2.2.2.1, (wr (z35.2.2.2.2.2.1 + (1 : Int))), ())))
        | .inr z41 => (
          some (.inr (.inr ((z41.1.1, ()), ())))))
    else none)
  else some (.inr (.inl ((x.1.1, ()), (x.2.1.1, ()), made7, ())))
def sh11_72 : Sh := ⟨[1, 2, 4, 9], [.box 31 [.sc Y5], .box 27 [.sc Y6], .own 4 .bool, .val (.int .i64)], []⟩
def outs11_72 : List (Ex × Sh) := [((.exit 4), ⟨[2], [.box 27 [.sc Y6]], []⟩), (.ret, ⟨[2], [.box 27 [.sc Y6]], []⟩)]
noncomputable def f11_72 (x : (S8 × Unit) × (S9 × Unit) × (List Bool) × Int × Unit) : Option (((S8 × Unit) × (S9 × Unit) × (List Bool) × Int × Unit) ⊕ (((S9 × Unit) × Unit) ⊕ ((S9 × Unit) × Unit))) :=
  let made45 := x.2.2.1
  let p46 := x.2.2.2.1
  bif (blt p46 (x.1.1.length : Int)) then (
    bif (inR p46 (made45.length : Int)) then (
      bif (!(made45.getD p46.toNat false)) then (
        (f20 ((7 : Int), p46, (0 : Int), ())).bind fun r51 =>
        some (.inr (.inr ((r51.1.1, ()), ()))))
      else some (.inl ((x.1.1, ()), (x.2.1.1, ()), made45, (wr (p46 + (1 : Int))), ())))
    else none)
  else some (.inr (.inl ((x.2.1.1, ()), ())))
def ps11 : List VS := [.val Y5]
def rs11 : List VS := [.val Y6]
noncomputable def f11 (x : S8 × Unit) : Option ((S9 × Unit) × (Unit)) :=
  let c1 := x.1
  (f18 (c1, ())).bind fun r2 =>
  bif (bne r2.1.1.1 (0 : Int)) then some ((r2.1.1, ()), ())
  else (
    let v4 := (c1.length : Int)
    bif (inE v4 ((281474976710656 : Nat) : Int)) then (
      (loopF f11_24 ((c1, ()), (((0 : Int), (0 : Int), (0 : Int)), ()), (List.replicate v4.toNat false), c1, (c1.length : Int), (0 : Int), ())).bind fun y57 => match y57 with
        | .inl z43 => (
          (loopF f11_72 ((z43.1.1, ()), (z43.2.1.1, ()), z43.2.2.1, (1 : Int), ())).bind fun y55 => match y55 with
            | .inl _ => (
              some ((((0 : Int), (0 : Int), (0 : Int)), ()), ()))
            | .inr z54 => (
              some ((z54.1.1, ()), ())))
        | .inr z56 => (
          some ((z56.1.1, ()), ())))
    else none)
/-! ### loop.example/loom/spec.l3silent -/
def ps50 : List VS := [.val Y4, .val (.int .i64)]
def rs50 : List VS := [.own 3 (.int .i64)]
noncomputable def f50 (x : S7 × Int × Unit) : Option (((List Int) × Unit) × (Unit)) :=
  let f1 := x.1
  let at2 := x.2.1
  bif (inR at2 (f1.2.2.2.2.2.2.2.1.length : Int)) then (
    let v3 := (f1.2.2.2.2.2.2.2.1.getD at2.toNat ((0 : Int), (0 : Int), (0 : Int), (0 : Int), (0 : Int))).1
    bif ((beq v3 (1 : Int)) || ((beq v3 (3 : Int)) || ((beq v3 (28 : Int)) || ((beq v3 (29 : Int)) || (beq v3 (30 : Int)))))) then some ((([] : List Int), ()), ())
    else bif (beq v3 (18 : Int)) then (
      bif (beq (f1.2.2.2.2.2.2.2.1.getD at2.toNat ((0 : Int), (0 : Int), (0 : Int), (0 : Int), (0 : Int))).2.2.1 (12 : Int)) then some ((([] : List Int), ()), ())
      else (
        let v9 := (wr (at2 + (1 : Int)))
        bif (nle (([] : List Int).length + ([v9]).length) 17592186044416) then some (((([] : List Int) ++ ([v9])), ()), ())
        else none))
    else bif (beq v3 (19 : Int)) then (
      let v13 := (f1.2.2.2.2.2.2.2.1.getD at2.toNat ((0 : Int), (0 : Int), (0 : Int), (0 : Int), (0 : Int))).2.1
      bif (nle (([] : List Int).length + ([v13]).length) 17592186044416) then some (((([] : List Int) ++ ([v13])), ()), ())
      else none)
    else bif (beq v3 (41 : Int)) then (
      let v17 := (f1.2.2.2.2.2.2.2.1.getD at2.toNat ((0 : Int), (0 : Int), (0 : Int), (0 : Int), (0 : Int))).2.2.1
      bif (nle (([] : List Int).length + ([v17]).length) 17592186044416) then some (((([] : List Int) ++ ([v17])), ()), ())
      else none)
    else bif ((beq v3 (20 : Int)) || ((beq v3 (21 : Int)) || ((beq v3 (38 : Int)) || (beq v3 (39 : Int))))) then (
      let v22 := (f1.2.2.2.2.2.2.2.1.getD at2.toNat ((0 : Int), (0 : Int), (0 : Int), (0 : Int), (0 : Int))).2.2.1
      bif (nle (([] : List Int).length + ([v22]).length) 17592186044416) then (
        let row24 := (([] : List Int) ++ ([v22]))
        let v25 := (wr (at2 + (1 : Int)))
        bif (nle (row24.length + ([v25]).length) 17592186044416) then some (((row24 ++ ([v25])), ()), ())
        else none)
      else none)
    else bif (beq v3 (31 : Int)) then (
      let v29 := (f1.2.2.2.2.2.2.2.1.getD at2.toNat ((0 : Int), (0 : Int), (0 : Int), (0 : Int), (0 : Int))).2.1
      bif (nle (([] : List Int).length + ([v29]).length) 17592186044416) then (
        let row31 := (([] : List Int) ++ ([v29]))
        let v32 := (wr (at2 + (1 : Int)))
        bif (nle (row31.length + ([v32]).length) 17592186044416) then some (((row31 ++ ([v32])), ()), ())
        else none)
      else none)
    else (
      let v35 := (wr (at2 + (1 : Int)))
      bif (nle (([] : List Int).length + ([v35]).length) 17592186044416) then some (((([] : List Int) ++ ([v35])), ()), ())
      else none))
  else none
/-! ### loop.example/loom/spec.l3round -/
def sh21_48 : Sh := ⟨[1, 2, 5, 6, 7, 41, 42, 43], [.val (.int .i64), .box 57 [.sc Y4], .own 4 .bool, .own 3 (.int .i64), .val (.int .i64), .own 3 (.int .i64), .val (.int .i64), .val (.int .i64)], []⟩
def outs21_48 : List (Ex × Sh) := [((.exit 2), ⟨[1, 2, 5, 6, 7], [.val (.int .i64), .box 57 [.sc Y4], .own 4 .bool, .own 3 (.int .i64), .val (.int .i64)], []⟩)]
noncomputable def f21_48 (x : Int × (S7 × Unit) × (List Bool) × (List Int) × Int × (List Int) × Int × Int × Unit) : Option ((Int × (S7 × Unit) × (List Bool) × (List Int) × Int × (List Int) × Int × Int × Unit) ⊕ (Int × (S7 × Unit) × (List Bool) × (List Int) × Int × Unit)) :=
  let at19 := x.1
  let seen20 := x.2.2.1
  let list21 := x.2.2.2.1
  let i22 := x.2.2.2.2.1
  let v23 := x.2.2.2.2.2.1
  let v24 := x.2.2.2.2.2.2.1
  let v25 := x.2.2.2.2.2.2.2.1
  bif (blt v25 v24) then (
    bif (inR v25 (v23.length : Int)) then (
      let v27 := (v23.getD v25.toNat (0 : Int))
      bif (nle (list21.length + ([v27]).length) 17592186044416) then (
        some (.inl (at19, (x.2.1.1, ()), seen20, (list21 ++ ([v27])), i22, v23, v24, (wr (v25 + (1 : Int))), ())))
      else none)
    else none)
  else some (.inr (at19, (x.2.1.1, ()), seen20, list21, i22, ()))
def sh21_16 : Sh := ⟨[1, 2, 5, 6, 7], [.val (.int .i64), .box 57 [.sc Y4], .own 4 .bool, .own 3 (.int .i64), .val (.int .i64)], []⟩
def outs21_16 : List (Ex × Sh) := [((.exit 0), ⟨[], [], []⟩), (.ret, ⟨[4], [.val .bool], []⟩)]
noncomputable def f21_16 (x : Int × (S7 × Unit) × (List Bool) × (List Int) × Int × Unit) : Option ((Int × (S7 × Unit) × (List Bool) × (List Int) × Int × Unit) ⊕ ((Unit) ⊕ (Bool × Unit))) :=
  let at6 := x.1
  let seen7 := x.2.2.1
  let list8 := x.2.2.2.1
  let i9 := x.2.2.2.2.1
  bif (blt i9 (list8.length : Int)) then (
    bif (inR i9 (list8.length : Int)) then (
      let v12 := (list8.getD i9.toNat (0 : Int))
      bif (beq v12 at6) then some (.inr (.inr (true, ())))
      else bif (inR v12 (seen7.length : Int)) then (
        bif (!(seen7.getD v12.toNat false)) then (
          bif (inR v12 (seen7.length : Int)) then (
            (f50 (x.2.1.1, v12, ())).bind fun r17 =>
            (loopF f21_48 (at6, (x.2.1.1, ()), (seen7.set v12.toNat true), list8, i9, r17.1.1, (r17.1.1.length : Int), (0 : Int), ())).bind fun z31 =>
            some (.inl (z31.1, (z31.2.1.1, ()), z31.2.2.1, z31.2.2.2.1, (wr (z31.2.2.2.2.1 + (1 : Int))), ())))
          else none)
        else some (.inl (at6, (x.2.1.1, ()), seen7, list8, (wr (i9 + (1 : Int))), ())))
      else none)
    else none)
  else some (.inr (.inl ()))
def ps21 : List VS := [.val Y4, .val (.int .i64)]
def rs21 : List VS := [.val .bool]
noncomputable def f21 (x : S7 × Int × Unit) : Option ((Bool × Unit) × (Unit)) :=
  let f1 := x.1
  let at2 := x.2.1
  let v3 := (f1.2.2.2.2.2.2.2.1.length : Int)
  bif (inE v3 ((281474976710656 : Nat) : Int)) then (
    (f50 (f1, at2, ())).bind fun r5 =>
    (loopF f21_16 (at2, (f1, ()), (List.replicate v3.toNat false), r5.1.1, (0 : Int), ())).bind fun y41 => match y41 with
      | .inl _ => (
        some ((false, ()), ()))
      | .inr z39 => (
        some ((z39.1, ()), ())))
  else none
/-! ### loop.example/loom/spec.l3copy -/
def sh22_12 : Sh := ⟨[3, 6, 7, 8], [.own 3 (.int .i64), .val (.row (.int .i64)), .val (.int .i64), .val (.int .i64)], []⟩
def outs22_12 : List (Ex × Sh) := [((.exit 0), ⟨[3], [.own 3 (.int .i64)], []⟩)]
noncomputable def f22_12 (x : (List Int) × (List Int) × Int × Int × Unit) : Option (((List Int) × (List Int) × Int × Int × Unit) ⊕ ((List Int) × Unit)) :=
  let out3 := x.1
  let v4 := x.2.1
  let v5 := x.2.2.1
  let v6 := x.2.2.2.1
  bif (blt v6 v5) then (
    bif (inR v6 (v4.length : Int)) then (
      let v8 := (v4.getD v6.toNat (0 : Int))
      bif (nle (out3.length + ([v8]).length) 17592186044416) then (
        some (.inl ((out3 ++ ([v8])), v4, v5, (wr (v6 + (1 : Int))), ())))
      else none)
    else none)
  else some (.inr (out3, ()))
def ps22 : List VS := [.val (.row (.int .i64))]
def rs22 : List VS := [.own 3 (.int .i64)]
noncomputable def f22 (x : (List Int) × Unit) : Option (((List Int) × Unit) × (Unit)) :=
  let a1 := x.1
  (loopF f22_12 (([] : List Int), a1, (a1.length : Int), (0 : Int), ())).bind fun z12 =>
  some ((z12.1, ()), ())
/-! ### loop.example/loom/spec.l3wants -/
def ps53 : List VS := [.val (.int .i64)]
def rs53 : List VS := [.val (.int .i64), .val .bool]
noncomputable def f53 (x : Int × Unit) : Option ((Int × Bool × Unit) × (Unit)) :=
  let role1 := x.1
  bif (beq role1 (2 : Int)) then some (((1 : Int), true, ()), ())
  else bif (beq role1 (3 : Int)) then some (((3 : Int), true, ()), ())
  else bif ((beq role1 (4 : Int)) || ((beq role1 (18 : Int)) || ((beq role1 (19 : Int)) || (beq role1 (20 : Int))))) then some (((1 : Int), false, ()), ())
  else bif (beq role1 (5 : Int)) then some (((2 : Int), false, ()), ())
  else bif (beq role1 (6 : Int)) then some (((3 : Int), false, ()), ())
  else some (((0 : Int), false, ()), ())
/-! ### loop.example/loom/spec.l3read -/
def sh23_64 : Sh := ⟨[0, 1, 2, 3, 4, 6, 10, 11, 12, 13, 17, 28, 29, 30, 65, 66], [.val Y5, .val (.int .i64), .val Y2, .own 3 (.int .i64), .box 31 [.sc Y5], .box 59 [.sc Y2], .own 3 (.int .i64), .own 3 (.int .i64), .own 3 (.int .i64), .val (.int .i64), .val (.int .i64), .own 3 (.int .i64), .val (.int .i64), .val (.int .i64), .val (.int .i64), .val (.int .i64)], [(64, .same 11)]⟩
def outs23_64 : List (Ex × Sh) := [((.exit 2), ⟨[0, 1, 2, 3, 4, 6, 10, 11, 12, 13, 17, 28, 29, 30], [.val Y5, .val (.int .i64), .val Y2, .own 3 (.int .i64), .box 31 [.sc Y5], .box 59 [.sc Y2], .own 3 (.int .i64), .own 3 (.int .i64), .own 3 (.int .i64), .val (.int .i64), .val (.int .i64), .own 3 (.int .i64), .val (.int .i64), .val (.int .i64)], []⟩), (.ret, ⟨[0, 1, 2, 3, 8, 9], [.val Y5, .val (.int .i64), .val Y2, .own 3 (.int .i64), .own 3 (.int .i64), .val .bool], []⟩)]
noncomputable def f23_64 (x : S8 × Int × S2 × (List Int) × (S8 × Unit) × (S2 × Unit) × (List Int) × (List Int) × (List Int) × Int × Int × (List Int) × Int × Int × Int × Int × Unit) : Option ((S8 × Int × S2 × (List Int) × (S8 × Unit) × (S2 × Unit) × (List Int) × (List Int) × (List Int) × Int × Int × (List Int) × Int × Int × Int × Int × Unit) ⊕ ((S8 × Int × S2 × (List Int) × (S8 × Unit) × (S2 × Unit) × (List Int) × (List Int) × (List Int) × Int × Int × (List Int) × Int × Int × Unit) ⊕ (S8 × Int × S2 × (List Int) × (List Int) × Bool × Unit))) :=
  let t30 := x.1
  let o31 := x.2.1
  let A32 := x.2.2.1
  let r33 := x.2.2.2.1
  let v34 := x.2.2.2.2.2.2.1
  let v35 := x.2.2.2.2.2.2.2.1
  let v36 := x.2.2.2.2.2.2.2.2.1
  let v37 := x.2.2.2.2.2.2.2.2.2.1
  let v38 := x.2.2.2.2.2.2.2.2.2.2.1
  let v39 := x.2.2.2.2.2.2.2.2.2.2.2.1
  let v40 := x.2.2.2.2.2.2.2.2.2.2.2.2.1
  let v41 := x.2.2.2.2.2.2.2.2.2.2.2.2.2.1
  let v42 := x.2.2.2.2.2.2.2.2.2.2.2.2.2.2.1
  let v43 := x.2.2.2.2.2.2.2.2.2.2.2.2.2.2.2.1
  bif (blt v43 v42) then (
    bif (inR v43 (v35.length : Int)) then (
      bif (beq (v35.getD v43.toNat (0 : Int)) v38) then (
        some (.inr (.inr (t30, o31, A32, r33, ([] : List Int), false, ()))))
      else some (.inl (t30, o31, A32, r33, (x.2.2.2.2.1.1, ()), (x.2.2.2.2.2.1.1, ()), v34, v35, v36, v37, v38, v39, v40, v41, v42, (wr (v43 + (1 : Int))), ())))
    else none)
  else some (.inr (.inl (t30, o31, A32, r33, (x.2.2.2.2.1.1, ()), (x.2.2.2.2.2.1.1, ()), v34, v35, v36, v37, v38, v39, v40, v41, ())))
def sh23_124 : Sh := ⟨[0, 1, 2, 3, 4, 6, 10, 11, 12, 13, 17, 20, 21, 28, 29, 30], [.val Y5, .val (.int .i64), .val Y2, .own 3 (.int .i64), .box 31 [.sc Y5], .box 59 [.sc Y2], .own 3 (.int .i64), .own 3 (.int .i64), .own 3 (.int .i64), .val (.int .i64), .val (.int .i64), .val (.int .i64), .val (.int .i64), .own 3 (.int .i64), .val (.int .i64), .val (.int .i64)], []⟩
def outs23_124 : List (Ex × Sh) := [((.exit 4), ⟨[0, 1, 2, 3, 4, 6, 10, 11, 12, 13, 17, 28, 29, 30], [.val Y5, .val (.int .i64), .val Y2, .own 3 (.int .i64), .box 31 [.sc Y5], .box 59 [.sc Y2], .own 3 (.int .i64), .own 3 (.int .i64), .own 3 (.int .i64), .val (.int .i64), .val (.int .i64), .own 3 (.int .i64), .val (.int .i64), .val (.int .i64)], []⟩), (.ret, ⟨[0, 1, 2, 3, 8, 9], [.val Y5, .val (.int .i64), .val Y2, .own 3 (.int .i64), .own 3 (.int .i64), .val .bool], []⟩)]
noncomputable def f23_124 (x : S8 × Int × S2 × (List Int) × (S8 × Unit) × (S2 × Unit) × (List Int) × (List Int) × (List Int) × Int × Int × Int × Int × (List Int) × Int × Int × Unit) : Option ((S8 × Int × S2 × (List Int) × (S8 × Unit) × (S2 × Unit) × (List Int) × (List Int) × (List Int) × Int × Int × Int × Int × (List Int) × Int × Int × Unit) ⊕ ((S8 × Int × S2 × (List Int) × (S8 × Unit) × (S2 × Unit) × (List Int) × (List Int) × (List Int) × Int × Int × (List Int) × Int × Int × Unit) ⊕ (S8 × Int × S2 × (List Int) × (List Int) × Bool × Unit))) :=
  let t66 := x.1
  let o67 := x.2.1
  let A68 := x.2.2.1
  let r69 := x.2.2.2.1
  let v70 := x.2.2.2.2.2.2.1
  let v71 := x.2.2.2.2.2.2.2.1
  let v72 := x.2.2.2.2.2.2.2.2.1
  let v73 := x.2.2.2.2.2.2.2.2.2.1
  let v74 := x.2.2.2.2.2.2.2.2.2.2.1
  let v75 := x.2.2.2.2.2.2.2.2.2.2.2.1
  let v76 := x.2.2.2.2.2.2.2.2.2.2.2.2.1
  let v77 := x.2.2.2.2.2.2.2.2.2.2.2.2.2.1
  let v78 := x.2.2.2.2.2.2.2.2.2.2.2.2.2.2.1
  let v79 := x.2.2.2.2.2.2.2.2.2.2.2.2.2.2.2.1
  bif (ble v76 v75) then (
    let v81 := (wr (v74 + v76))
    bif (inR v81 (r69.length : Int)) then (
      bif (bne (r69.getD v81.toNat (0 : Int)) (1 : Int)) then (
        some (.inr (.inr (t66, o67, A68, r69, ([] : List Int), false, ()))))
      else some (.inl (t66, o67, A68, r69, (x.2.2.2.2.1.1, ()), (x.2.2.2.2.2.1.1, ()), v70, v71, v72, v73, v74, v75, (wr (v76 + (1 : Int))), v77, v78, v79, ())))
    else none)
  else some (.inr (.inl (t66, o67, A68, r69, (x.2.2.2.2.1.1, ()), (x.2.2.2.2.2.1.1, ()), v70, v71, v72, v73, v74, v77, v78, v79, ())))
def sh23_20 : Sh := ⟨[0, 1, 2, 3, 4, 6, 10, 11, 12, 28, 29, 30], [.val Y5, .val (.int .i64), .val Y2, .own 3 (.int .i64), .box 31 [.sc Y5], .box 59 [.sc Y2], .own 3 (.int .i64), .own 3 (.int .i64), .own 3 (.int .i64), .own 3 (.int .i64), .val (.int .i64), .val (.int .i64)], []⟩
def outs23_20 : List (Ex × Sh) := [((.exit 0), ⟨[0, 1, 2, 3, 4, 6, 10], [.val Y5, .val (.int .i64), .val Y2, .own 3 (.int .i64), .box 31 [.sc Y5], .box 59 [.sc Y2], .own 3 (.int .i64)], []⟩), (.ret, ⟨[0, 1, 2, 3, 8, 9], [.val Y5, .val (.int .i64), .val Y2, .own 3 (.int .i64), .own 3 (.int .i64), .val .bool], []⟩)]
noncomputable def f23_20 (x : S8 × Int × S2 × (List Int) × (S8 × Unit) × (S2 × Unit) × (List Int) × (List Int) × (List Int) × (List Int) × Int × Int × Unit) : Option ((S8 × Int × S2 × (List Int) × (S8 × Unit) × (S2 × Unit) × (List Int) × (List Int) × (List Int) × (List Int) × Int × Int × Unit) ⊕ ((S8 × Int × S2 × (List Int) × (S8 × Unit) × (S2 × Unit) × (List Int) × Unit) ⊕ (S8 × Int × S2 × (List Int) × (List Int) × Bool × Unit))) :=
  let t8 := x.1
  let o9 := x.2.1
  let A10 := x.2.2.1
  let r11 := x.2.2.2.1
  let v12 := x.2.2.2.2.2.2.1
  let v13 := x.2.2.2.2.2.2.2.1
  let v14 := x.2.2.2.2.2.2.2.2.1
  let v15 := x.2.2.2.2.2.2.2.2.2.1
  let v16 := x.2.2.2.2.2.2.2.2.2.2.1
  let v17 := x.2.2.2.2.2.2.2.2.2.2.2.1
  bif (blt v17 v16) then (
    bif (inR v17 (v15.length : Int)) then (
      let v19 := (v15.getD v17.toNat (0 : Int))
      bif (inR v17 (v14.length : Int)) then (
        (f53 ((v14.getD v17.toNat (0 : Int)), ())).bind fun r21 =>
        bif (beq r21.1.1 (0 : Int)) then (
          some (.inl (t8, o9, A10, r11, (x.2.2.2.2.1.1, ()), (x.2.2.2.2.2.1.1, ()), v12, v13, v14, v15, v16, (wr (v17 + (1 : Int))), ())))
        else (
          let v25 := (bif (r21.1.2.1 && (blt v19 (0 : Int))) then (wr ((-1 : Int) - v19)) else v19)
          bif (inR v25 (r11.length : Int)) then (
            bif (bne (r11.getD v25.toNat (0 : Int)) r21.1.1) then (
              some (.inr (.inr (t8, o9, A10, r11, ([] : List Int), false, ()))))
            else bif (r21.1.2.1 && (blt v19 (0 : Int))) then (
              (loopF f23_64 (t8, o9, A10, r11, (x.2.2.2.2.1.1, ()), (x.2.2.2.2.2.1.1, ()), v12, v13, v14, v17, v25, v15, v16, v17, (v13.length : Int), (0 : Int), ())).bind fun y155 => match y155 with
                | .inl z48 => (
                  let t49 := z48.1
                  let o50 := z48.2.1
                  let A51 := z48.2.2.1
                  let r52 := z48.2.2.2.1
                  let v53 := z48.2.2.2.2.2.2.1
                  let v54 := z48.2.2.2.2.2.2.2.1
                  let v55 := z48.2.2.2.2.2.2.2.2.1
                  let v56 := z48.2.2.2.2.2.2.2.2.2.1
                  let v57 := z48.2.2.2.2.2.2.2.2.2.2.1
                  let v58 := z48.2.2.2.2.2.2.2.2.2.2.2.1
                  let v59 := z48.2.2.2.2.2.2.2.2.2.2.2.2.1
                  let v60 := z48.2.2.2.2.2.2.2.2.2.2.2.2.2.1
                  bif (inR v57 (r52.length : Int)) then (
                    let row61 := (r52.set v57.toNat (0 : Int))
                    bif (nle (v53.length + ([v57]).length) 17592186044416) then (
                      let row63 := (v53 ++ ([v57]))
                      bif (inR v56 (v55.length : Int)) then (
                        bif (beq (v55.getD v56.toNat (0 : Int)) (18 : Int)) then (
                          (loopF f23_124 (t49, o50, A51, row61, (z48.2.2.2.2.1.1, ()), (z48.2.2.2.2.2.1.1, ()), row63, v54, v55, v56, v57, (2 : Int), (1 : Int), v58, v59, v60, ())).bind fun y114 => match y114 with
                            | .inl z85 => (
                              let t86 := z85.1
                              let o87 := z85.2.1
                              let A88 := z85.2.2.1
                              let r89 := z85.2.2.2.1
                              let v90 := z85.2.2.2.2.2.2.1
                              let v91 := z85.2.2.2.2.2.2.2.1
                              let v92 := z85.2.2.2.2.2.2.2.2.1
                              let v93 := z85.2.2.2.2.2.2.2.2.2.1
                              let v94 := z85.2.2.2.2.2.2.2.2.2.2.1
                              let v95 := z85.2.2.2.2.2.2.2.2.2.2.2.1
                              let v96 := z85.2.2.2.2.2.2.2.2.2.2.2.2.1
                              let v97 := z85.2.2.2.2.2.2.2.2.2.2.2.2.2.1
                              bif (inR v93 (v92.length : Int)) then (
                                bif (beq (v92.getD v93.toNat (0 : Int)) (19 : Int)) then (
                                  let v100 := (wr (v94 + (1 : Int)))
                                  bif (inR v100 (r89.length : Int)) then (
                                    bif (bne (r89.getD v100.toNat (0 : Int)) (0 : Int)) then (
                                      some (.inr (.inr (t86, o87, A88, r89, ([] : List Int), false, ()))))
                                    else bif (nle (v90.length + ([v94]).length) 17592186044416) then (
                                      some (.inl (t86, o87, A88, r89, (z85.2.2.2.2.1.1, ()), (z85.2.2.2.2.2.1.1, ()), (v90 ++ ([v94])), v91, v92, v95, v96, (wr (v97 + (1 : Int))), ())))
                                    else none)
                                  else none)
                                else some (.inl (t86, o87, A88, r89, (z85.2.2.2.2.1.1, ()), (z85.2.2.2.2.2.1.1, ()), v90, v91, v92, v95, v96, (wr (v97 + (1 : Int))), ())))
                              else none)
                            | .inr z107 => (
                              some (.inr (.inr (z107.1, z107.2.1, z107.2.2.1, z107.2.2.2.1, z107.2.2.2.2.1, z107.2.2.2.2.2.1, ())))))
                        else bif (inR v56 (v55.length : Int)) then (
                          (loopF f23_124 (t49, o50, A51, row61, (z48.2.2.2.2.1.1, ()), (z48.2.2.2.2.2.1.1, ()), row63, v54, v55, v56, v57, (bif (beq (v55.getD v56.toNat (0 : Int)) (20 : Int)) then (1 : Int) else (0 : Int)), (1 : Int), v58, v59, v60, ())).bind fun y147 => match y147 with
                            | .inl z118 => (
                              let t119 := z118.1
                              let o120 := z118.2.1
                              let A121 := z118.2.2.1
                              let r122 := z118.2.2.2.1
                              let v123 := z118.2.2.2.2.2.2.1
                              let v124 := z118.2.2.2.2.2.2.2.1
                              let v125 := z118.2.2.2.2.2.2.2.2.1
                              let v126 := z118.2.2.2.2.2.2.2.2.2.1
                              let v127 := z118.2.2.2.2.2.2.2.2.2.2.1
                              let v128 := z118.2.2.2.2.2.2.2.2.2.2.2.1
                              let v129 := z118.2.2.2.2.2.2.2.2.2.2.2.2.1
                              let v130 := z118.2.2.2.2.2.2.2.2.2.2.2.2.2.1
                              bif (inR v126 (v125.length : Int)) then (
                                bif (beq (v125.getD v126.toNat (0 : Int)) (19 : Int)) then (
                                  let v133 := (wr (v127 + (1 : Int)))
                                  bif (inR v133 (r122.length : Int)) then (
                                    bif (bne (r122.getD v133.toNat (0 : Int)) (0 : Int)) then (
                                      some (.inr (.inr (t119, o120, A121, r122, ([] : List Int), false, ()))))
                                    else bif (nle (v123.length + ([v127]).length) 17592186044416) then (
                                      some (.inl (t119, o120, A121, r122, (z118.2.2.2.2.1.1, ()), (z118.2.2.2.2.2.1.1, ()), (v123 ++ ([v127])), v124, v125, v128, v129, (wr (v130 + (1 : Int))), ())))
                                    else none)
                                  else none)
                                else some (.inl (t119, o120, A121, r122, (z118.2.2.2.2.1.1, ()), (z118.2.2.2.2.2.1.1, ()), v123, v124, v125, v128, v129, (wr (v130 + (1 : Int))), ())))
                              else none)
                            | .inr z140 => (
                              some (.inr (.inr (z140.1, z140.2.1, z140.2.2.1, z140.2.2.2.1, z140.2.2.2.2.1, z140.2.2.2.2.2.1, ())))))
                        else none)
                      else none)
                    else none)
                  else none)
                | .inr z148 => (
                  some (.inr (.inr (z148.1, z148.2.1, z148.2.2.1, z148.2.2.2.1, z148.2.2.2.2.1, z148.2.2.2.2.2.1, ())))))
            else bif (!r21.1.2.1) then (
              bif (nle (v13.length + ([v25]).length) 17592186044416) then (
                let row158 := (v13 ++ ([v25]))
                bif (inR v17 (v14.length : Int)) then (
                  bif (beq (v14.getD v17.toNat (0 : Int)) (18 : Int)) then (
                    (loopF f23_124 (t8, o9, A10, r11, (x.2.2.2.2.1.1, ()), (x.2.2.2.2.2.1.1, ()), v12, row158, v14, v17, v25, (2 : Int), (1 : Int), v15, v16, v17, ())).bind fun y190 => match y190 with
                      | .inl z161 => (
                        let t162 := z161.1
                        let o163 := z161.2.1
                        let A164 := z161.2.2.1
                        let r165 := z161.2.2.2.1
                        let v166 := z161.2.2.2.2.2.2.1
                        let v167 := z161.2.2.2.2.2.2.2.1
                        let v168 := z161.2.2.2.2.2.2.2.2.1
                        let v169 := z161.2.2.2.2.2.2.2.2.2.1
                        let v170 := z161.2.2.2.2.2.2.2.2.2.2.1
                        let v171 := z161.2.2.2.2.2.2.2.2.2.2.2.1
                        let v172 := z161.2.2.2.2.2.2.2.2.2.2.2.2.1
                        let v173 := z161.2.2.2.2.2.2.2.2.2.2.2.2.2.1
                        bif (inR v169 (v168.length : Int)) then (
                          bif (beq (v168.getD v169.toNat (0 : Int)) (19 : Int)) then (
                            let v176 := (wr (v170 + (1 : Int)))
                            bif (inR v176 (r165.length : Int)) then (
                              bif (bne (r165.getD v176.toNat (0 : Int)) (0 : Int)) then (
                                some (.inr (.inr (t162, o163, A164, r165, ([] : List Int), false, ()))))
                              else bif (nle (v166.length + ([v170]).length) 17592186044416) then (
                                some (.inl (t162, o163, A164, r165, (z161.2.2.2.2.1.1, ()), (z161.2.2.2.2.2.1.1, ()), (v166 ++ ([v170])), v167, v168, v171, v172, (wr (v173 + (1 : Int))), ())))
                              else none)
                            else none)
                          else some (.inl (t162, o163, A164, r165, (z161.2.2.2.2.1.1, ()), (z161.2.2.2.2.2.1.1, ()), v166, v167, v168, v171, v172, (wr (v173 + (1 : Int))), ())))
                        else none)
                      | .inr z183 => (
                        some (.inr (.inr (z183.1, z183.2.1, z183.2.2.1, z183.2.2.2.1, z183.2.2.2.2.1, z183.2.2.2.2.2.1, ())))))
                  else bif (inR v17 (v14.length : Int)) then (
                    (loopF f23_124 (t8, o9, A10, r11, (x.2.2.2.2.1.1, ()), (x.2.2.2.2.2.1.1, ()), v12, row158, v14, v17, v25, (bif (beq (v14.getD v17.toNat (0 : Int)) (20 : Int)) then (1 : Int) else (0 : Int)), (1 : Int), v15, v16, v17, ())).bind fun y223 => match y223 with
                      | .inl z194 => (
                        let t195 := z194.1
                        let o196 := z194.2.1
                        let A197 := z194.2.2.1
                        let r198 := z194.2.2.2.1
                        let v199 := z194.2.2.2.2.2.2.1
                        let v200 := z194.2.2.2.2.2.2.2.1
                        let v201 := z194.2.2.2.2.2.2.2.2.1
                        let v202 := z194.2.2.2.2.2.2.2.2.2.1
                        let v203 := z194.2.2.2.2.2.2.2.2.2.2.1
                        let v204 := z194.2.2.2.2.2.2.2.2.2.2.2.1
                        let v205 := z194.2.2.2.2.2.2.2.2.2.2.2.2.1
                        let v206 := z194.2.2.2.2.2.2.2.2.2.2.2.2.2.1
                        bif (inR v202 (v201.length : Int)) then (
                          bif (beq (v201.getD v202.toNat (0 : Int)) (19 : Int)) then (
                            let v209 := (wr (v203 + (1 : Int)))
                            bif (inR v209 (r198.length : Int)) then (
                              bif (bne (r198.getD v209.toNat (0 : Int)) (0 : Int)) then (
                                some (.inr (.inr (t195, o196, A197, r198, ([] : List Int), false, ()))))
                              else bif (nle (v199.length + ([v203]).length) 17592186044416) then (
                                some (.inl (t195, o196, A197, r198, (z194.2.2.2.2.1.1, ()), (z194.2.2.2.2.2.1.1, ()), (v199 ++ ([v203])), v200, v201, v204, v205, (wr (v206 + (1 : Int))), ())))
                              else none)
                            else none)
                          else some (.inl (t195, o196, A197, r198, (z194.2.2.2.2.1.1, ()), (z194.2.2.2.2.2.1.1, ()), v199, v200, v201, v204, v205, (wr (v206 + (1 : Int))), ())))
                        else none)
                      | .inr z216 => (
                        some (.inr (.inr (z216.1, z216.2.1, z216.2.2.1, z216.2.2.2.1, z216.2.2.2.2.1, z216.2.2.2.2.2.1, ())))))
                  else none)
                else none)
              else none)
            else bif (inR v17 (v14.length : Int)) then (
              bif (beq (v14.getD v17.toNat (0 : Int)) (18 : Int)) then (
                (loopF f23_124 (t8, o9, A10, r11, (x.2.2.2.2.1.1, ()), (x.2.2.2.2.2.1.1, ()), v12, v13, v14, v17, v25, (2 : Int), (1 : Int), v15, v16, v17, ())).bind fun y255 => match y255 with
                  | .inl z226 => (
                    let t227 := z226.1
                    let o228 := z226.2.1
                    let A229 := z226.2.2.1
                    let r230 := z226.2.2.2.1
                    let v231 := z226.2.2.2.2.2.2.1
                    let v232 := z226.2.2.2.2.2.2.2.1
                    let v233 := z226.2.2.2.2.2.2.2.2.1
                    let v234 := z226.2.2.2.2.2.2.2.2.2.1
                    let v235 := z226.2.2.2.2.2.2.2.2.2.2.1
                    let v236 := z226.2.2.2.2.2.2.2.2.2.2.2.1
                    let v237 := z226.2.2.2.2.2.2.2.2.2.2.2.2.1
                    let v238 := z226.2.2.2.2.2.2.2.2.2.2.2.2.2.1
                    bif (inR v234 (v233.length : Int)) then (
                      bif (beq (v233.getD v234.toNat (0 : Int)) (19 : Int)) then (
                        let v241 := (wr (v235 + (1 : Int)))
                        bif (inR v241 (r230.length : Int)) then (
                          bif (bne (r230.getD v241.toNat (0 : Int)) (0 : Int)) then (
                            some (.inr (.inr (t227, o228, A229, r230, ([] : List Int), false, ()))))
                          else bif (nle (v231.length + ([v235]).length) 17592186044416) then (
                            some (.inl (t227, o228, A229, r230, (z226.2.2.2.2.1.1, ()), (z226.2.2.2.2.2.1.1, ()), (v231 ++ ([v235])), v232, v233, v236, v237, (wr (v238 + (1 : Int))), ())))
                          else none)
                        else none)
                      else some (.inl (t227, o228, A229, r230, (z226.2.2.2.2.1.1, ()), (z226.2.2.2.2.2.1.1, ()), v231, v232, v233, v236, v237, (wr (v238 + (1 : Int))), ())))
                    else none)
                  | .inr z248 => (
                    some (.inr (.inr (z248.1, z248.2.1, z248.2.2.1, z248.2.2.2.1, z248.2.2.2.2.1, z248.2.2.2.2.2.1, ())))))
              else bif (inR v17 (v14.length : Int)) then (
                (loopF f23_124 (t8, o9, A10, r11, (x.2.2.2.2.1.1, ()), (x.2.2.2.2.2.1.1, ()), v12, v13, v14, v17, v25, (bif (beq (v14.getD v17.toNat (0 : Int)) (20 : Int)) then (1 : Int) else (0 : Int)), (1 : Int), v15, v16, v17, ())).bind fun y288 => match y288 with
                  | .inl z259 => (
                    let t260 := z259.1
                    let o261 := z259.2.1
                    let A262 := z259.2.2.1
                    let r263 := z259.2.2.2.1
                    let v264 := z259.2.2.2.2.2.2.1
                    let v265 := z259.2.2.2.2.2.2.2.1
                    let v266 := z259.2.2.2.2.2.2.2.2.1
                    let v267 := z259.2.2.2.2.2.2.2.2.2.1
                    let v268 := z259.2.2.2.2.2.2.2.2.2.2.1
                    let v269 := z259.2.2.2.2.2.2.2.2.2.2.2.1
                    let v270 := z259.2.2.2.2.2.2.2.2.2.2.2.2.1
                    let v271 := z259.2.2.2.2.2.2.2.2.2.2.2.2.2.1
                    bif (inR v267 (v266.length : Int)) then (
                      bif (beq (v266.getD v267.toNat (0 : Int)) (19 : Int)) then (
                        let v274 := (wr (v268 + (1 : Int)))
                        bif (inR v274 (r263.length : Int)) then (
                          bif (bne (r263.getD v274.toNat (0 : Int)) (0 : Int)) then (
                            some (.inr (.inr (t260, o261, A262, r263, ([] : List Int), false, ()))))
                          else bif (nle (v264.length + ([v268]).length) 17592186044416) then (
                            some (.inl (t260, o261, A262, r263, (z259.2.2.2.2.1.1, ()), (z259.2.2.2.2.2.1.1, ()), (v264 ++ ([v268])), v265, v266, v269, v270, (wr (v271 + (1 : Int))), ())))
                          else none)
                        else none)
                      else some (.inl (t260, o261, A262, r263, (z259.2.2.2.2.1.1, ()), (z259.2.2.2.2.2.1.1, ()), v264, v265, v266, v269, v270, (wr (v271 + (1 : Int))), ())))
                    else none)
                  | .inr z281 => (
                    some (.inr (.inr (z281.1, z281.2.1, z281.2.2.1, z281.2.2.2.1, z281.2.2.2.2.1, z281.2.2.2.2.2.1, ())))))
              else none)
            else none)
          else none))
      else none)
    else none)
  else some (.inr (.inl (t8, o9, A10, r11, (x.2.2.2.2.1.1, ()), (x.2.2.2.2.2.1.1, ()), v12, ())))
def sh23_168 : Sh := ⟨[0, 1, 2, 3, 10, 134, 135, 136], [.val Y5, .val (.int .i64), .val Y2, .own 3 (.int .i64), .own 3 (.int .i64), .val (.row Y0), .val (.int .i64), .val (.int .i64)], []⟩
def outs23_168 : List (Ex × Sh) := [((.exit 6), ⟨[0, 1, 2, 3, 10], [.val Y5, .val (.int .i64), .val Y2, .own 3 (.int .i64), .own 3 (.int .i64)], []⟩), (.ret, ⟨[0, 1, 2, 3, 8, 9], [.val Y5, .val (.int .i64), .val Y2, .own 3 (.int .i64), .own 3 (.int .i64), .val .bool], []⟩)]
noncomputable def f23_168 (x : S8 × Int × S2 × (List Int) × (List Int) × (List S0) × Int × Int × Unit) : Option ((S8 × Int × S2 × (List Int) × (List Int) × (List S0) × Int × Int × Unit) ⊕ ((S8 × Int × S2 × (List Int) × (List Int) × Unit) ⊕ (S8 × Int × S2 × (List Int) × (List Int) × Bool × Unit))) :=
  let t298 := x.1
  let o299 := x.2.1
  let A300 := x.2.2.1
  let r301 := x.2.2.2.1
  let v302 := x.2.2.2.2.1
  let v303 := x.2.2.2.2.2.1
  let v304 := x.2.2.2.2.2.2.1
  let v305 := x.2.2.2.2.2.2.2.1
  bif (blt v305 v304) then (
    bif (inR v305 (v303.length : Int)) then (
      (joinB (v303.getD v305.toNat (false, (0 : Int))).1 (bif (inR (v303.getD v305.toNat (false, (0 : Int))).2 (r301.length : Int)) then (some (bne (r301.getD (v303.getD v305.toNat (false, (0 : Int))).2.toNat (0 : Int)) (2 : Int))) else none) (some false)).bind fun c308 =>
      bif c308 then (
        some (.inr (.inr (t298, o299, A300, r301, ([] : List Int), false, ()))))
      else some (.inl (t298, o299, A300, r301, v302, v303, v304, (wr (v305 + (1 : Int))), ())))
    else none)
  else some (.inr (.inl (t298, o299, A300, r301, v302, ())))
def ps23 : List VS := [.val Y5, .val (.int .i64), .val Y2, .own 3 (.int .i64)]
def rs23 : List VS := [.own 3 (.int .i64), .val .bool]
noncomputable def f23 (x : S8 × Int × S2 × (List Int) × Unit) : Option (((List Int) × Bool × Unit) × ((List Int) × Unit)) :=
  let t1 := x.1
  let A3 := x.2.2.1
  (f51 (A3.1, ())).bind fun r5 =>
  (f52 (A3, ())).bind fun r6 =>
  (loopF f23_20 (t1, x.2.1, A3, x.2.2.2.1, (t1, ()), (A3, ()), ([] : List Int), ([] : List Int), r5.1.1, r6.1.1, (r6.1.1.length : Int), (0 : Int), ())).bind fun y331 => match y331 with
    | .inl z289 => (
      let r293 := z289.2.2.2.1
      let v294 := z289.2.2.2.2.2.2.1
      bif (beq z289.2.2.2.2.2.1.1.1 (11 : Int)) then (
        bif (inR z289.2.2.2.2.2.1.1.2.2.1 (z289.2.2.2.2.1.1.length : Int)) then (
          let v296 := (z289.2.2.2.2.1.1.getD z289.2.2.2.2.2.1.1.2.2.1.toNat ((⟨#[]⟩ : ByteArray), (0 : Int), (0 : Int), false, (0 : Int), ([] : List S0), ([] : List S1), ([] : List S2), ([] : List S3))).2.2.2.2.2.1
          (loopF f23_168 (z289.1, z289.2.1, z289.2.2.1, r293, v294, v296, (v296.length : Int), (0 : Int), ())).bind fun y323 => match y323 with
            | .inl z310 => (
              some ((z310.2.2.2.2.1, true, ()), z310.2.2.2.1, ()))
            | .inr z316 => (
              some ((z316.2.2.2.2.1, z316.2.2.2.2.2.1, ()), z316.2.2.2.1, ())))
        else none)
      else some ((v294, true, ()), r293, ()))
    | .inr z324 => (
      some ((z324.2.2.2.2.1, z324.2.2.2.2.2.1, ()), z324.2.2.2.1, ()))
/-! ### loop.example/loom/spec.l3guards -/
def sh28_12 : Sh := ⟨[3, 6, 7, 8], [.own 111 Y7, .val (.row Y7), .val (.int .i64), .val (.int .i64)], []⟩
def outs28_12 : List (Ex × Sh) := [((.exit 0), ⟨[3], [.own 111 Y7], []⟩)]
noncomputable def f28_12 (x : (List S4) × (List S4) × Int × Int × Unit) : Option (((List S4) × (List S4) × Int × Int × Unit) ⊕ ((List S4) × Unit)) :=
  let out3 := x.1
  let v4 := x.2.1
  let v5 := x.2.2.1
  let v6 := x.2.2.2.1
  bif (blt v6 v5) then (
    bif (inR v6 (v4.length : Int)) then (
      let row8 := ([(v4.getD v6.toNat (false, (0 : Int), (0 : Int)))])
      bif (nle (out3.length + row8.length) 5864062014805) then (
        some (.inl ((out3 ++ row8), v4, v5, (wr (v6 + (1 : Int))), ())))
      else none)
    else none)
  else some (.inr (out3, ()))
def ps28 : List VS := [.val (.row Y7)]
def rs28 : List VS := [.own 111 Y7]
noncomputable def f28 (x : (List S4) × Unit) : Option (((List S4) × Unit) × (Unit)) :=
  let a1 := x.1
  (loopF f28_12 (([] : List S4), a1, (a1.length : Int), (0 : Int), ())).bind fun z11 =>
  some ((z11.1, ()), ())
/-! ### loop.example/loom/spec.l3above -/
def sh54_8 : Sh := ⟨[1, 7, 8, 9], [.val (.int .i64), .val (.row Y7), .val (.int .i64), .val (.int .i64)], []⟩
def outs54_8 : List (Ex × Sh) := [((.exit 0), ⟨[], [], []⟩), (.ret, ⟨[4], [.val .bool], []⟩)]
noncomputable def f54_8 (x : Int × (List S4) × Int × Int × Unit) : Option ((Int × (List S4) × Int × Int × Unit) ⊕ ((Unit) ⊕ (Bool × Unit))) :=
  let keep4 := x.1
  let v5 := x.2.1
  let v6 := x.2.2.1
  let v7 := x.2.2.2.1
  bif (blt v7 v6) then (
    bif (inR v7 (v5.length : Int)) then (
      bif ((v5.getD v7.toNat (false, (0 : Int), (0 : Int))).1 && (blt keep4 (v5.getD v7.toNat (false, (0 : Int), (0 : Int))).2.1)) then some (.inr (.inr (false, ())))
      else some (.inl (keep4, v5, v6, (wr (v7 + (1 : Int))), ())))
    else none)
  else some (.inr (.inl ()))
def ps54 : List VS := [.val (.row Y7), .val (.int .i64)]
def rs54 : List VS := [.val .bool]
noncomputable def f54 (x : (List S4) × Int × Unit) : Option ((Bool × Unit) × (Unit)) :=
  let guards1 := x.1
  (loopF f54_8 (x.2.1, guards1, (guards1.length : Int), (0 : Int), ())).bind fun y15 => match y15 with
    | .inl _ => (
      some ((true, ()), ()))
    | .inr z13 => (
      some ((z13.1, ()), ()))
/-! ### loop.example/loom/spec.l3change -/
def ps24 : List VS := [.val Y2, .val (.row Y7)]
def rs24 : List VS := [.own 111 Y7, .val .bool]
noncomputable def f24 (x : S2 × (List S4) × Unit) : Option (((List S4) × Bool × Unit) × (Unit)) :=
  let n1 := x.1
  let guards2 := x.2.1
  (f28 (guards2, ())).bind fun r3 =>
  let v4 := (r3.1.1.length : Int)
  bif (beq n1.1 (31 : Int)) then (
    let row6 := ([(true, n1.2.2.1, n1.2.1)])
    bif (nle (r3.1.1.length + row6.length) 5864062014805) then (
      (joinB (blt v4 (50 : Int)) ((f54 (guards2, n1.2.2.1, ())).bind fun r9 => (some r9.1.1)) (some false)).bind fun c10 =>
      some (((r3.1.1 ++ row6), c10, ()), ()))
    else none)
  else bif (beq n1.1 (33 : Int)) then (
    let row12 := ([(false, n1.2.1, (0 : Int))])
    bif (nle (r3.1.1.length + row12.length) 5864062014805) then (
      (joinB (blt v4 (50 : Int)) ((f54 (guards2, n1.2.1, ())).bind fun r15 => (some r15.1.1)) (some false)).bind fun c16 =>
      some (((r3.1.1 ++ row12), c16, ()), ()))
    else none)
  else bif (beq n1.1 (32 : Int)) then (
    (joinB (beq v4 (0 : Int)) (some true) (bif (inR (wr (v4 - (1 : Int))) (r3.1.1.length : Int)) then (some (!(r3.1.1.getD (wr (v4 - (1 : Int))).toNat (false, (0 : Int), (0 : Int))).1)) else none)).bind fun c19 =>
    bif c19 then some ((([] : List S4), false, ()), ())
    else (
      let v20 := (wr (v4 - (1 : Int)))
      bif (inE v20 (r3.1.1.length : Int)) then some (((r3.1.1.take v20.toNat), true, ()), ())
      else none))
  else bif ((beq n1.1 (34 : Int)) || ((beq n1.1 (35 : Int)) || (beq n1.1 (36 : Int)))) then (
    (joinB (beq v4 (0 : Int)) (some true) (bif (inR (wr (v4 - (1 : Int))) (r3.1.1.length : Int)) then (some (r3.1.1.getD (wr (v4 - (1 : Int))).toNat (false, (0 : Int), (0 : Int))).1) else none)).bind fun c25 =>
    (joinB c25 (some true) (joinB (beq n1.1 (34 : Int)) ((f54 (guards2, n1.2.1, ())).bind fun r26 => (some (!r26.1.1))) (some false))).bind fun c27 =>
    bif c27 then some ((([] : List S4), false, ()), ())
    else bif (beq n1.1 (34 : Int)) then (
      let v29 := (wr (v4 - (1 : Int)))
      bif (inR v29 (r3.1.1.length : Int)) then (
        let row30 := (r3.1.1.set v29.toNat ((r3.1.1.getD v29.toNat (false, (0 : Int), (0 : Int))).1, n1.2.1, (r3.1.1.getD v29.toNat (false, (0 : Int), (0 : Int))).2.2))
        bif (beq n1.1 (36 : Int)) then (
          let v32 := (wr (v4 - (1 : Int)))
          bif (inE v32 (row30.length : Int)) then some (((row30.take v32.toNat), true, ()), ())
          else none)
        else some ((row30, true, ()), ()))
      else none)
    else bif (beq n1.1 (36 : Int)) then (
      let v35 := (wr (v4 - (1 : Int)))
      bif (inE v35 (r3.1.1.length : Int)) then some (((r3.1.1.take v35.toNat), true, ()), ())
      else none)
    else some ((r3.1.1, true, ()), ()))
  else some ((r3.1.1, true, ()), ())
/-! ### loop.example/loom/spec.l3write -/
def ps25 : List VS := [.val Y2, .own 3 (.int .i64)]
def rs25 : List VS := []
noncomputable def f25 (x : S2 × (List Int) × Unit) : Option ((Unit) × ((List Int) × Unit)) :=
  let n1 := x.1
  let types2 := x.2.1
  bif (beq n1.1 (6 : Int)) then (
    bif (inR n1.2.1 (types2.length : Int)) then some ((), (types2.set n1.2.1.toNat (2 : Int)), ())
    else none)
  else bif ((beq n1.1 (22 : Int)) || ((beq n1.1 (27 : Int)) || (beq n1.1 (28 : Int)))) then (
    bif (inR n1.2.1 (types2.length : Int)) then some ((), (types2.set n1.2.1.toNat (3 : Int)), ())
    else none)
  else bif (beq n1.1 (40 : Int)) then (
    let v9 := (wr (n1.2.1 + (1 : Int)))
    bif (inR v9 (types2.length : Int)) then some ((), (types2.set v9.toNat (1 : Int)), ())
    else none)
  else bif (beq n1.1 (42 : Int)) then (
    bif (inR n1.2.1 (types2.length : Int)) then some ((), (types2.set n1.2.1.toNat (0 : Int)), ())
    else none)
  else bif (beq n1.1 (41 : Int)) then (
    bif (inR n1.2.2.2.1 (types2.length : Int)) then some ((), (types2.set n1.2.2.2.1.toNat (3 : Int)), ())
    else none)
  else (
    (f51 (n1.1, ())).bind fun r15 =>
    bif (inR (0 : Int) (r15.1.1.length : Int)) then (
      bif (beq (r15.1.1.getD (0 : Int).toNat (0 : Int)) (1 : Int)) then (
        bif (inR n1.2.1 (types2.length : Int)) then some ((), (types2.set n1.2.1.toNat (1 : Int)), ())
        else none)
      else some ((), types2, ()))
    else none)
/-! ### loop.example/loom/spec.l3kept -/
def sh26_24 : Sh := ⟨[1, 2, 3, 4, 5, 11, 12, 16, 17, 18, 26, 27, 28], [.val (.row Y7), .val (.row (.int .i64)), .val (.row (.int .i64)), .val (.row (.int .i64)), .box 59 [.sc Y2], .val (.int .i64), .box 111 [.sc Y7], .val (.row Y7), .val (.int .i64), .val (.int .i64), .val (.row (.int .i64)), .val (.int .i64), .val (.int .i64)], []⟩
def outs26_24 : List (Ex × Sh) := [((.exit 2), ⟨[1, 2, 3, 4, 5, 11, 12, 16, 17, 18], [.val (.row Y7), .val (.row (.int .i64)), .val (.row (.int .i64)), .val (.row (.int .i64)), .box 59 [.sc Y2], .val (.int .i64), .box 111 [.sc Y7], .val (.row Y7), .val (.int .i64), .val (.int .i64)], []⟩), (.ret, ⟨[10], [.val .bool], []⟩)]
noncomputable def f26_24 (x : (List S4) × (List Int) × (List Int) × (List Int) × (S2 × Unit) × Int × (S4 × Unit) × (List S4) × Int × Int × (List Int) × Int × Int × Unit) : Option (((List S4) × (List Int) × (List Int) × (List Int) × (S2 × Unit) × Int × (S4 × Unit) × (List S4) × Int × Int × (List Int) × Int × Int × Unit) ⊕ (((List S4) × (List Int) × (List Int) × (List Int) × (S2 × Unit) × Int × (S4 × Unit) × (List S4) × Int × Int × Unit) ⊕ (Bool × Unit))) :=
  let guards19 := x.1
  let taken20 := x.2.1
  let before21 := x.2.2.1
  let behind22 := x.2.2.2.1
  let i23 := x.2.2.2.2.2.1
  let v24 := x.2.2.2.2.2.2.2.1
  let v25 := x.2.2.2.2.2.2.2.2.1
  let v26 := x.2.2.2.2.2.2.2.2.2.1
  let v27 := x.2.2.2.2.2.2.2.2.2.2.1
  let v28 := x.2.2.2.2.2.2.2.2.2.2.2.1
  let v29 := x.2.2.2.2.2.2.2.2.2.2.2.2.1
  bif (blt v29 v28) then (
    bif (inR v29 (v27.length : Int)) then (
      bif (blt (v27.getD v29.toNat (0 : Int)) x.2.2.2.2.2.2.1.1.2.1) then some (.inr (.inr (false, ())))
      else some (.inl (guards19, taken20, before21, behind22, (x.2.2.2.2.1.1, ()), i23, (x.2.2.2.2.2.2.1.1, ()), v24, v25, v26, v27, v28, (wr (v29 + (1 : Int))), ())))
    else none)
  else some (.inr (.inl (guards19, taken20, before21, behind22, (x.2.2.2.2.1.1, ()), i23, (x.2.2.2.2.2.2.1.1, ()), v24, v25, v26, ())))
def sh26_52 : Sh := ⟨[1, 2, 3, 4, 5, 12, 15, 16, 17, 18], [.val (.row Y7), .val (.row (.int .i64)), .val (.row (.int .i64)), .val (.row (.int .i64)), .box 59 [.sc Y2], .box 111 [.sc Y7], .val (.int .i64), .val (.row Y7), .val (.int .i64), .val (.int .i64)], []⟩
def outs26_52 : List (Ex × Sh) := [((.exit 4), ⟨[1, 2, 3, 4, 5, 16, 17, 18], [.val (.row Y7), .val (.row (.int .i64)), .val (.row (.int .i64)), .val (.row (.int .i64)), .box 59 [.sc Y2], .val (.row Y7), .val (.int .i64), .val (.int .i64)], []⟩), (.ret, ⟨[10], [.val .bool], []⟩)]
noncomputable def f26_52 (x : (List S4) × (List Int) × (List Int) × (List Int) × (S2 × Unit) × (S4 × Unit) × Int × (List S4) × Int × Int × Unit) : Option (((List S4) × (List Int) × (List Int) × (List Int) × (S2 × Unit) × (S4 × Unit) × Int × (List S4) × Int × Int × Unit) ⊕ (((List S4) × (List Int) × (List Int) × (List Int) × (S2 × Unit) × (List S4) × Int × Int × Unit) ⊕ (Bool × Unit))) :=
  let guards46 := x.1
  let taken47 := x.2.1
  let before48 := x.2.2.1
  let behind49 := x.2.2.2.1
  let r50 := x.2.2.2.2.2.2.1
  let v51 := x.2.2.2.2.2.2.2.1
  let v52 := x.2.2.2.2.2.2.2.2.1
  let v53 := x.2.2.2.2.2.2.2.2.2.1
  bif (blt r50 x.2.2.2.2.2.1.1.2.1) then (
    bif (inR r50 (before48.length : Int)) then (
      bif (inR r50 (behind49.length : Int)) then (
        bif (bne (before48.getD r50.toNat (0 : Int)) (behind49.getD r50.toNat (0 : Int))) then some (.inr (.inr (false, ())))
        else some (.inl (guards46, taken47, before48, behind49, (x.2.2.2.2.1.1, ()), (x.2.2.2.2.2.1.1, ()), (wr (r50 + (1 : Int))), v51, v52, v53, ())))
      else none)
    else none)
  else some (.inr (.inl (guards46, taken47, before48, behind49, (x.2.2.2.2.1.1, ()), v51, v52, v53, ())))
def sh26_8 : Sh := ⟨[1, 2, 3, 4, 5, 16, 17, 18], [.val (.row Y7), .val (.row (.int .i64)), .val (.row (.int .i64)), .val (.row (.int .i64)), .box 59 [.sc Y2], .val (.row Y7), .val (.int .i64), .val (.int .i64)], []⟩
def outs26_8 : List (Ex × Sh) := [((.exit 0), ⟨[], [], []⟩), (.ret, ⟨[10], [.val .bool], []⟩)]
noncomputable def f26_8 (x : (List S4) × (List Int) × (List Int) × (List Int) × (S2 × Unit) × (List S4) × Int × Int × Unit) : Option (((List S4) × (List Int) × (List Int) × (List Int) × (S2 × Unit) × (List S4) × Int × Int × Unit) ⊕ ((Unit) ⊕ (Bool × Unit))) :=
  let guards7 := x.1
  let taken8 := x.2.1
  let before9 := x.2.2.1
  let behind10 := x.2.2.2.1
  let v11 := x.2.2.2.2.2.1
  let v12 := x.2.2.2.2.2.2.1
  let v13 := x.2.2.2.2.2.2.2.1
  bif (blt v13 v12) then (
    bif (inR v13 (v11.length : Int)) then (
      bif (!(v11.getD v13.toNat (false, (0 : Int), (0 : Int))).1) then (
        some (.inl (guards7, taken8, before9, behind10, (x.2.2.2.2.1.1, ()), v11, v12, (wr (v13 + (1 : Int))), ())))
      else (
        (loopF f26_24 (guards7, taken8, before9, behind10, (x.2.2.2.2.1.1, ()), v13, ((v11.getD v13.toNat (false, (0 : Int), (0 : Int))), ()), v11, v12, v13, taken8, (taken8.length : Int), (0 : Int), ())).bind fun y73 => match y73 with
          | .inl z34 => (
            let guards35 := z34.1
            let taken36 := z34.2.1
            let before37 := z34.2.2.1
            let behind38 := z34.2.2.2.1
            let v40 := z34.2.2.2.2.2.2.2.1
            let v41 := z34.2.2.2.2.2.2.2.2.1
            let v42 := z34.2.2.2.2.2.2.2.2.2.1
            bif ((beq z34.2.2.2.2.1.1.1 (32 : Int)) && (beq z34.2.2.2.2.2.1 (wr ((guards35.length : Int) - (1 : Int))))) then (
              some (.inl (guards35, taken36, before37, behind38, (z34.2.2.2.2.1.1, ()), v40, v41, (wr (v42 + (1 : Int))), ())))
            else (
              (loopF f26_52 (guards35, taken36, before37, behind38, (z34.2.2.2.2.1.1, ()), (z34.2.2.2.2.2.2.1.1, ()), (0 : Int), v40, v41, v42, ())).bind fun y70 => match y70 with
                | .inl z59 => (
                  some (.inl (z59.1, z59.2.1, z59.2.2.1, z59.2.2.2.1, (z59.2.2.2.2.1.1, ()), z59.2.2.2.2.2.1, z59.2.2.2.2.2.2.1, (wr (z59.2.2.2.2.2.2.2.1 + (1 : Int))), ())))
                | .inr z68 => (
                  some (.inr (.inr (z68.1, ()))))))
          | .inr z71 => (
            some (.inr (.inr (z71.1, ()))))))
    else none)
  else some (.inr (.inl ()))
def ps26 : List VS := [.val Y2, .val (.row Y7), .val (.row (.int .i64)), .val (.row (.int .i64)), .val (.row (.int .i64))]
def rs26 : List VS := [.val .bool]
noncomputable def f26 (x : S2 × (List S4) × (List Int) × (List Int) × (List Int) × Unit) : Option ((Bool × Unit) × (Unit)) :=
  let guards2 := x.2.1
  (loopF f26_8 (guards2, x.2.2.1, x.2.2.2.1, x.2.2.2.2.1, (x.1, ()), guards2, (guards2.length : Int), (0 : Int), ())).bind fun y77 => match y77 with
    | .inl _ => (
      some ((true, ()), ()))
    | .inr z75 => (
      some ((z75.1, ()), ()))
/-! ### loop.example/loom/spec.l3followers -/
def sh27_84 : Sh := ⟨[7, 11, 12, 15, 16], [.box 65 [.sc Y8], .box 59 [.sc Y2], .own 77 Y9, .own 3 (.int .i64), .val (.int .i64)], []⟩
def outs27_84 : List (Ex × Sh) := [((.exit 1), ⟨[7, 11, 12, 15], [.box 65 [.sc Y8], .box 59 [.sc Y2], .own 77 Y9, .own 3 (.int .i64)], []⟩)]
noncomputable def f27_84 (x : (S6 × Unit) × (S2 × Unit) × (List S5) × (List Int) × Int × Unit) : Option (((S6 × Unit) × (S2 × Unit) × (List S5) × (List Int) × Int × Unit) ⊕ ((S6 × Unit) × (S2 × Unit) × (List S5) × (List Int) × Unit)) :=
  let out35 := x.2.2.1
  let t36 := x.2.2.2.1
  let r37 := x.2.2.2.2.1
  bif (blt r37 (t36.length : Int)) then (
    bif (inR r37 (t36.length : Int)) then (
      some (.inl ((x.1.1, ()), (x.2.1.1, ()), out35, (t36.set r37.toNat (0 : Int)), (wr (r37 + (1 : Int))), ())))
    else none)
  else some (.inr ((x.1.1, ()), (x.2.1.1, ()), out35, t36, ()))
def ps27 : List VS := [.val Y4, .val (.int .i64), .val Y8, .val (.row (.int .i64)), .val (.row Y7)]
def rs27 : List VS := [.own 77 Y9]
noncomputable def f27 (x : S7 × Int × S6 × (List Int) × (List S4) × Unit) : Option (((List S5) × Unit) × (Unit)) :=
  let f1 := x.1
  let at2 := x.2.1
  let before3 := x.2.2.1
  let types4 := x.2.2.2.1
  let guards5 := x.2.2.2.2.1
  bif (inR at2 (f1.2.2.2.2.2.2.2.1.length : Int)) then (
    bif (((bne (f1.2.2.2.2.2.2.2.1.getD at2.toNat ((0 : Int), (0 : Int), (0 : Int), (0 : Int), (0 : Int))).1 (19 : Int)) && (bne (f1.2.2.2.2.2.2.2.1.getD at2.toNat ((0 : Int), (0 : Int), (0 : Int), (0 : Int), (0 : Int))).1 (29 : Int))) && (bne (f1.2.2.2.2.2.2.2.1.getD at2.toNat ((0 : Int), (0 : Int), (0 : Int), (0 : Int), (0 : Int))).1 (30 : Int))) then (
      let row11 := ([((wr (at2 + (1 : Int))), true, types4, guards5)])
      bif (nle (([] : List S5).length + row11.length) 2199023255552) then (
        let row12 := (([] : List S5) ++ row11)
        let v13 := (f1.2.2.2.2.2.2.2.1.getD at2.toNat ((0 : Int), (0 : Int), (0 : Int), (0 : Int), (0 : Int))).1
        bif (beq v13 (19 : Int)) then (
          let row16 := ([((f1.2.2.2.2.2.2.2.1.getD at2.toNat ((0 : Int), (0 : Int), (0 : Int), (0 : Int), (0 : Int))).2.1, true, types4, guards5)])
          bif (nle (row12.length + row16.length) 2199023255552) then some (((row12 ++ row16), ()), ())
          else none)
        else bif ((beq v13 (20 : Int)) || ((beq v13 (21 : Int)) || ((beq v13 (38 : Int)) || (beq v13 (39 : Int))))) then (
          let row21 := ([((f1.2.2.2.2.2.2.2.1.getD at2.toNat ((0 : Int), (0 : Int), (0 : Int), (0 : Int), (0 : Int))).2.2.1, true, types4, guards5)])
          bif (nle (row12.length + row21.length) 2199023255552) then some (((row12 ++ row21), ()), ())
          else none)
        else bif (beq v13 (41 : Int)) then (
          (f22 (types4, ())).bind fun r24 =>
          let v25 := (f1.2.2.2.2.2.2.2.1.getD at2.toNat ((0 : Int), (0 : Int), (0 : Int), (0 : Int), (0 : Int))).2.2.2.1
          let v26 := (f1.2.2.2.2.2.2.2.1.getD at2.toNat ((0 : Int), (0 : Int), (0 : Int), (0 : Int), (0 : Int))).2.2.2.1
          bif (inR v26 (before3.2.1.length : Int)) then (
            bif (inR v25 (r24.1.1.length : Int)) then (
              let row30 := ([((f1.2.2.2.2.2.2.2.1.getD at2.toNat ((0 : Int), (0 : Int), (0 : Int), (0 : Int), (0 : Int))).2.2.1, true, (r24.1.1.set v25.toNat (before3.2.1.getD v26.toNat (0 : Int))), guards5)])
              bif (nle (row12.length + row30.length) 2199023255552) then some (((row12 ++ row30), ()), ())
              else none)
            else none)
          else none)
        else bif (beq v13 (31 : Int)) then (
          (f22 (before3.2.1, ())).bind fun r33 =>
          (loopF f27_84 ((before3, ()), ((f1.2.2.2.2.2.2.2.1.getD at2.toNat ((0 : Int), (0 : Int), (0 : Int), (0 : Int), (0 : Int))), ()), row12, r33.1.1, (f1.2.2.2.2.2.2.2.1.getD at2.toNat ((0 : Int), (0 : Int), (0 : Int), (0 : Int), (0 : Int))).2.2.1, ())).bind fun z42 =>
          let out43 := z42.2.2.1
          let t44 := z42.2.2.2.1
          bif (inR z42.2.1.1.2.2.1 (t44.length : Int)) then (
            let row45 := (t44.set z42.2.1.1.2.2.1.toNat (1 : Int))
            let v46 := (wr (z42.2.1.1.2.2.1 + (1 : Int)))
            bif (inR v46 (row45.length : Int)) then (
              let row48 := ([(z42.2.1.1.2.1, true, (row45.set v46.toNat (1 : Int)), z42.1.1.2.2)])
              bif (nle (out43.length + row48.length) 2199023255552) then some (((out43 ++ row48), ()), ())
              else none)
            else none)
          else none)
        else some ((row12, ()), ()))
      else none)
    else (
      let v50 := (f1.2.2.2.2.2.2.2.1.getD at2.toNat ((0 : Int), (0 : Int), (0 : Int), (0 : Int), (0 : Int))).1
      bif (beq v50 (19 : Int)) then (
        let row53 := ([((f1.2.2.2.2.2.2.2.1.getD at2.toNat ((0 : Int), (0 : Int), (0 : Int), (0 : Int), (0 : Int))).2.1, true, types4, guards5)])
        bif (nle (([] : List S5).length + row53.length) 2199023255552) then some (((([] : List S5) ++ row53), ()), ())
        else none)
      else bif ((beq v50 (20 : Int)) || ((beq v50 (21 : Int)) || ((beq v50 (38 : Int)) || (beq v50 (39 : Int))))) then (
        let row58 := ([((f1.2.2.2.2.2.2.2.1.getD at2.toNat ((0 : Int), (0 : Int), (0 : Int), (0 : Int), (0 : Int))).2.2.1, true, types4, guards5)])
        bif (nle (([] : List S5).length + row58.length) 2199023255552) then some (((([] : List S5) ++ row58), ()), ())
        else none)
      else bif (beq v50 (41 : Int)) then (
        (f22 (types4, ())).bind fun r61 =>
        let v62 := (f1.2.2.2.2.2.2.2.1.getD at2.toNat ((0 : Int), (0 : Int), (0 : Int), (0 : Int), (0 : Int))).2.2.2.1
        let v63 := (f1.2.2.2.2.2.2.2.1.getD at2.toNat ((0 : Int), (0 : Int), (0 : Int), (0 : Int), (0 : Int))).2.2.2.1
        bif (inR v63 (before3.2.1.length : Int)) then (
          bif (inR v62 (r61.1.1.length : Int)) then (
            let row67 := ([((f1.2.2.2.2.2.2.2.1.getD at2.toNat ((0 : Int), (0 : Int), (0 : Int), (0 : Int), (0 : Int))).2.2.1, true, (r61.1.1.set v62.toNat (before3.2.1.getD v63.toNat (0 : Int))), guards5)])
            bif (nle (([] : List S5).length + row67.length) 2199023255552) then some (((([] : List S5) ++ row67), ()), ())
            else none)
          else none)
        else none)
      else bif (beq v50 (31 : Int)) then (
        (f22 (before3.2.1, ())).bind fun r70 =>
        (loopF f27_84 ((before3, ()), ((f1.2.2.2.2.2.2.2.1.getD at2.toNat ((0 : Int), (0 : Int), (0 : Int), (0 : Int), (0 : Int))), ()), ([] : List S5), r70.1.1, (f1.2.2.2.2.2.2.2.1.getD at2.toNat ((0 : Int), (0 : Int), (0 : Int), (0 : Int), (0 : Int))).2.2.1, ())).bind fun z72 =>
        let out73 := z72.2.2.1
        let t74 := z72.2.2.2.1
        bif (inR z72.2.1.1.2.2.1 (t74.length : Int)) then (
          let row75 := (t74.set z72.2.1.1.2.2.1.toNat (1 : Int))
          let v76 := (wr (z72.2.1.1.2.2.1 + (1 : Int)))
          bif (inR v76 (row75.length : Int)) then (
            let row78 := ([(z72.2.1.1.2.1, true, (row75.set v76.toNat (1 : Int)), z72.1.1.2.2)])
            bif (nle (out73.length + row78.length) 2199023255552) then some (((out73 ++ row78), ()), ())
            else none)
          else none)
        else none)
      else some ((([] : List S5), ()), ())))
  else none
/-! ### loop.example/loom/spec.l3same -/
def sh29_16 : Sh := ⟨[2, 3, 25, 26], [.box 65 [.sc Y8], .box 65 [.sc Y8], .val (.int .i64), .val (.int .i64)], []⟩
def outs29_16 : List (Ex × Sh) := [((.exit 0), ⟨[2, 3], [.box 65 [.sc Y8], .box 65 [.sc Y8]], []⟩), (.ret, ⟨[4], [.val .bool], []⟩)]
noncomputable def f29_16 (x : (S6 × Unit) × (S6 × Unit) × Int × Int × Unit) : Option (((S6 × Unit) × (S6 × Unit) × Int × Int × Unit) ⊕ (((S6 × Unit) × (S6 × Unit) × Unit) ⊕ (Bool × Unit))) :=
  let v8 := x.2.2.1
  let v9 := x.2.2.2.1
  bif (blt v9 v8) then (
    bif (inR v9 (x.1.1.2.1.length : Int)) then (
      bif (inR v9 (x.2.1.1.2.1.length : Int)) then (
        bif (bne (x.1.1.2.1.getD v9.toNat (0 : Int)) (x.2.1.1.2.1.getD v9.toNat (0 : Int))) then some (.inr (.inr (false, ())))
        else some (.inl ((x.1.1, ()), (x.2.1.1, ()), v8, (wr (v9 + (1 : Int))), ())))
      else none)
    else none)
  else some (.inr (.inl ((x.1.1, ()), (x.2.1.1, ()), ())))
def sh29_40 : Sh := ⟨[2, 3, 43, 44], [.box 65 [.sc Y8], .box 65 [.sc Y8], .val (.int .i64), .val (.int .i64)], []⟩
def outs29_40 : List (Ex × Sh) := [((.exit 2), ⟨[], [], []⟩), (.ret, ⟨[4], [.val .bool], []⟩)]
noncomputable def f29_40 (x : (S6 × Unit) × (S6 × Unit) × Int × Int × Unit) : Option (((S6 × Unit) × (S6 × Unit) × Int × Int × Unit) ⊕ ((Unit) ⊕ (Bool × Unit))) :=
  let v17 := x.2.2.1
  let v18 := x.2.2.2.1
  bif (blt v18 v17) then (
    bif (inR v18 (x.1.1.2.2.length : Int)) then (
      bif (inR v18 (x.2.1.1.2.2.length : Int)) then (
        bif (!((beqB (x.1.1.2.2.getD v18.toNat (false, (0 : Int), (0 : Int))).1 (x.2.1.1.2.2.getD v18.toNat (false, (0 : Int), (0 : Int))).1) && ((beq (x.1.1.2.2.getD v18.toNat (false, (0 : Int), (0 : Int))).2.1 (x.2.1.1.2.2.getD v18.toNat (false, (0 : Int), (0 : Int))).2.1) && ((beq (x.1.1.2.2.getD v18.toNat (false, (0 : Int), (0 : Int))).2.2 (x.2.1.1.2.2.getD v18.toNat (false, (0 : Int), (0 : Int))).2.2) && true)))) then some (.inr (.inr (false, ())))
        else some (.inl ((x.1.1, ()), (x.2.1.1, ()), v17, (wr (v18 + (1 : Int))), ())))
      else none)
    else none)
  else some (.inr (.inl ()))
def ps29 : List VS := [.val Y8, .val Y8]
def rs29 : List VS := [.val .bool]
noncomputable def f29 (x : S6 × S6 × Unit) : Option ((Bool × Unit) × (Unit)) :=
  let a1 := x.1
  let b2 := x.2.1
  bif ((bne (a1.2.1.length : Int) (b2.2.1.length : Int)) || (bne (a1.2.2.length : Int) (b2.2.2.length : Int))) then some ((false, ()), ())
  else (
    (loopF f29_16 ((a1, ()), (b2, ()), (a1.2.1.length : Int), (0 : Int), ())).bind fun y28 => match y28 with
      | .inl z15 => (
        (loopF f29_40 ((z15.1.1, ()), (z15.2.1.1, ()), (z15.1.1.2.2.length : Int), (0 : Int), ())).bind fun y25 => match y25 with
          | .inl _ => (
            some ((true, ()), ()))
          | .inr z23 => (
            some ((z23.1, ()), ())))
      | .inr z26 => (
        some ((z26.1, ()), ())))
/-! ### loop.example/loom/spec.l3walk -/
def sh12_24 : Sh := ⟨[1, 2, 5, 6, 7, 8, 9, 10], [.val (.int .i64), .box 31 [.sc Y5], .box 27 [.sc Y6], .box 57 [.sc Y4], .own 65 Y8, .own 4 .bool, .own 3 (.int .i64), .val (.int .i64)], []⟩
def outs12_24 : List (Ex × Sh) := [((.exit 0), ⟨[1, 2, 5, 6, 7, 8, 9], [.val (.int .i64), .box 31 [.sc Y5], .box 27 [.sc Y6], .box 57 [.sc Y4], .own 65 Y8, .own 4 .bool, .own 3 (.int .i64)], []⟩)]
noncomputable def f12_24 (x : Int × (S8 × Unit) × (S9 × Unit) × (S7 × Unit) × (List S6) × (List Bool) × (List Int) × Int × Unit) : Option ((Int × (S8 × Unit) × (S9 × Unit) × (S7 × Unit) × (List S6) × (List Bool) × (List Int) × Int × Unit) ⊕ (Int × (S8 × Unit) × (S9 × Unit) × (S7 × Unit) × (List S6) × (List Bool) × (List Int) × Unit)) :=
  let o11 := x.1
  let v12 := x.2.2.2.2.1
  let v13 := x.2.2.2.2.2.1
  let v14 := x.2.2.2.2.2.2.1
  let v15 := x.2.2.2.2.2.2.2.1
  bif (blt v15 x.2.2.2.1.1.2.2.1) then (
    bif (inR v15 (v14.length : Int)) then (
      some (.inl (o11, (x.2.1.1, ()), (x.2.2.1.1, ()), (x.2.2.2.1.1, ()), v12, v13, (v14.set v15.toNat (1 : Int)), (wr (v15 + (1 : Int))), ())))
    else none)
  else some (.inr (o11, (x.2.1.1, ()), (x.2.2.1.1, ()), (x.2.2.2.1.1, ()), v12, v13, v14, ()))
def sh12_56 : Sh := ⟨[1, 2, 5, 6, 7, 8, 11], [.val (.int .i64), .box 31 [.sc Y5], .box 27 [.sc Y6], .box 57 [.sc Y4], .own 65 Y8, .own 4 .bool, .val (.int .i64)], []⟩
def outs12_56 : List (Ex × Sh) := [((.exit 4), ⟨[1, 2, 5, 6, 7, 8, 11], [.val (.int .i64), .box 31 [.sc Y5], .box 27 [.sc Y6], .box 57 [.sc Y4], .own 65 Y8, .own 4 .bool, .val (.int .i64)], []⟩)]
noncomputable def f12_56 (x : Int × (S8 × Unit) × (S9 × Unit) × (S7 × Unit) × (List S6) × (List Bool) × Int × Unit) : Option ((Int × (S8 × Unit) × (S9 × Unit) × (S7 × Unit) × (List S6) × (List Bool) × Int × Unit) ⊕ (Int × (S8 × Unit) × (S9 × Unit) × (S7 × Unit) × (List S6) × (List Bool) × Int × Unit)) :=
  let o30 := x.1
  let v31 := x.2.2.2.2.1
  let v32 := x.2.2.2.2.2.1
  let v33 := x.2.2.2.2.2.2.1
  (joinB (blt v33 (v32.length : Int)) (bif (inR v33 (v32.length : Int)) then (some (!(v32.getD v33.toNat false))) else none) (some false)).bind fun c36 =>
  bif c36 then (
    some (.inl (o30, (x.2.1.1, ()), (x.2.2.1.1, ()), (x.2.2.2.1.1, ()), v31, v32, (wr (v33 + (1 : Int))), ())))
  else some (.inr (o30, (x.2.1.1, ()), (x.2.2.1.1, ()), (x.2.2.2.1.1, ()), v31, v32, v33, ()))
def sh12_72 : Sh := ⟨[1, 5, 6, 7, 75, 76], [.val (.int .i64), .box 27 [.sc Y6], .box 57 [.sc Y4], .own 65 Y8, .val (.int .i64), .val (.int .i64)], []⟩
def outs12_72 : List (Ex × Sh) := [((.exit 6), ⟨[5, 7], [.box 27 [.sc Y6], .own 65 Y8], []⟩), (.ret, ⟨[4, 5], [.own 65 Y8, .box 27 [.sc Y6]], []⟩)]
noncomputable def f12_72 (x : Int × (S9 × Unit) × (S7 × Unit) × (List S6) × Int × Int × Unit) : Option ((Int × (S9 × Unit) × (S7 × Unit) × (List S6) × Int × Int × Unit) ⊕ (((S9 × Unit) × (List S6) × Unit) ⊕ ((List S6) × (S9 × Unit) × Unit))) :=
  let o46 := x.1
  let v47 := x.2.2.2.1
  let v48 := x.2.2.2.2.1
  let v49 := x.2.2.2.2.2.1
  bif (blt v49 v48) then (
    bif (inR v49 (v47.length : Int)) then (
      (joinB (v47.getD v49.toNat (false, ([] : List Int), ([] : List S4))).1 ((f21 (x.2.2.1.1, v49, ())).bind fun r52 => (some r52.1.1)) (some false)).bind fun c53 =>
      bif c53 then (
        (f20 ((14 : Int), o46, v49, ())).bind fun r54 =>
        some (.inr (.inr (([] : List S6), (r54.1.1, ()), ()))))
      else some (.inl (o46, (x.2.1.1, ()), (x.2.2.1.1, ()), v47, v48, (wr (v49 + (1 : Int))), ())))
    else none)
  else some (.inr (.inl ((x.2.1.1, ()), v47, ())))
def sh12_148 : Sh := ⟨[1, 2, 5, 6, 7, 8, 166, 167, 168], [.val (.int .i64), .box 31 [.sc Y5], .box 27 [.sc Y6], .box 57 [.sc Y4], .own 65 Y8, .own 4 .bool, .own 77 Y9, .val (.int .i64), .val (.int .i64)], []⟩
def outs12_148 : List (Ex × Sh) := [((.exit 8), ⟨[1, 2, 5, 6, 7, 8], [.val (.int .i64), .box 31 [.sc Y5], .box 27 [.sc Y6], .box 57 [.sc Y4], .own 65 Y8, .own 4 .bool], []⟩), (.ret, ⟨[4, 5], [.own 65 Y8, .box 27 [.sc Y6]], []⟩)]
noncomputable def f12_148 (x : Int × (S8 × Unit) × (S9 × Unit) × (S7 × Unit) × (List S6) × (List Bool) × (List S5) × Int × Int × Unit) : Option ((Int × (S8 × Unit) × (S9 × Unit) × (S7 × Unit) × (List S6) × (List Bool) × (List S5) × Int × Int × Unit) ⊕ ((Int × (S8 × Unit) × (S9 × Unit) × (S7 × Unit) × (List S6) × (List Bool) × Unit) ⊕ ((List S6) × (S9 × Unit) × Unit))) :=
  let o79 := x.1
  let v80 := x.2.2.2.2.1
  let v81 := x.2.2.2.2.2.1
  let v82 := x.2.2.2.2.2.2.1
  let v83 := x.2.2.2.2.2.2.2.1
  let v84 := x.2.2.2.2.2.2.2.2.1
  bif (blt v84 v83) then (
    bif (inR v84 (v82.length : Int)) then (
      let v86 := (v82.getD v84.toNat ((0 : Int), false, ([] : List Int), ([] : List S4))).1
      bif (inR v86 (v80.length : Int)) then (
        bif (!(v80.getD v86.toNat (false, ([] : List Int), ([] : List S4))).1) then (
          let v89 := (v82.getD v84.toNat ((0 : Int), false, ([] : List Int), ([] : List S4))).1
          (f22 ((v82.getD v84.toNat ((0 : Int), false, ([] : List Int), ([] : List S4))).2.2.1, ())).bind fun r91 =>
          (f28 ((v82.getD v84.toNat ((0 : Int), false, ([] : List Int), ([] : List S4))).2.2.2, ())).bind fun r93 =>
          bif (inR v89 (v80.length : Int)) then (
            let v95 := (v82.getD v84.toNat ((0 : Int), false, ([] : List Int), ([] : List S4))).1
            bif (inR v95 (v81.length : Int)) then (
              some (.inl (o79, (x.2.1.1, ()), (x.2.2.1.1, ()), (x.2.2.2.1.1, ()), (v80.set v89.toNat (true, r91.1.1, r93.1.1)), (v81.set v95.toNat true), v82, v83, (wr (v84 + (1 : Int))), ())))
            else none)
          else none)
        else (
          let v98 := (v82.getD v84.toNat ((0 : Int), false, ([] : List Int), ([] : List S4))).1
          bif (inR v98 (v80.length : Int)) then (
            (f29 ((v80.getD v98.toNat (false, ([] : List Int), ([] : List S4))), (v82.getD v84.toNat ((0 : Int), false, ([] : List Int), ([] : List S4))).2, ())).bind fun r99 =>
            bif (!r99.1.1) then (
              (f20 ((13 : Int), o79, (v82.getD v84.toNat ((0 : Int), false, ([] : List Int), ([] : List S4))).1, ())).bind fun r102 =>
              some (.inr (.inr (([] : List S6), (r102.1.1, ()), ()))))
            else some (.inl (o79, (x.2.1.1, ()), (x.2.2.1.1, ()), (x.2.2.2.1.1, ()), v80, v81, v82, v83, (wr (v84 + (1 : Int))), ())))
          else none))
      else none)
    else none)
  else some (.inr (.inl (o79, (x.2.1.1, ()), (x.2.2.1.1, ()), (x.2.2.2.1.1, ()), v80, v81, ())))
def sh12_52 : Sh := ⟨[1, 2, 5, 6, 7, 8], [.val (.int .i64), .box 31 [.sc Y5], .box 27 [.sc Y6], .box 57 [.sc Y4], .own 65 Y8, .own 4 .bool], []⟩
def outs12_52 : List (Ex × Sh) := [(.ret, ⟨[4, 5], [.own 65 Y8, .box 27 [.sc Y6]], []⟩)]
noncomputable def f12_52 (x : Int × (S8 × Unit) × (S9 × Unit) × (S7 × Unit) × (List S6) × (List Bool) × Unit) : Option ((Int × (S8 × Unit) × (S9 × Unit) × (S7 × Unit) × (List S6) × (List Bool) × Unit) ⊕ ((List S6) × (S9 × Unit) × Unit)) :=
  (loopF f12_56 (x.1, (x.2.1.1, ()), (x.2.2.1.1, ()), (x.2.2.2.1.1, ()), x.2.2.2.2.1, x.2.2.2.2.2.1, (0 : Int), ())).bind fun z38 =>
  let o39 := z38.1
  let v40 := z38.2.2.2.2.1
  let v41 := z38.2.2.2.2.2.1
  let v42 := z38.2.2.2.2.2.2.1
  bif (beq v42 (v41.length : Int)) then (
    (loopF f12_72 (o39, (z38.2.2.1.1, ()), (z38.2.2.2.1.1, ()), v40, (v40.length : Int), (0 : Int), ())).bind fun y60 => match y60 with
      | .inl z56 => (
        some (.inr (z56.2.1, (((0 : Int), (0 : Int), (0 : Int)), ()), ())))
      | .inr z58 => (
        some (.inr (z58.1, (z58.2.1.1, ()), ()))))
  else bif (inR v42 (v41.length : Int)) then (
    bif (inR v42 (z38.2.2.2.1.1.2.2.2.2.2.2.2.1.length : Int)) then (
      bif (inR v42 (v40.length : Int)) then (
        (f22 ((v40.getD v42.toNat (false, ([] : List Int), ([] : List S4))).2.1, ())).bind fun r63 =>
        (f23 (z38.2.1.1, o39, (z38.2.2.2.1.1.2.2.2.2.2.2.2.1.getD v42.toNat ((0 : Int), (0 : Int), (0 : Int), (0 : Int), (0 : Int))), r63.1.1, ())).bind fun r64 =>
        bif (!r64.1.2.1) then (
          (f20 ((10 : Int), o39, v42, ())).bind fun r66 =>
          some (.inr (([] : List S6), (r66.1.1, ()), ())))
        else bif (inR v42 (v40.length : Int)) then (
          (f24 ((z38.2.2.2.1.1.2.2.2.2.2.2.2.1.getD v42.toNat ((0 : Int), (0 : Int), (0 : Int), (0 : Int), (0 : Int))), (v40.getD v42.toNat (false, ([] : List Int), ([] : List S4))).2.2, ())).bind fun r68 =>
          bif (!r68.1.2.1) then (
            (f20 ((11 : Int), o39, v42, ())).bind fun r70 =>
            some (.inr (([] : List S6), (r70.1.1, ()), ())))
          else (
            (f25 ((z38.2.2.2.1.1.2.2.2.2.2.2.2.1.getD v42.toNat ((0 : Int), (0 : Int), (0 : Int), (0 : Int), (0 : Int))), r64.2.1, ())).bind fun r71 =>
            bif (inR v42 (v40.length : Int)) then (
              bif (inR v42 (v40.length : Int)) then (
                (f26 ((z38.2.2.2.1.1.2.2.2.2.2.2.2.1.getD v42.toNat ((0 : Int), (0 : Int), (0 : Int), (0 : Int), (0 : Int))), (v40.getD v42.toNat (false, ([] : List Int), ([] : List S4))).2.2, r64.1.1, (v40.getD v42.toNat (false, ([] : List Int), ([] : List S4))).2.1, r71.2.1, ())).bind fun r74 =>
                bif (!r74.1.1) then (
                  (f20 ((12 : Int), o39, v42, ())).bind fun r76 =>
                  some (.inr (([] : List S6), (r76.1.1, ()), ())))
                else bif (inR v42 (v40.length : Int)) then (
                  (f27 (z38.2.2.2.1.1, v42, (v40.getD v42.toNat (false, ([] : List Int), ([] : List S4))), r71.2.1, r68.1.1, ())).bind fun r77 =>
                  (loopF f12_148 (o39, (z38.2.1.1, ()), (z38.2.2.1.1, ()), (z38.2.2.2.1.1, ()), v40, (v41.set v42.toNat false), r77.1.1, (r77.1.1.length : Int), (0 : Int), ())).bind fun y110 => match y110 with
                    | .inl z104 => (
                      some (.inl (z104.1, (z104.2.1.1, ()), (z104.2.2.1.1, ()), (z104.2.2.2.1.1, ()), z104.2.2.2.2.1, z104.2.2.2.2.2.1, ())))
                    | .inr z108 => (
                      some (.inr (z108.1, (z108.2.1.1, ()), ()))))
                else none)
              else none)
            else none))
        else none)
      else none)
    else none)
  else none
def ps12 : List VS := [.val Y5, .val (.int .i64)]
def rs12 : List VS := [.own 65 Y8, .val Y6]
noncomputable def f12 (x : S8 × Int × Unit) : Option (((List S6) × S9 × Unit) × (Unit)) :=
  let t1 := x.1
  let o2 := x.2.1
  bif (inR o2 (t1.length : Int)) then (
    let v4 := ((t1.getD o2.toNat ((⟨#[]⟩ : ByteArray), (0 : Int), (0 : Int), false, (0 : Int), ([] : List S0), ([] : List S1), ([] : List S2), ([] : List S3))).2.2.2.2.2.2.2.1.length : Int)
    bif (inE v4 ((5026338869833 : Nat) : Int)) then (
      let v7 := ((t1.getD o2.toNat ((⟨#[]⟩ : ByteArray), (0 : Int), (0 : Int), false, (0 : Int), ([] : List S0), ([] : List S1), ([] : List S2), ([] : List S3))).2.2.2.2.2.2.2.1.length : Int)
      bif (inE v7 ((281474976710656 : Nat) : Int)) then (
        let v9 := (t1.getD o2.toNat ((⟨#[]⟩ : ByteArray), (0 : Int), (0 : Int), false, (0 : Int), ([] : List S0), ([] : List S1), ([] : List S2), ([] : List S3))).2.2.2.2.1
        bif (inE v9 ((35184372088832 : Nat) : Int)) then (
          (loopF f12_24 (o2, (t1, ()), (((0 : Int), (0 : Int), (0 : Int)), ()), ((t1.getD o2.toNat ((⟨#[]⟩ : ByteArray), (0 : Int), (0 : Int), false, (0 : Int), ([] : List S0), ([] : List S1), ([] : List S2), ([] : List S3))), ()), (List.replicate v4.toNat (false, ([] : List Int), ([] : List S4))), (List.replicate v7.toNat false), (List.replicate v9.toNat (0 : Int)), (0 : Int), ())).bind fun z19 =>
          let o20 := z19.1
          let v21 := z19.2.2.2.2.1
          let v22 := z19.2.2.2.2.2.1
          let v23 := z19.2.2.2.2.2.2.1
          bif z19.2.2.2.1.1.2.2.2.1 then (
            bif (inR z19.2.2.2.1.1.2.2.1 (v23.length : Int)) then (
              bif (inR (0 : Int) (v21.length : Int)) then (
                bif (inR (0 : Int) (v22.length : Int)) then (
                  (loopF f12_52 (o20, (z19.2.1.1, ()), (z19.2.2.1.1, ()), (z19.2.2.2.1.1, ()), (v21.set (0 : Int).toNat (true, (v23.set z19.2.2.2.1.1.2.2.1.toNat (3 : Int)), ([] : List S4))), (v22.set (0 : Int).toNat true), ())).bind fun z111 =>
                  some ((z111.1, z111.2.1.1, ()), ()))
                else none)
              else none)
            else none)
          else bif (inR (0 : Int) (v21.length : Int)) then (
            bif (inR (0 : Int) (v22.length : Int)) then (
              (loopF f12_52 (o20, (z19.2.1.1, ()), (z19.2.2.1.1, ()), (z19.2.2.2.1.1, ()), (v21.set (0 : Int).toNat (true, v23, ([] : List S4))), (v22.set (0 : Int).toNat true), ())).bind fun z115 =>
              some ((z115.1, z115.2.1.1, ()), ()))
            else none)
          else none)
        else none)
      else none)
    else none)
  else none
/-! ### loop.example/loom/spec.CheckCode -/
def sh5_20 : Sh := ⟨[1, 2, 15, 16], [.box 31 [.sc Y5], .box 27 [.sc Y6], .val (.int .i64), .val (.int .i64)], []⟩
def outs5_20 : List (Ex × Sh) := [((.exit 0), ⟨[2], [.box 27 [.sc Y6]], []⟩), (.ret, ⟨[2], [.box 27 [.sc Y6]], []⟩)]
noncomputable def f5_20 (x : (S8 × Unit) × (S9 × Unit) × Int × Int × Unit) : Option (((S8 × Unit) × (S9 × Unit) × Int × Int × Unit) ⊕ (((S9 × Unit) × Unit) ⊕ ((S9 × Unit) × Unit))) :=
  let v5 := x.2.2.1
  let v6 := x.2.2.2.1
  bif (blt v6 v5) then (
    (f12 (x.1.1, v6, ())).bind fun r8 =>
    bif (bne r8.1.2.1.1 (0 : Int)) then some (.inr (.inr ((r8.1.2.1, ()), ())))
    else some (.inl ((x.1.1, ()), (x.2.1.1, ()), v5, (wr (v6 + (1 : Int))), ())))
  else some (.inr (.inl ((x.2.1.1, ()), ())))
def ps5 : List VS := [.val Y5]
def rs5 : List VS := [.val Y6]
noncomputable def f5 (x : S8 × Unit) : Option ((S9 × Unit) × (Unit)) :=
  let c1 := x.1
  (f11 (c1, ())).bind fun r2 =>
  bif (bne r2.1.1.1 (0 : Int)) then some ((r2.1.1, ()), ())
  else (
    (loopF f5_20 ((c1, ()), (((0 : Int), (0 : Int), (0 : Int)), ()), (c1.length : Int), (0 : Int), ())).bind fun y13 => match y13 with
      | .inl _ => (
        some ((((0 : Int), (0 : Int), (0 : Int)), ()), ()))
      | .inr z12 => (
        some ((z12.1.1, ()), ())))
/-! ### loop.example/loom/laws.toUp -/
def ps75 : List VS := [.val Y0]
def rs75 : List VS := [.val Y0]
noncomputable def f75 (x : S0 × Unit) : Option ((S0 × Unit) × (Unit)) :=
  some ((x.1, ()), ())
/-! ### loop.example/loom/laws.toUpS -/
def sh55_12 : Sh := ⟨[0, 3, 4], [.val (.row Y0), .own 91 Y0, .val (.int .i64)], []⟩
def outs55_12 : List (Ex × Sh) := [((.exit 0), ⟨[3], [.own 91 Y0], []⟩)]
noncomputable def f55_12 (x : (List S0) × (List S0) × Int × Unit) : Option (((List S0) × (List S0) × Int × Unit) ⊕ ((List S0) × Unit)) :=
  let a4 := x.1
  let out5 := x.2.1
  let i6 := x.2.2.1
  bif (blt i6 (a4.length : Int)) then (
    bif (inR i6 (a4.length : Int)) then (
      (f75 ((a4.getD i6.toNat (false, (0 : Int))), ())).bind fun r9 =>
      bif (inR i6 (out5.length : Int)) then (
        some (.inl (a4, (out5.set i6.toNat r9.1.1), (wr (i6 + (1 : Int))), ())))
      else none)
    else none)
  else some (.inr (out5, ()))
def ps55 : List VS := [.val (.row Y0)]
def rs55 : List VS := [.own 91 Y0]
noncomputable def f55 (x : (List S0) × Unit) : Option (((List S0) × Unit) × (Unit)) :=
  let a1 := x.1
  let v2 := (a1.length : Int)
  bif (inE v2 ((17592186044416 : Nat) : Int)) then (
    (loopF f55_12 (a1, (List.replicate v2.toNat (false, (0 : Int))), (0 : Int), ())).bind fun z12 =>
    some ((z12.1, ()), ()))
  else none
/-! ### loop.example/loom/laws.toValue -/
def ps76 : List VS := [.val Y1]
def rs76 : List VS := [.val Y1]
noncomputable def f76 (x : S1 × Unit) : Option ((S1 × Unit) × (Unit)) :=
  some ((x.1, ()), ())
/-! ### loop.example/loom/laws.toValueS -/
def sh56_12 : Sh := ⟨[0, 3, 4], [.val (.row Y1), .own 84 Y1, .val (.int .i64)], []⟩
def outs56_12 : List (Ex × Sh) := [((.exit 0), ⟨[3], [.own 84 Y1], []⟩)]
noncomputable def f56_12 (x : (List S1) × (List S1) × Int × Unit) : Option (((List S1) × (List S1) × Int × Unit) ⊕ ((List S1) × Unit)) :=
  let a4 := x.1
  let out5 := x.2.1
  let i6 := x.2.2.1
  bif (blt i6 (a4.length : Int)) then (
    bif (inR i6 (a4.length : Int)) then (
      (f76 ((a4.getD i6.toNat ((0 : Int), (0 : Int), (0 : Nat), (⟨#[]⟩ : ByteArray), (0 : Int))), ())).bind fun r9 =>
      bif (inR i6 (out5.length : Int)) then (
        some (.inl (a4, (out5.set i6.toNat r9.1.1), (wr (i6 + (1 : Int))), ())))
      else none)
    else none)
  else some (.inr (out5, ()))
def ps56 : List VS := [.val (.row Y1)]
def rs56 : List VS := [.own 84 Y1]
noncomputable def f56 (x : (List S1) × Unit) : Option (((List S1) × Unit) × (Unit)) :=
  let a1 := x.1
  let v2 := (a1.length : Int)
  bif (inE v2 ((5864062014805 : Nat) : Int)) then (
    (loopF f56_12 (a1, (List.replicate v2.toNat ((0 : Int), (0 : Int), (0 : Nat), (⟨#[]⟩ : ByteArray), (0 : Int))), (0 : Int), ())).bind fun z12 =>
    some ((z12.1, ()), ()))
  else none
/-! ### loop.example/loom/laws.toIns -/
def ps77 : List VS := [.val Y2]
def rs77 : List VS := [.val Y2]
noncomputable def f77 (x : S2 × Unit) : Option ((S2 × Unit) × (Unit)) :=
  some ((x.1, ()), ())
/-! ### loop.example/loom/laws.toInsS -/
def sh57_12 : Sh := ⟨[0, 3, 4], [.val (.row Y2), .own 59 Y2, .val (.int .i64)], []⟩
def outs57_12 : List (Ex × Sh) := [((.exit 0), ⟨[3], [.own 59 Y2], []⟩)]
noncomputable def f57_12 (x : (List S2) × (List S2) × Int × Unit) : Option (((List S2) × (List S2) × Int × Unit) ⊕ ((List S2) × Unit)) :=
  let a4 := x.1
  let out5 := x.2.1
  let i6 := x.2.2.1
  bif (blt i6 (a4.length : Int)) then (
    bif (inR i6 (a4.length : Int)) then (
      (f77 ((a4.getD i6.toNat ((0 : Int), (0 : Int), (0 : Int), (0 : Int), (0 : Int))), ())).bind fun r9 =>
      bif (inR i6 (out5.length : Int)) then (
        some (.inl (a4, (out5.set i6.toNat r9.1.1), (wr (i6 + (1 : Int))), ())))
      else none)
    else none)
  else some (.inr (out5, ()))
def ps57 : List VS := [.val (.row Y2)]
def rs57 : List VS := [.own 59 Y2]
noncomputable def f57 (x : (List S2) × Unit) : Option (((List S2) × Unit) × (Unit)) :=
  let a1 := x.1
  let v2 := (a1.length : Int)
  bif (inE v2 ((7036874417766 : Nat) : Int)) then (
    (loopF f57_12 (a1, (List.replicate v2.toNat ((0 : Int), (0 : Int), (0 : Int), (0 : Int), (0 : Int))), (0 : Int), ())).bind fun z12 =>
    some ((z12.1, ()), ()))
  else none
/-! ### loop.example/loom/laws.toNamed -/
def ps78 : List VS := [.val Y3]
def rs78 : List VS := [.val Y3]
noncomputable def f78 (x : S3 × Unit) : Option ((S3 × Unit) × (Unit)) :=
  some ((x.1, ()), ())
/-! ### loop.example/loom/laws.toNamedS -/
def sh58_12 : Sh := ⟨[0, 3, 4], [.val (.row Y3), .own 88 Y3, .val (.int .i64)], []⟩
def outs58_12 : List (Ex × Sh) := [((.exit 0), ⟨[3], [.own 88 Y3], []⟩)]
noncomputable def f58_12 (x : (List S3) × (List S3) × Int × Unit) : Option (((List S3) × (List S3) × Int × Unit) ⊕ ((List S3) × Unit)) :=
  let a4 := x.1
  let out5 := x.2.1
  let i6 := x.2.2.1
  bif (blt i6 (a4.length : Int)) then (
    bif (inR i6 (a4.length : Int)) then (
      (f78 ((a4.getD i6.toNat ((⟨#[]⟩ : ByteArray), (0 : Int), (0 : Int), (0 : Int))), ())).bind fun r9 =>
      bif (inR i6 (out5.length : Int)) then (
        some (.inl (a4, (out5.set i6.toNat r9.1.1), (wr (i6 + (1 : Int))), ())))
      else none)
    else none)
  else some (.inr (out5, ()))
def ps58 : List VS := [.val (.row Y3)]
def rs58 : List VS := [.own 88 Y3]
noncomputable def f58 (x : (List S3) × Unit) : Option (((List S3) × Unit) × (Unit)) :=
  let a1 := x.1
  let v2 := (a1.length : Int)
  bif (inE v2 ((7036874417766 : Nat) : Int)) then (
    (loopF f58_12 (a1, (List.replicate v2.toNat ((⟨#[]⟩ : ByteArray), (0 : Int), (0 : Int), (0 : Int))), (0 : Int), ())).bind fun z12 =>
    some ((z12.1, ()), ()))
  else none
/-! ### loop.example/loom/laws.toProto -/
def ps30 : List VS := [.val Y4]
def rs30 : List VS := [.rc [.sc .str, .sc (.int .i64), .sc (.int .i64), .sc .bool, .sc (.int .i64), .own 91 Y0, .own 84 Y1, .own 59 Y2, .own 88 Y3]]
noncomputable def f30 (x : S7 × Unit) : Option (((ByteArray × Int × Int × Bool × Int × (List S0) × (List S1) × (List S2) × (List S3) × Unit) × Unit) × (Unit)) :=
  let a1 := x.1
  (f55 (a1.2.2.2.2.2.1, ())).bind fun r2 =>
  (f56 (a1.2.2.2.2.2.2.1, ())).bind fun r3 =>
  (f57 (a1.2.2.2.2.2.2.2.1, ())).bind fun r4 =>
  (f58 (a1.2.2.2.2.2.2.2.2, ())).bind fun r5 =>
  some (((a1.1, a1.2.1, a1.2.2.1, a1.2.2.2.1, a1.2.2.2.2.1, r2.1.1, r3.1.1, r4.1.1, r5.1.1, ()), ()), ())
/-! ### loop.example/loom/laws.toProtoS -/
def sh13_12 : Sh := ⟨[0, 3, 4], [.val (.row Y4), .own 57 Y4, .val (.int .i64)], []⟩
def outs13_12 : List (Ex × Sh) := [((.exit 0), ⟨[3], [.own 57 Y4], []⟩)]
noncomputable def f13_12 (x : (List S7) × (List S7) × Int × Unit) : Option (((List S7) × (List S7) × Int × Unit) ⊕ ((List S7) × Unit)) :=
  let a4 := x.1
  let out5 := x.2.1
  let i6 := x.2.2.1
  bif (blt i6 (a4.length : Int)) then (
    bif (inR i6 (a4.length : Int)) then (
      (f30 ((a4.getD i6.toNat ((⟨#[]⟩ : ByteArray), (0 : Int), (0 : Int), false, (0 : Int), ([] : List S0), ([] : List S1), ([] : List S2), ([] : List S3))), ())).bind fun r9 =>
      bif (inR i6 (out5.length : Int)) then (
        some (.inl (a4, (out5.set i6.toNat (r9.1.1.1, r9.1.1.2.1, r9.1.1.2.2.1, r9.1.1.2.2.2.1, r9.1.1.2.2.2.2.1, r9.1.1.2.2.2.2.2.1, r9.1.1.2.2.2.2.2.2.1, r9.1.1.2.2.2.2.2.2.2.1, r9.1.1.2.2.2.2.2.2.2.2.1)), (wr (i6 + (1 : Int))), ())))
      else none)
    else none)
  else some (.inr (out5, ()))
def ps13 : List VS := [.val (.row Y4)]
def rs13 : List VS := [.own 57 Y4]
noncomputable def f13 (x : (List S7) × Unit) : Option (((List S7) × Unit) × (Unit)) :=
  let a1 := x.1
  let v2 := (a1.length : Int)
  bif (inE v2 ((1954687338268 : Nat) : Int)) then (
    (loopF f13_12 (a1, (List.replicate v2.toNat ((⟨#[]⟩ : ByteArray), (0 : Int), (0 : Int), false, (0 : Int), ([] : List S0), ([] : List S1), ([] : List S2), ([] : List S3))), (0 : Int), ())).bind fun z12 =>
    some ((z12.1, ()), ()))
  else none
/-! ### loop.example/loom/laws.toCode -/
def ps6 : List VS := [.val Y5]
def rs6 : List VS := [.rc [.own 57 Y4]]
noncomputable def f6 (x : S8 × Unit) : Option ((((List S7) × Unit) × Unit) × (Unit)) :=
  (f13 (x.1, ())).bind fun r2 =>
  some (((r2.1.1, ()), ()), ())
/-! ### loop.example/loom/impl.within -/
def ps31 : List VS := [.val (.int .i64), .val (.int .i64), .val (.int .i64)]
def rs31 : List VS := [.val .bool]
noncomputable def f31 (x : Int × Int × Int × Unit) : Option ((Bool × Unit) × (Unit)) :=
  let x1 := x.1
  some ((((ble x.2.1 x1) && (ble x1 x.2.2.1)), ()), ())
/-! ### loop.example/loom/impl.bare -/
def ps59 : List VS := [.val Y1, .val .bool, .val .bool, .val .bool, .val .bool]
def rs59 : List VS := [.val .bool]
noncomputable def f59 (x : S1 × Bool × Bool × Bool × Bool × Unit) : Option ((Bool × Unit) × (Unit)) :=
  let v1 := x.1
  some ((((((x.2.1 || (beq v1.2.1 (0 : Int))) && (x.2.2.1 || (fOrd v1.2.2.1 (0 : Nat) == some .eq))) && (x.2.2.2.1 || (beqS v1.2.2.2.1 (⟨#[]⟩ : ByteArray)))) && (x.2.2.2.2.1 || (beq v1.2.2.2.2 (0 : Int)))), ()), ())
/-! ### loop.example/loom/impl.valueOk -/
def ps32 : List VS := [.val Y1]
def rs32 : List VS := [.val .bool]
noncomputable def f32 (x : S1 × Unit) : Option ((Bool × Unit) × (Unit)) :=
  let v1 := x.1
  bif (beq v1.1 (0 : Int)) then (
    (f59 (v1, false, false, false, false, ())).bind fun r3 =>
    some ((r3.1.1, ()), ()))
  else bif (beq v1.1 (1 : Int)) then (
    (f59 (v1, true, false, false, false, ())).bind fun r5 =>
    some (((r5.1.1 && ((beq v1.2.1 (0 : Int)) || (beq v1.2.1 (1 : Int)))), ()), ()))
  else bif (beq v1.1 (2 : Int)) then (
    (f59 (v1, true, false, false, false, ())).bind fun r8 =>
    some ((r8.1.1, ()), ()))
  else bif (beq v1.1 (3 : Int)) then (
    (f59 (v1, false, true, false, false, ())).bind fun r10 =>
    some ((r10.1.1, ()), ()))
  else bif (beq v1.1 (4 : Int)) then (
    (f59 (v1, false, false, true, false, ())).bind fun r12 =>
    some (((r12.1.1 && (ble (v1.2.2.2.1.size : Int) (4000 : Int))), ()), ()))
  else bif ((beq v1.1 (5 : Int)) || ((beq v1.1 (6 : Int)) || (beq v1.1 (7 : Int)))) then (
    (f59 (v1, false, false, false, true, ())).bind fun r16 =>
    some (((r16.1.1 && (ble (0 : Int) v1.2.2.2.2)), ()), ()))
  else bif (beq v1.1 (8 : Int)) then (
    (f59 (v1, true, false, false, false, ())).bind fun r19 =>
    some ((((r19.1.1 && (ble (0 : Int) v1.2.1)) && (blt v1.2.1 (15 : Int))), ()), ()))
  else some ((false, ()), ())
/-! ### math.IsNaN -/
def ps33 : List VS := [.val .flt]
def rs33 : List VS := [.val .bool]
noncomputable def f33 (x : Nat × Unit) : Option ((Bool × Unit) × (Unit)) :=
  let f1 := x.1
  some (((fOrd f1 f1 != some .eq), ()), ())
/-! ### (loop.example/loom/impl.Ins).fields -/
abbrev S10 := Int × Int × Int × Int
def ps61 : List VS := [.val Y2]
def rs61 : List VS := [.val Y10]
noncomputable def f61 (x : S2 × Unit) : Option ((S10 × Unit) × (Unit)) :=
  some ((x.1.2, ()), ())
/-! ### loop.example/loom/impl.fieldOk -/
def ps62 : List VS := [.val Y5, .val Y4, .val (.int .i64), .val (.int .i64)]
def rs62 : List VS := [.val .bool]
noncomputable def f62 (x : S8 × S7 × Int × Int × Unit) : Option ((Bool × Unit) × (Unit)) :=
  let p2 := x.2.1
  let r3 := x.2.2.1
  let x4 := x.2.2.2.1
  bif ((beq r3 (1 : Int)) || ((beq r3 (4 : Int)) || ((beq r3 (5 : Int)) || (beq r3 (6 : Int))))) then (
    (f31 (x4, (0 : Int), (wr (p2.2.2.2.2.1 - (1 : Int))), ())).bind fun r8 =>
    some ((r8.1.1, ()), ()))
  else bif ((beq r3 (2 : Int)) || (beq r3 (3 : Int))) then (
    (f31 ((bif (blt x4 (0 : Int)) then (wr ((-1 : Int) - x4)) else x4), (0 : Int), (wr (p2.2.2.2.2.1 - (1 : Int))), ())).bind fun r14 =>
    some ((r14.1.1, ()), ()))
  else bif (beq r3 (7 : Int)) then (
    (f31 (x4, (1 : Int), (100000 : Int), ())).bind fun r16 =>
    some ((r16.1.1, ()), ()))
  else bif (beq r3 (8 : Int)) then (
    (f31 (x4, (0 : Int), (100000 : Int), ())).bind fun r18 =>
    some ((r18.1.1, ()), ()))
  else bif (beq r3 (9 : Int)) then (
    (f31 (x4, (0 : Int), (wr ((p2.2.2.2.2.2.2.1.length : Int) - (1 : Int))), ())).bind fun r22 =>
    some ((r22.1.1, ()), ()))
  else bif (beq r3 (10 : Int)) then (
    (f31 (x4, (0 : Int), (wr ((p2.2.2.2.2.2.1.length : Int) - (1 : Int))), ())).bind fun r26 =>
    some ((r26.1.1, ()), ()))
  else bif (beq r3 (11 : Int)) then (
    (f31 (x4, (0 : Int), (wr ((x.1.length : Int) - (1 : Int))), ())).bind fun r30 =>
    some ((r30.1.1, ()), ()))
  else bif (beq r3 (12 : Int)) then (
    (f31 (x4, (0 : Int), (wr ((p2.2.2.2.2.2.2.2.1.length : Int) - (1 : Int))), ())).bind fun r34 =>
    some ((r34.1.1, ()), ()))
  else bif (beq r3 (13 : Int)) then (
    (f31 (x4, (1 : Int), (18 : Int), ())).bind fun r36 =>
    some ((r36.1.1, ()), ()))
  else bif (beq r3 (14 : Int)) then (
    (f31 (x4, (19 : Int), (22 : Int), ())).bind fun r38 =>
    some ((r38.1.1, ()), ()))
  else bif (beq r3 (15 : Int)) then (
    (f31 (x4, (0 : Int), (250 : Int), ())).bind fun r40 =>
    some ((r40.1.1, ()), ()))
  else bif (beq r3 (16 : Int)) then (
    (f31 (x4, (0 : Int), p2.2.2.2.2.1, ())).bind fun r42 =>
    some ((r42.1.1, ()), ()))
  else bif (beq r3 (17 : Int)) then (
    (f31 (x4, (0 : Int), (wr (p2.2.2.2.2.1 - (2 : Int))), ())).bind fun r45 =>
    some ((r45.1.1, ()), ()))
  else bif (beq r3 (18 : Int)) then (
    (f31 (x4, (0 : Int), (wr (p2.2.2.2.2.1 - (3 : Int))), ())).bind fun r48 =>
    some ((r48.1.1, ()), ()))
  else bif ((beq r3 (19 : Int)) || (beq r3 (20 : Int))) then (
    (f31 (x4, (0 : Int), (wr (p2.2.2.2.2.1 - (2 : Int))), ())).bind fun r52 =>
    some ((r52.1.1, ()), ()))
  else some (((beq x4 (0 : Int)), ()), ())
/-! ### loop.example/loom/impl.insOk -/
def sh35_20 : Sh := ⟨[3, 4, 7, 21, 22], [.box 31 [.sc Y5], .box 57 [.sc Y4], .box 121 [.sc Y10], .val Y10, .val (.int .i64)], []⟩
def outs35_20 : List (Ex × Sh) := [((.exit 0), ⟨[], [], []⟩), (.ret, ⟨[6], [.val .bool], []⟩)]
noncomputable def f35_20 (x : (S8 × Unit) × (S7 × Unit) × (S10 × Unit) × S10 × Int × Unit) : Option (((S8 × Unit) × (S7 × Unit) × (S10 × Unit) × S10 × Int × Unit) ⊕ ((Unit) ⊕ (Bool × Unit))) :=
  let v7 := x.2.2.2.1
  let v8 := x.2.2.2.2.1
  bif (blt v8 (4 : Int)) then (
    bif (inR v8 4) then (
      let v10 := ([v7.1, v7.2.1, v7.2.2.1, v7.2.2.2].getD v8.toNat 0)
      bif (beq v8 (0 : Int)) then (
        (f62 (x.1.1, x.2.1.1, x.2.2.1.1.1, v10, ())).bind fun r11 =>
        bif (!r11.1.1) then some (.inr (.inr (false, ())))
        else some (.inl ((x.1.1, ()), (x.2.1.1, ()), (x.2.2.1.1, ()), v7, (wr (v8 + (1 : Int))), ())))
      else bif (beq v8 (1 : Int)) then (
        (f62 (x.1.1, x.2.1.1, x.2.2.1.1.2.1, v10, ())).bind fun r14 =>
        bif (!r14.1.1) then some (.inr (.inr (false, ())))
        else some (.inl ((x.1.1, ()), (x.2.1.1, ()), (x.2.2.1.1, ()), v7, (wr (v8 + (1 : Int))), ())))
      else bif (beq v8 (2 : Int)) then (
        (f62 (x.1.1, x.2.1.1, x.2.2.1.1.2.2.1, v10, ())).bind fun r17 =>
        bif (!r17.1.1) then some (.inr (.inr (false, ())))
        else some (.inl ((x.1.1, ()), (x.2.1.1, ()), (x.2.2.1.1, ()), v7, (wr (v8 + (1 : Int))), ())))
      else bif (beq v8 (3 : Int)) then (
        (f62 (x.1.1, x.2.1.1, x.2.2.1.1.2.2.2, v10, ())).bind fun r20 =>
        bif (!r20.1.1) then some (.inr (.inr (false, ())))
        else some (.inl ((x.1.1, ()), (x.2.1.1, ()), (x.2.2.1.1, ()), v7, (wr (v8 + (1 : Int))), ())))
      else none)
    else none)
  else some (.inr (.inl ()))
def ps35 : List VS := [.val Y5, .val Y4, .val Y2]
def rs35 : List VS := [.val .bool]
noncomputable def f35 (x : S8 × S7 × S2 × Unit) : Option ((Bool × Unit) × (Unit)) :=
  let n3 := x.2.2.1
  bif (!(thas tbl1 n3.1)) then some ((false, ()), ())
  else (
    (f61 (n3, ())).bind fun r6 =>
    (loopF f35_20 ((x.1, ()), (x.2.1, ()), ((((tlook tbl1 n3.1).getD 0 0), ((tlook tbl1 n3.1).getD 1 0), ((tlook tbl1 n3.1).getD 2 0), ((tlook tbl1 n3.1).getD 3 0)), ()), r6.1.1, (0 : Int), ())).bind fun y26 => match y26 with
      | .inl _ => (
        some ((true, ()), ()))
      | .inr z24 => (
        some ((z24.1, ()), ())))
/-! ### loop.example/loom/impl.checkShape -/
def sh14_12 : Sh := ⟨[1, 2, 3, 31, 32, 33], [.box 31 [.sc Y5], .box 27 [.sc Y6], .val (.int .i64), .val (.row Y4), .val (.int .i64), .val (.int .i64)], []⟩
def outs14_12 : List (Ex × Sh) := [((.exit 0), ⟨[1, 2, 3], [.box 31 [.sc Y5], .box 27 [.sc Y6], .val (.int .i64)], []⟩)]
noncomputable def f14_12 (x : (S8 × Unit) × (S9 × Unit) × Int × (List S7) × Int × Int × Unit) : Option (((S8 × Unit) × (S9 × Unit) × Int × (List S7) × Int × Int × Unit) ⊕ ((S8 × Unit) × (S9 × Unit) × Int × Unit)) :=
  let r3 := x.2.2.1
  let v4 := x.2.2.2.1
  let v5 := x.2.2.2.2.1
  let v6 := x.2.2.2.2.2.1
  bif (blt v6 v5) then (
    bif (inR v6 (v4.length : Int)) then (
      some (.inl ((x.1.1, ()), (x.2.1.1, ()), (wr (r3 + ((v4.getD v6.toNat ((⟨#[]⟩ : ByteArray), (0 : Int), (0 : Int), false, (0 : Int), ([] : List S0), ([] : List S1), ([] : List S2), ([] : List S3))).2.2.2.2.2.2.2.1.length : Int))), v4, v5, (wr (v6 + (1 : Int))), ())))
    else none)
  else some (.inr ((x.1.1, ()), (x.2.1.1, ()), r3, ()))
def sh14_40 : Sh := ⟨[1, 2, 59, 60, 61], [.box 31 [.sc Y5], .box 27 [.sc Y6], .val (.row Y4), .val (.int .i64), .val (.int .i64)], []⟩
def outs14_40 : List (Ex × Sh) := [((.exit 2), ⟨[1, 2], [.box 31 [.sc Y5], .box 27 [.sc Y6]], []⟩), (.ret, ⟨[2], [.box 27 [.sc Y6]], []⟩)]
noncomputable def f14_40 (x : (S8 × Unit) × (S9 × Unit) × (List S7) × Int × Int × Unit) : Option (((S8 × Unit) × (S9 × Unit) × (List S7) × Int × Int × Unit) ⊕ (((S8 × Unit) × (S9 × Unit) × Unit) ⊕ ((S9 × Unit) × Unit))) :=
  let v19 := x.2.2.1
  let v20 := x.2.2.2.1
  let v21 := x.2.2.2.2.1
  bif (blt v21 v20) then (
    bif (inR v21 (v19.length : Int)) then (
      let v23 := (v19.getD v21.toNat ((⟨#[]⟩ : ByteArray), (0 : Int), (0 : Int), false, (0 : Int), ([] : List S0), ([] : List S1), ([] : List S2), ([] : List S3))).2.2.2.2.1
      (joinB (blt (40 : Int) ((v19.getD v21.toNat ((⟨#[]⟩ : ByteArray), (0 : Int), (0 : Int), false, (0 : Int), ([] : List S0), ([] : List S1), ([] : List S2), ([] : List S3))).1.size : Int)) (some true) ((f31 ((v19.getD v21.toNat ((⟨#[]⟩ : ByteArray), (0 : Int), (0 : Int), false, (0 : Int), ([] : List S0), ([] : List S1), ([] : List S2), ([] : List S3))).2.1, (0 : Int), (100000 : Int), ())).bind fun r29 => (some (!r29.1.1)))).bind fun c30 =>
      (joinB c30 (some true) ((f31 ((v19.getD v21.toNat ((⟨#[]⟩ : ByteArray), (0 : Int), (0 : Int), false, (0 : Int), ([] : List S0), ([] : List S1), ([] : List S2), ([] : List S3))).2.2.2.2.1, (0 : Int), (250 : Int), ())).bind fun r31 => (some (!r31.1.1)))).bind fun c32 =>
      (joinB c32 (some true) ((f31 ((v19.getD v21.toNat ((⟨#[]⟩ : ByteArray), (0 : Int), (0 : Int), false, (0 : Int), ([] : List S0), ([] : List S1), ([] : List S2), ([] : List S3))).2.2.1, (0 : Int), (bif (v19.getD v21.toNat ((⟨#[]⟩ : ByteArray), (0 : Int), (0 : Int), false, (0 : Int), ([] : List S0), ([] : List S1), ([] : List S2), ([] : List S3))).2.2.2.1 then (wr (v23 - (1 : Int))) else v23), ())).bind fun r33 => (some (!r33.1.1)))).bind fun c34 =>
      bif (((c34 || (blt (250 : Int) ((v19.getD v21.toNat ((⟨#[]⟩ : ByteArray), (0 : Int), (0 : Int), false, (0 : Int), ([] : List S0), ([] : List S1), ([] : List S2), ([] : List S3))).2.2.2.2.2.1.length : Int))) || (blt (500 : Int) ((v19.getD v21.toNat ((⟨#[]⟩ : ByteArray), (0 : Int), (0 : Int), false, (0 : Int), ([] : List S0), ([] : List S1), ([] : List S2), ([] : List S3))).2.2.2.2.2.2.1.length : Int))) || ((beq v21 (0 : Int)) && ((blt (0 : Int) (v19.getD v21.toNat ((⟨#[]⟩ : ByteArray), (0 : Int), (0 : Int), false, (0 : Int), ([] : List S0), ([] : List S1), ([] : List S2), ([] : List S3))).2.2.1) || (blt (0 : Int) ((v19.getD v21.toNat ((⟨#[]⟩ : ByteArray), (0 : Int), (0 : Int), false, (0 : Int), ([] : List S0), ([] : List S1), ([] : List S2), ([] : List S3))).2.2.2.2.2.1.length : Int))))) then some (.inr (.inr ((((2 : Int), v21, (0 : Int)), ()), ())))
      else some (.inl ((x.1.1, ()), (x.2.1.1, ()), v19, v20, (wr (v21 + (1 : Int))), ())))
    else none)
  else some (.inr (.inl ((x.1.1, ()), (x.2.1.1, ()), ())))
def sh14_88 : Sh := ⟨[1, 2, 9, 126, 127, 128, 134, 135, 136], [.box 31 [.sc Y5], .box 27 [.sc Y6], .val (.int .i64), .val (.row Y4), .val (.int .i64), .val (.int .i64), .val (.row Y1), .val (.int .i64), .val (.int .i64)], []⟩
def outs14_88 : List (Ex × Sh) := [((.exit 6), ⟨[1, 2, 126, 127, 128], [.box 31 [.sc Y5], .box 27 [.sc Y6], .val (.row Y4), .val (.int .i64), .val (.int .i64)], []⟩), (.ret, ⟨[2], [.box 27 [.sc Y6]], []⟩)]
noncomputable def f14_88 (x : (S8 × Unit) × (S9 × Unit) × Int × (List S7) × Int × Int × (List S1) × Int × Int × Unit) : Option (((S8 × Unit) × (S9 × Unit) × Int × (List S7) × Int × Int × (List S1) × Int × Int × Unit) ⊕ (((S8 × Unit) × (S9 × Unit) × (List S7) × Int × Int × Unit) ⊕ ((S9 × Unit) × Unit))) :=
  let v47 := x.2.2.1
  let v48 := x.2.2.2.1
  let v49 := x.2.2.2.2.1
  let v50 := x.2.2.2.2.2.1
  let v51 := x.2.2.2.2.2.2.1
  let v52 := x.2.2.2.2.2.2.2.1
  let v53 := x.2.2.2.2.2.2.2.2.1
  bif (blt v53 v52) then (
    bif (inR v53 (v51.length : Int)) then (
      (f32 ((v51.getD v53.toNat ((0 : Int), (0 : Int), (0 : Nat), (⟨#[]⟩ : ByteArray), (0 : Int))), ())).bind fun r55 =>
      (joinB ((((!r55.1.1) || (beq (v51.getD v53.toNat ((0 : Int), (0 : Int), (0 : Nat), (⟨#[]⟩ : ByteArray), (0 : Int))).1 (5 : Int))) || (beq (v51.getD v53.toNat ((0 : Int), (0 : Int), (0 : Nat), (⟨#[]⟩ : ByteArray), (0 : Int))).1 (6 : Int))) || (beq (v51.getD v53.toNat ((0 : Int), (0 : Int), (0 : Nat), (⟨#[]⟩ : ByteArray), (0 : Int))).1 (7 : Int))) (some true) (joinB (beq (v51.getD v53.toNat ((0 : Int), (0 : Int), (0 : Nat), (⟨#[]⟩ : ByteArray), (0 : Int))).1 (3 : Int)) ((f33 ((v51.getD v53.toNat ((0 : Int), (0 : Int), (0 : Nat), (⟨#[]⟩ : ByteArray), (0 : Int))).2.2.1, ())).bind fun r60 => (some r60.1.1)) (some false))).bind fun c61 =>
      (joinB c61 (some true) (joinB (bne (v51.getD v53.toNat ((0 : Int), (0 : Int), (0 : Nat), (⟨#[]⟩ : ByteArray), (0 : Int))).1 (3 : Int)) ((f34 ((v51.getD v53.toNat ((0 : Int), (0 : Int), (0 : Nat), (⟨#[]⟩ : ByteArray), (0 : Int))).2.2.1, ())).bind fun r62 => (some r62.1.1)) (some false))).bind fun c63 =>
      bif c63 then some (.inr (.inr ((((3 : Int), v47, v53), ()), ())))
      else some (.inl ((x.1.1, ()), (x.2.1.1, ()), v47, v48, v49, v50, v51, v52, (wr (v53 + (1 : Int))), ())))
    else none)
  else some (.inr (.inl ((x.1.1, ()), (x.2.1.1, ()), v48, v49, v50, ())))
def sh14_76 : Sh := ⟨[1, 2, 126, 127, 128], [.box 31 [.sc Y5], .box 27 [.sc Y6], .val (.row Y4), .val (.int .i64), .val (.int .i64)], []⟩
def outs14_76 : List (Ex × Sh) := [((.exit 4), ⟨[1, 2], [.box 31 [.sc Y5], .box 27 [.sc Y6]], []⟩), (.ret, ⟨[2], [.box 27 [.sc Y6]], []⟩)]
noncomputable def f14_76 (x : (S8 × Unit) × (S9 × Unit) × (List S7) × Int × Int × Unit) : Option (((S8 × Unit) × (S9 × Unit) × (List S7) × Int × Int × Unit) ⊕ (((S8 × Unit) × (S9 × Unit) × Unit) ⊕ ((S9 × Unit) × Unit))) :=
  let v41 := x.2.2.1
  let v42 := x.2.2.2.1
  let v43 := x.2.2.2.2.1
  bif (blt v43 v42) then (
    bif (inR v43 (v41.length : Int)) then (
      let v45 := (v41.getD v43.toNat ((⟨#[]⟩ : ByteArray), (0 : Int), (0 : Int), false, (0 : Int), ([] : List S0), ([] : List S1), ([] : List S2), ([] : List S3))).2.2.2.2.2.2.1
      (loopF f14_88 ((x.1.1, ()), (x.2.1.1, ()), v43, v41, v42, v43, v45, (v45.length : Int), (0 : Int), ())).bind fun y71 => match y71 with
        | .inl z65 => (
          some (.inl ((z65.1.1, ()), (z65.2.1.1, ()), z65.2.2.1, z65.2.2.2.1, (wr (z65.2.2.2.2.1 + (1 : Int))), ())))
        | .inr z70 => (
          some (.inr (.inr ((z70.1.1, ()), ())))))
    else none)
  else some (.inr (.inl ((x.1.1, ()), (x.2.1.1, ()), ())))
def sh14_128 : Sh := ⟨[1, 2, 13, 14, 185, 186, 187, 193, 194, 195], [.box 31 [.sc Y5], .box 27 [.sc Y6], .val (.int .i64), .box 57 [.sc Y4], .val (.row Y4), .val (.int .i64), .val (.int .i64), .val (.row Y3), .val (.int .i64), .val (.int .i64)], []⟩
def outs14_128 : List (Ex × Sh) := [((.exit 10), ⟨[1, 2, 185, 186, 187], [.box 31 [.sc Y5], .box 27 [.sc Y6], .val (.row Y4), .val (.int .i64), .val (.int .i64)], []⟩), (.ret, ⟨[2], [.box 27 [.sc Y6]], []⟩)]
noncomputable def f14_128 (x : (S8 × Unit) × (S9 × Unit) × Int × (S7 × Unit) × (List S7) × Int × Int × (List S3) × Int × Int × Unit) : Option (((S8 × Unit) × (S9 × Unit) × Int × (S7 × Unit) × (List S7) × Int × Int × (List S3) × Int × Int × Unit) ⊕ (((S8 × Unit) × (S9 × Unit) × (List S7) × Int × Int × Unit) ⊕ ((S9 × Unit) × Unit))) :=
  let v80 := x.2.2.1
  let v81 := x.2.2.2.2.1
  let v82 := x.2.2.2.2.2.1
  let v83 := x.2.2.2.2.2.2.1
  let v84 := x.2.2.2.2.2.2.2.1
  let v85 := x.2.2.2.2.2.2.2.2.1
  let v86 := x.2.2.2.2.2.2.2.2.2.1
  bif (blt v86 v85) then (
    bif (inR v86 (v84.length : Int)) then (
      (joinB ((blt ((v84.getD v86.toNat ((⟨#[]⟩ : ByteArray), (0 : Int), (0 : Int), (0 : Int))).1.size : Int) (1 : Int)) || (blt (40 : Int) ((v84.getD v86.toNat ((⟨#[]⟩ : ByteArray), (0 : Int), (0 : Int), (0 : Int))).1.size : Int))) (some true) ((f31 ((v84.getD v86.toNat ((⟨#[]⟩ : ByteArray), (0 : Int), (0 : Int), (0 : Int))).2.1, (0 : Int), (wr (x.2.2.2.1.1.2.2.2.2.1 - (1 : Int))), ())).bind fun r92 => (some (!r92.1.1)))).bind fun c93 =>
      bif ((((c93 || (blt (v84.getD v86.toNat ((⟨#[]⟩ : ByteArray), (0 : Int), (0 : Int), (0 : Int))).2.2.1 (0 : Int))) || (blt (v84.getD v86.toNat ((⟨#[]⟩ : ByteArray), (0 : Int), (0 : Int), (0 : Int))).2.2.2 (v84.getD v86.toNat ((⟨#[]⟩ : ByteArray), (0 : Int), (0 : Int), (0 : Int))).2.2.1)) || (blt (x.2.2.2.1.1.2.2.2.2.2.2.2.1.length : Int) (v84.getD v86.toNat ((⟨#[]⟩ : ByteArray), (0 : Int), (0 : Int), (0 : Int))).2.2.2)) || (beq v86 (500 : Int))) then some (.inr (.inr ((((4 : Int), v80, v86), ()), ())))
      else some (.inl ((x.1.1, ()), (x.2.1.1, ()), v80, (x.2.2.2.1.1, ()), v81, v82, v83, v84, v85, (wr (v86 + (1 : Int))), ())))
    else none)
  else some (.inr (.inl ((x.1.1, ()), (x.2.1.1, ()), v81, v82, v83, ())))
def sh14_116 : Sh := ⟨[1, 2, 185, 186, 187], [.box 31 [.sc Y5], .box 27 [.sc Y6], .val (.row Y4), .val (.int .i64), .val (.int .i64)], []⟩
def outs14_116 : List (Ex × Sh) := [((.exit 8), ⟨[1, 2], [.box 31 [.sc Y5], .box 27 [.sc Y6]], []⟩), (.ret, ⟨[2], [.box 27 [.sc Y6]], []⟩)]
noncomputable def f14_116 (x : (S8 × Unit) × (S9 × Unit) × (List S7) × Int × Int × Unit) : Option (((S8 × Unit) × (S9 × Unit) × (List S7) × Int × Int × Unit) ⊕ (((S8 × Unit) × (S9 × Unit) × Unit) ⊕ ((S9 × Unit) × Unit))) :=
  let v74 := x.2.2.1
  let v75 := x.2.2.2.1
  let v76 := x.2.2.2.2.1
  bif (blt v76 v75) then (
    bif (inR v76 (v74.length : Int)) then (
      let v78 := (v74.getD v76.toNat ((⟨#[]⟩ : ByteArray), (0 : Int), (0 : Int), false, (0 : Int), ([] : List S0), ([] : List S1), ([] : List S2), ([] : List S3))).2.2.2.2.2.2.2.2
      (loopF f14_128 ((x.1.1, ()), (x.2.1.1, ()), v76, ((v74.getD v76.toNat ((⟨#[]⟩ : ByteArray), (0 : Int), (0 : Int), false, (0 : Int), ([] : List S0), ([] : List S1), ([] : List S2), ([] : List S3))), ()), v74, v75, v76, v78, (v78.length : Int), (0 : Int), ())).bind fun y105 => match y105 with
        | .inl z99 => (
          some (.inl ((z99.1.1, ()), (z99.2.1.1, ()), z99.2.2.1, z99.2.2.2.1, (wr (z99.2.2.2.2.1 + (1 : Int))), ())))
        | .inr z104 => (
          some (.inr (.inr ((z104.1.1, ()), ())))))
    else none)
  else some (.inr (.inl ((x.1.1, ()), (x.2.1.1, ()), ())))
def sh14_176 : Sh := ⟨[1, 2, 17, 18, 249, 250, 251, 263, 264, 265], [.box 31 [.sc Y5], .box 27 [.sc Y6], .val (.int .i64), .box 57 [.sc Y4], .val (.row Y4), .val (.int .i64), .val (.int .i64), .val (.row Y2), .val (.int .i64), .val (.int .i64)], []⟩
def outs14_176 : List (Ex × Sh) := [((.exit 14), ⟨[1, 2, 249, 250, 251], [.box 31 [.sc Y5], .box 27 [.sc Y6], .val (.row Y4), .val (.int .i64), .val (.int .i64)], []⟩), (.ret, ⟨[2], [.box 27 [.sc Y6]], []⟩)]
noncomputable def f14_176 (x : (S8 × Unit) × (S9 × Unit) × Int × (S7 × Unit) × (List S7) × Int × Int × (List S2) × Int × Int × Unit) : Option (((S8 × Unit) × (S9 × Unit) × Int × (S7 × Unit) × (List S7) × Int × Int × (List S2) × Int × Int × Unit) ⊕ (((S8 × Unit) × (S9 × Unit) × (List S7) × Int × Int × Unit) ⊕ ((S9 × Unit) × Unit))) :=
  let v117 := x.2.2.1
  let v118 := x.2.2.2.2.1
  let v119 := x.2.2.2.2.2.1
  let v120 := x.2.2.2.2.2.2.1
  let v121 := x.2.2.2.2.2.2.2.1
  let v122 := x.2.2.2.2.2.2.2.2.1
  let v123 := x.2.2.2.2.2.2.2.2.2.1
  bif (blt v123 v122) then (
    bif (inR v123 (v121.length : Int)) then (
      (f35 (x.1.1, x.2.2.2.1.1, (v121.getD v123.toNat ((0 : Int), (0 : Int), (0 : Int), (0 : Int), (0 : Int))), ())).bind fun r125 =>
      bif ((!r125.1.1) || ((beq v123 (wr ((x.2.2.2.1.1.2.2.2.2.2.2.2.1.length : Int) - (1 : Int)))) && ((bne (v121.getD v123.toNat ((0 : Int), (0 : Int), (0 : Int), (0 : Int), (0 : Int))).1 (19 : Int)) && ((bne (v121.getD v123.toNat ((0 : Int), (0 : Int), (0 : Int), (0 : Int), (0 : Int))).1 (29 : Int)) && (bne (v121.getD v123.toNat ((0 : Int), (0 : Int), (0 : Int), (0 : Int), (0 : Int))).1 (30 : Int)))))) then some (.inr (.inr ((((5 : Int), v117, v123), ()), ())))
      else some (.inl ((x.1.1, ()), (x.2.1.1, ()), v117, (x.2.2.2.1.1, ()), v118, v119, v120, v121, v122, (wr (v123 + (1 : Int))), ())))
    else none)
  else some (.inr (.inl ((x.1.1, ()), (x.2.1.1, ()), v118, v119, v120, ())))
def sh14_156 : Sh := ⟨[1, 2, 249, 250, 251], [.box 31 [.sc Y5], .box 27 [.sc Y6], .val (.row Y4), .val (.int .i64), .val (.int .i64)], []⟩
def outs14_156 : List (Ex × Sh) := [((.exit 12), ⟨[1, 2], [.box 31 [.sc Y5], .box 27 [.sc Y6]], []⟩), (.ret, ⟨[2], [.box 27 [.sc Y6]], []⟩)]
noncomputable def f14_156 (x : (S8 × Unit) × (S9 × Unit) × (List S7) × Int × Int × Unit) : Option (((S8 × Unit) × (S9 × Unit) × (List S7) × Int × Int × Unit) ⊕ (((S8 × Unit) × (S9 × Unit) × Unit) ⊕ ((S9 × Unit) × Unit))) :=
  let v108 := x.2.2.1
  let v109 := x.2.2.2.1
  let v110 := x.2.2.2.2.1
  bif (blt v110 v109) then (
    bif (inR v110 (v108.length : Int)) then (
      bif (beq ((v108.getD v110.toNat ((⟨#[]⟩ : ByteArray), (0 : Int), (0 : Int), false, (0 : Int), ([] : List S0), ([] : List S1), ([] : List S2), ([] : List S3))).2.2.2.2.2.2.2.1.length : Int) (0 : Int)) then some (.inr (.inr ((((5 : Int), v110, (0 : Int)), ()), ())))
      else (
        let v115 := (v108.getD v110.toNat ((⟨#[]⟩ : ByteArray), (0 : Int), (0 : Int), false, (0 : Int), ([] : List S0), ([] : List S1), ([] : List S2), ([] : List S3))).2.2.2.2.2.2.2.1
        (loopF f14_176 ((x.1.1, ()), (x.2.1.1, ()), v110, ((v108.getD v110.toNat ((⟨#[]⟩ : ByteArray), (0 : Int), (0 : Int), false, (0 : Int), ([] : List S0), ([] : List S1), ([] : List S2), ([] : List S3))), ()), v108, v109, v110, v115, (v115.length : Int), (0 : Int), ())).bind fun y135 => match y135 with
          | .inl z129 => (
            some (.inl ((z129.1.1, ()), (z129.2.1.1, ()), z129.2.2.1, z129.2.2.2.1, (wr (z129.2.2.2.2.1 + (1 : Int))), ())))
          | .inr z134 => (
            some (.inr (.inr ((z134.1.1, ()), ()))))))
    else none)
  else some (.inr (.inl ((x.1.1, ()), (x.2.1.1, ()), ())))
def sh14_244 : Sh := ⟨[1, 2, 21, 22, 23, 24, 26, 308, 309, 310, 316, 317, 318, 347, 348, 349], [.box 31 [.sc Y5], .box 27 [.sc Y6], .own 4 .bool, .val (.int .i64), .box 57 [.sc Y4], .val (.int .i64), .val .bool, .val (.row Y4), .val (.int .i64), .val (.int .i64), .val (.row Y2), .val (.int .i64), .val (.int .i64), .val (.row Y0), .val (.int .i64), .val (.int .i64)], []⟩
def outs14_244 : List (Ex × Sh) := [((.exit 20), ⟨[1, 2, 21, 22, 23, 24, 26, 308, 309, 310, 316, 317, 318], [.box 31 [.sc Y5], .box 27 [.sc Y6], .own 4 .bool, .val (.int .i64), .box 57 [.sc Y4], .val (.int .i64), .val .bool, .val (.row Y4), .val (.int .i64), .val (.int .i64), .val (.row Y2), .val (.int .i64), .val (.int .i64)], []⟩)]
noncomputable def f14_244 (x : (S8 × Unit) × (S9 × Unit) × (List Bool) × Int × (S7 × Unit) × Int × Bool × (List S7) × Int × Int × (List S2) × Int × Int × (List S0) × Int × Int × Unit) : Option (((S8 × Unit) × (S9 × Unit) × (List Bool) × Int × (S7 × Unit) × Int × Bool × (List S7) × Int × Int × (List S2) × Int × Int × (List S0) × Int × Int × Unit) ⊕ ((S8 × Unit) × (S9 × Unit) × (List Bool) × Int × (S7 × Unit) × Int × Bool × (List S7) × Int × Int × (List S2) × Int × Int × Unit)) :=
  let v167 := x.2.2.1
  let v168 := x.2.2.2.1
  let v169 := x.2.2.2.2.2.1
  let v170 := x.2.2.2.2.2.2.1
  let v171 := x.2.2.2.2.2.2.2.1
  let v172 := x.2.2.2.2.2.2.2.2.1
  let v173 := x.2.2.2.2.2.2.2.2.2.1
  let v174 := x.2.2.2.2.2.2.2.2.2.2.1
  let v175 := x.2.2.2.2.2.2.2.2.2.2.2.1
  let v176 := x.2.2.2.2.2.2.2.2.2.2.2.2.1
  let v177 := x.2.2.2.2.2.2.2.2.2.2.2.2.2.1
  let v178 := x.2.2.2.2.2.2.2.2.2.2.2.2.2.2.1
  let v179 := x.2.2.2.2.2.2.2.2.2.2.2.2.2.2.2.1
  bif (blt v179 v178) then (
    bif (inR v179 (v177.length : Int)) then (
      (joinB (v177.getD v179.toNat (false, (0 : Int))).1 ((f31 ((v177.getD v179.toNat (false, (0 : Int))).2, (0 : Int), (wr (x.2.2.2.2.1.1.2.2.2.2.1 - (1 : Int))), ())).bind fun r182 => (some (!r182.1.1))) (some false)).bind fun c183 =>
      (joinB c183 (some true) (joinB (!(v177.getD v179.toNat (false, (0 : Int))).1) ((f31 ((v177.getD v179.toNat (false, (0 : Int))).2, (0 : Int), (wr ((x.2.2.2.2.1.1.2.2.2.2.2.1.length : Int) - (1 : Int))), ())).bind fun r184 => (some (!r184.1.1))) (some false))).bind fun c185 =>
      some (.inl ((x.1.1, ()), (x.2.1.1, ()), v167, v168, (x.2.2.2.2.1.1, ()), v169, (c185 || v170), v171, v172, v173, v174, v175, v176, v177, v178, (wr (v179 + (1 : Int))), ())))
    else none)
  else some (.inr ((x.1.1, ()), (x.2.1.1, ()), v167, v168, (x.2.2.2.2.1.1, ()), v169, v170, v171, v172, v173, v174, v175, v176, ()))
def sh14_220 : Sh := ⟨[1, 2, 21, 22, 23, 308, 309, 310, 316, 317, 318], [.box 31 [.sc Y5], .box 27 [.sc Y6], .own 4 .bool, .val (.int .i64), .box 57 [.sc Y4], .val (.row Y4), .val (.int .i64), .val (.int .i64), .val (.row Y2), .val (.int .i64), .val (.int .i64)], []⟩
def outs14_220 : List (Ex × Sh) := [((.exit 18), ⟨[1, 2, 21, 308, 309, 310], [.box 31 [.sc Y5], .box 27 [.sc Y6], .own 4 .bool, .val (.row Y4), .val (.int .i64), .val (.int .i64)], []⟩), (.ret, ⟨[2], [.box 27 [.sc Y6]], []⟩)]
noncomputable def f14_220 (x : (S8 × Unit) × (S9 × Unit) × (List Bool) × Int × (S7 × Unit) × (List S7) × Int × Int × (List S2) × Int × Int × Unit) : Option (((S8 × Unit) × (S9 × Unit) × (List Bool) × Int × (S7 × Unit) × (List S7) × Int × Int × (List S2) × Int × Int × Unit) ⊕ (((S8 × Unit) × (S9 × Unit) × (List Bool) × (List S7) × Int × Int × Unit) ⊕ ((S9 × Unit) × Unit))) :=
  let v147 := x.2.2.1
  let v148 := x.2.2.2.1
  let v149 := x.2.2.2.2.2.1
  let v150 := x.2.2.2.2.2.2.1
  let v151 := x.2.2.2.2.2.2.2.1
  let v152 := x.2.2.2.2.2.2.2.2.1
  let v153 := x.2.2.2.2.2.2.2.2.2.1
  let v154 := x.2.2.2.2.2.2.2.2.2.2.1
  bif (blt v154 v153) then (
    bif (inR v154 (v152.length : Int)) then (
      bif (bne (v152.getD v154.toNat ((0 : Int), (0 : Int), (0 : Int), (0 : Int), (0 : Int))).1 (11 : Int)) then (
        some (.inl ((x.1.1, ()), (x.2.1.1, ()), v147, v148, (x.2.2.2.2.1.1, ()), v149, v150, v151, v152, v153, (wr (v154 + (1 : Int))), ())))
      else (
        (joinB (ble (v152.getD v154.toNat ((0 : Int), (0 : Int), (0 : Int), (0 : Int), (0 : Int))).2.2.1 v148) (some true) (bif (inR (v152.getD v154.toNat ((0 : Int), (0 : Int), (0 : Int), (0 : Int), (0 : Int))).2.2.1 (v147.length : Int)) then (some (v147.getD (v152.getD v154.toNat ((0 : Int), (0 : Int), (0 : Int), (0 : Int), (0 : Int))).2.2.1.toNat false)) else none)).bind fun c161 =>
        let v162 := (v152.getD v154.toNat ((0 : Int), (0 : Int), (0 : Int), (0 : Int), (0 : Int))).2.2.1
        bif (inR v162 (v147.length : Int)) then (
          let v164 := (v152.getD v154.toNat ((0 : Int), (0 : Int), (0 : Int), (0 : Int), (0 : Int))).2.2.1
          bif (inR v164 (x.1.1.length : Int)) then (
            let v165 := (x.1.1.getD v164.toNat ((⟨#[]⟩ : ByteArray), (0 : Int), (0 : Int), false, (0 : Int), ([] : List S0), ([] : List S1), ([] : List S2), ([] : List S3))).2.2.2.2.2.1
            (loopF f14_244 ((x.1.1, ()), (x.2.1.1, ()), (v147.set v162.toNat true), v148, (x.2.2.2.2.1.1, ()), v154, c161, v149, v150, v151, v152, v153, v154, v165, (v165.length : Int), (0 : Int), ())).bind fun z188 =>
            let v190 := z188.2.2.2.1
            bif z188.2.2.2.2.2.2.1 then (
              some (.inr (.inr ((((6 : Int), v190, z188.2.2.2.2.2.1), ()), ()))))
            else some (.inl ((z188.1.1, ()), (z188.2.1.1, ()), z188.2.2.1, v190, (z188.2.2.2.2.1.1, ()), z188.2.2.2.2.2.2.2.1, z188.2.2.2.2.2.2.2.2.1, z188.2.2.2.2.2.2.2.2.2.1, z188.2.2.2.2.2.2.2.2.2.2.1, z188.2.2.2.2.2.2.2.2.2.2.2.1, (wr (z188.2.2.2.2.2.2.2.2.2.2.2.2.1 + (1 : Int))), ())))
          else none)
        else none))
    else none)
  else some (.inr (.inl ((x.1.1, ()), (x.2.1.1, ()), v147, v149, v150, v151, ())))
def sh14_208 : Sh := ⟨[1, 2, 21, 308, 309, 310], [.box 31 [.sc Y5], .box 27 [.sc Y6], .own 4 .bool, .val (.row Y4), .val (.int .i64), .val (.int .i64)], []⟩
def outs14_208 : List (Ex × Sh) := [((.exit 16), ⟨[1, 2, 21], [.box 31 [.sc Y5], .box 27 [.sc Y6], .own 4 .bool], []⟩), (.ret, ⟨[2], [.box 27 [.sc Y6]], []⟩)]
noncomputable def f14_208 (x : (S8 × Unit) × (S9 × Unit) × (List Bool) × (List S7) × Int × Int × Unit) : Option (((S8 × Unit) × (S9 × Unit) × (List Bool) × (List S7) × Int × Int × Unit) ⊕ (((S8 × Unit) × (S9 × Unit) × (List Bool) × Unit) ⊕ ((S9 × Unit) × Unit))) :=
  let v140 := x.2.2.1
  let v141 := x.2.2.2.1
  let v142 := x.2.2.2.2.1
  let v143 := x.2.2.2.2.2.1
  bif (blt v143 v142) then (
    bif (inR v143 (v141.length : Int)) then (
      let v145 := (v141.getD v143.toNat ((⟨#[]⟩ : ByteArray), (0 : Int), (0 : Int), false, (0 : Int), ([] : List S0), ([] : List S1), ([] : List S2), ([] : List S3))).2.2.2.2.2.2.2.1
      (loopF f14_220 ((x.1.1, ()), (x.2.1.1, ()), v140, v143, ((v141.getD v143.toNat ((⟨#[]⟩ : ByteArray), (0 : Int), (0 : Int), false, (0 : Int), ([] : List S0), ([] : List S1), ([] : List S2), ([] : List S3))), ()), v141, v142, v143, v145, (v145.length : Int), (0 : Int), ())).bind fun y207 => match y207 with
        | .inl z200 => (
          some (.inl ((z200.1.1, ()), (z200.2.1.1, ()), z200.2.2.1, z200.2.2.2.1, z200.2.2.2.2.1, (wr (z200.2.2.2.2.2.1 + (1 : Int))), ())))
        | .inr z206 => (
          some (.inr (.inr ((z206.1.1, ()), ())))))
    else none)
  else some (.inr (.inl ((x.1.1, ()), (x.2.1.1, ()), v140, ())))
def sh14_284 : Sh := ⟨[2, 21, 388, 389], [.box 27 [.sc Y6], .own 4 .bool, .val (.int .i64), .val (.int .i64)], []⟩
def outs14_284 : List (Ex × Sh) := [((.exit 22), ⟨[2], [.box 27 [.sc Y6]], []⟩), (.ret, ⟨[2], [.box 27 [.sc Y6]], []⟩)]
noncomputable def f14_284 (x : (S9 × Unit) × (List Bool) × Int × Int × Unit) : Option (((S9 × Unit) × (List Bool) × Int × Int × Unit) ⊕ (((S9 × Unit) × Unit) ⊕ ((S9 × Unit) × Unit))) :=
  let v211 := x.2.1
  let v212 := x.2.2.1
  let v213 := x.2.2.2.1
  bif (blt v213 v212) then (
    (joinB (blt (0 : Int) v213) (bif (inR v213 (v211.length : Int)) then (some (!(v211.getD v213.toNat false))) else none) (some false)).bind fun c216 =>
    bif c216 then some (.inr (.inr ((((7 : Int), v213, (0 : Int)), ()), ())))
    else some (.inl ((x.1.1, ()), v211, v212, (wr (v213 + (1 : Int))), ())))
  else some (.inr (.inl ((x.1.1, ()), ())))
def ps14 : List VS := [.val Y5]
def rs14 : List VS := [.val Y6]
noncomputable def f14 (x : S8 × Unit) : Option ((S9 × Unit) × (Unit)) :=
  let t1 := x.1
  (loopF f14_12 ((t1, ()), (((0 : Int), (0 : Int), (0 : Int)), ()), (0 : Int), t1, (t1.length : Int), (0 : Int), ())).bind fun z12 =>
  bif (((blt (z12.1.1.length : Int) (1 : Int)) || (blt (200 : Int) (z12.1.1.length : Int))) || (blt (6000 : Int) z12.2.2.1)) then some ((((1 : Int), (0 : Int), (0 : Int)), ()), ())
  else (
    (loopF f14_40 ((z12.1.1, ()), (z12.2.1.1, ()), z12.1.1, (z12.1.1.length : Int), (0 : Int), ())).bind fun y230 => match y230 with
      | .inl z39 => (
        (loopF f14_76 ((z39.1.1, ()), (z39.2.1.1, ()), z39.1.1, (z39.1.1.length : Int), (0 : Int), ())).bind fun y228 => match y228 with
          | .inl z72 => (
            (loopF f14_116 ((z72.1.1, ()), (z72.2.1.1, ()), z72.1.1, (z72.1.1.length : Int), (0 : Int), ())).bind fun y226 => match y226 with
              | .inl z106 => (
                (loopF f14_156 ((z106.1.1, ()), (z106.2.1.1, ()), z106.1.1, (z106.1.1.length : Int), (0 : Int), ())).bind fun y224 => match y224 with
                  | .inl z136 => (
                    let v137 := (z136.1.1.length : Int)
                    bif (inE v137 ((281474976710656 : Nat) : Int)) then (
                      (loopF f14_208 ((z136.1.1, ()), (z136.2.1.1, ()), (List.replicate v137.toNat false), z136.1.1, (z136.1.1.length : Int), (0 : Int), ())).bind fun y222 => match y222 with
                        | .inl z208 => (
                          (loopF f14_284 ((z208.2.1.1, ()), z208.2.2.1, (z208.1.1.length : Int), (0 : Int), ())).bind fun y220 => match y220 with
                            | .inl _ => (
                              some ((((0 : Int), (0 : Int), (0 : Int)), ()), ()))
                            | .inr z219 => (
                              some ((z219.1.1, ()), ())))
                        | .inr z221 => (
                          some ((z221.1.1, ()), ())))
                    else none)
                  | .inr z223 => (
                    some ((z223.1.1, ()), ())))
              | .inr z225 => (
                some ((z225.1.1, ()), ())))
          | .inr z227 => (
            some ((z227.1.1, ()), ())))
      | .inr z229 => (
        some ((z229.1.1, ()), ())))
/-! ### (loop.example/loom/impl.State).copied -/
def ps37 : List VS := [.val Y8]
def rs37 : List VS := [.rc [.sc .bool, .own 3 (.int .i64), .own 111 Y7]]
noncomputable def f37 (x : S6 × Unit) : Option (((Bool × (List Int) × (List S4) × Unit) × Unit) × (Unit)) :=
  let s1 := x.1
  bif (nle (([] : List Int).length + s1.2.1.length) 17592186044416) then (
    bif (nle (([] : List S4).length + s1.2.2.length) 5864062014805) then (
      some (((s1.1, (([] : List Int) ++ s1.2.1), (([] : List S4) ++ s1.2.2), ()), ()), ()))
    else none)
  else none
/-! ### loop.example/loom/impl.eachTakes -/
def ps63 : List VS := [.val (.int .i64)]
def rs63 : List VS := [.own 3 (.int .i64)]
noncomputable def f63 (x : Int × Unit) : Option (((List Int) × Unit) × (Unit)) :=
  some ((([x.1]), ()), ())
/-! ### loop.example/loom/impl.gives -/
def ps65 : List VS := [.val (.int .i64)]
def rs65 : List VS := [.val (.int .i64)]
noncomputable def f65 (x : Int × Unit) : Option ((Int × Unit) × (Unit)) :=
  let op1 := x.1
  bif (beq op1 (6 : Int)) then some (((2 : Int), ()), ())
  else bif ((beq op1 (22 : Int)) || ((beq op1 (27 : Int)) || (beq op1 (28 : Int)))) then some (((3 : Int), ()), ())
  else bif (beq op1 (42 : Int)) then some (((0 : Int), ()), ())
  else some (((1 : Int), ()), ())
/-! ### loop.example/loom/impl.step -/
def sh36_88 : Sh := ⟨[2, 4, 7, 10, 11, 12, 13, 16, 18, 51, 52, 84, 85], [.val (.int .i64), .box 31 [.sc Y5], .box 65 [.sc Y8], .box 59 [.sc Y2], .box 65 [.sc .bool, .own 3 (.int .i64), .own 111 Y7], .own 3 (.int .i64), .val (.int .i64), .mp, .val (.int .i64), .val Y10, .val (.int .i64), .val Y10, .val (.int .i64)], []⟩
def outs36_88 : List (Ex × Sh) := [((.exit 3), ⟨[2, 4, 7, 10, 11, 12, 16, 18, 51, 52], [.val (.int .i64), .box 31 [.sc Y5], .box 65 [.sc Y8], .box 59 [.sc Y2], .box 65 [.sc .bool, .own 3 (.int .i64), .own 111 Y7], .own 3 (.int .i64), .mp, .val (.int .i64), .val Y10, .val (.int .i64)], []⟩), (.ret, ⟨[8, 9], [.val (.int .i64), .own 96 Y9], []⟩)]
noncomputable def f36_88 (x : Int × (S8 × Unit) × (S6 × Unit) × (S2 × Unit) × (Bool × (List Int) × (List S4) × Unit) × (List Int) × Int × (List (Int × Int)) × Int × S10 × Int × S10 × Int × Unit) : Option ((Int × (S8 × Unit) × (S6 × Unit) × (S2 × Unit) × (Bool × (List Int) × (List S4) × Unit) × (List Int) × Int × (List (Int × Int)) × Int × S10 × Int × S10 × Int × Unit) ⊕ ((Int × (S8 × Unit) × (S6 × Unit) × (S2 × Unit) × (Bool × (List Int) × (List S4) × Unit) × (List Int) × (List (Int × Int)) × Int × S10 × Int × Unit) ⊕ (Int × (List S5) × Unit))) :=
  let A24 := x.1
  let v25 := x.2.2.2.2.2.1
  let v26 := x.2.2.2.2.2.2.1
  let v27 := x.2.2.2.2.2.2.2.1
  let v28 := x.2.2.2.2.2.2.2.2.1
  let v29 := x.2.2.2.2.2.2.2.2.2.1
  let v30 := x.2.2.2.2.2.2.2.2.2.2.1
  let v31 := x.2.2.2.2.2.2.2.2.2.2.2.1
  let v32 := x.2.2.2.2.2.2.2.2.2.2.2.2.1
  bif (blt v32 (4 : Int)) then (
    bif (inR v32 4) then (
      let v34 := ([v31.1, v31.2.1, v31.2.2.1, v31.2.2.2].getD v32.toNat 0)
      (joinB ((blt v32 v26) && ((beq v34 (4 : Int)) || ((beq v34 (5 : Int)) || (beq v34 (6 : Int))))) ((f61 (x.2.2.2.1.1, ())).bind fun r37 => (bif (inR v32 4) then (some (beq ([r37.1.1.1, r37.1.1.2.1, r37.1.1.2.2.1, r37.1.1.2.2.2].getD v32.toNat 0) v28)) else none)) (some false)).bind fun c38 =>
      bif c38 then some (.inr (.inr ((10 : Int), ([] : List S5), ())))
      else some (.inl (A24, (x.2.1.1, ()), (x.2.2.1.1, ()), (x.2.2.2.1.1, ()), (x.2.2.2.2.1.1, x.2.2.2.2.1.2.1, x.2.2.2.2.1.2.2.1, ()), v25, v26, v27, v28, v29, v30, v31, (wr (v32 + (1 : Int))), ())))
    else none)
  else some (.inr (.inl (A24, (x.2.1.1, ()), (x.2.2.1.1, ()), (x.2.2.2.1.1, ()), (x.2.2.2.2.1.1, x.2.2.2.2.1.2.1, x.2.2.2.2.1.2.2.1, ()), v25, v27, v28, v29, v30, ())))
def sh36_195 : Sh := ⟨[16, 2, 4, 7, 10, 11, 12, 51, 52], [.mp, .val (.int .i64), .box 31 [.sc Y5], .box 65 [.sc Y8], .box 59 [.sc Y2], .box 65 [.sc .bool, .own 3 (.int .i64), .own 111 Y7], .own 3 (.int .i64), .val Y10, .val (.int .i64)], []⟩
def outs36_195 : List (Ex × Sh) := [(.normal, ⟨[2, 4, 7, 10, 11, 12, 51, 52], [.val (.int .i64), .box 31 [.sc Y5], .box 65 [.sc Y8], .box 59 [.sc Y2], .box 65 [.sc .bool, .own 3 (.int .i64), .own 111 Y7], .own 3 (.int .i64), .val Y10, .val (.int .i64)], []⟩), (.ret, ⟨[8, 9], [.val (.int .i64), .own 96 Y9], []⟩)]
noncomputable def mapChk (ts : List Int) (m : List (Int × Int)) : Option Bool := bif m.all (fun p => inR p.1 (ts.length : Int)) then some (m.all fun p => beq (ts.getD p.1.toNat 0) p.2) else none
noncomputable def f36_195 (x : (List (Int × Int)) × Int × (S8 × Unit) × (S6 × Unit) × (S2 × Unit) × (Bool × (List Int) × (List S4) × Unit) × (List Int) × S10 × Int × Unit) : Option ((Int × (S8 × Unit) × (S6 × Unit) × (S2 × Unit) × (Bool × (List Int) × (List S4) × Unit) × (List Int) × S10 × Int × Unit) ⊕ (Int × (List S5) × Unit)) :=
  (mapChk x.2.2.2.2.2.1.2.1 x.1).bind fun b => bif b then some (.inl x.2) else some (.inr (10, [], ()))
def sh36_172 : Sh := ⟨[2, 4, 7, 10, 11, 12, 16, 51, 52, 164, 165, 166], [.val (.int .i64), .box 31 [.sc Y5], .box 65 [.sc Y8], .box 59 [.sc Y2], .box 65 [.sc .bool, .own 3 (.int .i64), .own 111 Y7], .own 3 (.int .i64), .mp, .val Y10, .val (.int .i64), .val (.row Y0), .val (.int .i64), .val (.int .i64)], []⟩
def outs36_172 : List (Ex × Sh) := [((.exit 5), ⟨[2, 4, 7, 10, 11, 12, 16, 51, 52], [.val (.int .i64), .box 31 [.sc Y5], .box 65 [.sc Y8], .box 59 [.sc Y2], .box 65 [.sc .bool, .own 3 (.int .i64), .own 111 Y7], .own 3 (.int .i64), .mp, .val Y10, .val (.int .i64)], []⟩), (.ret, ⟨[8, 9], [.val (.int .i64), .own 96 Y9], []⟩)]
noncomputable def f36_172 (x : Int × (S8 × Unit) × (S6 × Unit) × (S2 × Unit) × (Bool × (List Int) × (List S4) × Unit) × (List Int) × (List (Int × Int)) × S10 × Int × (List S0) × Int × Int × Unit) : Option ((Int × (S8 × Unit) × (S6 × Unit) × (S2 × Unit) × (Bool × (List Int) × (List S4) × Unit) × (List Int) × (List (Int × Int)) × S10 × Int × (List S0) × Int × Int × Unit) ⊕ ((Int × (S8 × Unit) × (S6 × Unit) × (S2 × Unit) × (Bool × (List Int) × (List S4) × Unit) × (List Int) × (List (Int × Int)) × S10 × Int × Unit) ⊕ (Int × (List S5) × Unit))) :=
  let A147 := x.1
  let v148 := x.2.2.2.2.2.1
  let v149 := x.2.2.2.2.2.2.1
  let v150 := x.2.2.2.2.2.2.2.1
  let v151 := x.2.2.2.2.2.2.2.2.1
  let v152 := x.2.2.2.2.2.2.2.2.2.1
  let v153 := x.2.2.2.2.2.2.2.2.2.2.1
  let v154 := x.2.2.2.2.2.2.2.2.2.2.2.1
  bif (blt v154 v153) then (
    bif (inR v154 (v152.length : Int)) then (
      (joinB (v152.getD v154.toNat (false, (0 : Int))).1 (bif (inR (v152.getD v154.toNat (false, (0 : Int))).2 (x.2.2.2.2.1.2.1.length : Int)) then (some (bne (x.2.2.2.2.1.2.1.getD (v152.getD v154.toNat (false, (0 : Int))).2.toNat (0 : Int)) (2 : Int))) else none) (some false)).bind fun c157 =>
      bif c157 then some (.inr (.inr ((10 : Int), ([] : List S5), ())))
      else some (.inl (A147, (x.2.1.1, ()), (x.2.2.1.1, ()), (x.2.2.2.1.1, ()), (x.2.2.2.2.1.1, x.2.2.2.2.1.2.1, x.2.2.2.2.1.2.2.1, ()), v148, v149, v150, v151, v152, v153, (wr (v154 + (1 : Int))), ())))
    else none)
  else some (.inr (.inl (A147, (x.2.1.1, ()), (x.2.2.1.1, ()), (x.2.2.2.1.1, ()), (x.2.2.2.2.1.1, x.2.2.2.2.1.2.1, x.2.2.2.2.1.2.2.1, ()), v148, v149, v150, v151, ())))
def sh36_20 : Sh := ⟨[2, 4, 7, 10, 11, 12, 51, 52], [.val (.int .i64), .box 31 [.sc Y5], .box 65 [.sc Y8], .box 59 [.sc Y2], .box 65 [.sc .bool, .own 3 (.int .i64), .own 111 Y7], .own 3 (.int .i64), .val Y10, .val (.int .i64)], []⟩
def outs36_20 : List (Ex × Sh) := [((.exit 0), ⟨[2, 7, 10, 11, 12], [.val (.int .i64), .box 65 [.sc Y8], .box 59 [.sc Y2], .box 65 [.sc .bool, .own 3 (.int .i64), .own 111 Y7], .own 3 (.int .i64)], []⟩), (.ret, ⟨[8, 9], [.val (.int .i64), .own 96 Y9], []⟩)]
noncomputable def f36_20 (x : Int × (S8 × Unit) × (S6 × Unit) × (S2 × Unit) × (Bool × (List Int) × (List S4) × Unit) × (List Int) × S10 × Int × Unit) : Option ((Int × (S8 × Unit) × (S6 × Unit) × (S2 × Unit) × (Bool × (List Int) × (List S4) × Unit) × (List Int) × S10 × Int × Unit) ⊕ ((Int × (S6 × Unit) × (S2 × Unit) × (Bool × (List Int) × (List S4) × Unit) × (List Int) × Unit) ⊕ (Int × (List S5) × Unit))) :=
  let A7 := x.1
  let v8 := x.2.2.2.2.2.1
  let v9 := x.2.2.2.2.2.2.1
  let v10 := x.2.2.2.2.2.2.2.1
  bif (blt v10 (4 : Int)) then (
    bif (inR v10 4) then (
      let v12 := ([v9.1, v9.2.1, v9.2.2.1, v9.2.2.2].getD v10.toNat 0)
      (f61 (x.2.2.2.1.1, ())).bind fun r13 =>
      bif (inR v10 4) then (
        let v14 := ([r13.1.1.1, r13.1.1.2.1, r13.1.1.2.2.1, r13.1.1.2.2.2].getD v10.toNat 0)
        bif ((beq v12 (2 : Int)) || (beq v12 (3 : Int))) then (
          let v20 := (bif (blt v14 (0 : Int)) then (wr ((-1 : Int) - v14)) else v14)
          bif (inR v20 (x.2.2.2.2.1.2.1.length : Int)) then (
            bif (bne (x.2.2.2.2.1.2.1.getD v20.toNat (0 : Int)) (bif (beq v12 (3 : Int)) then (3 : Int) else (1 : Int))) then some (.inr (.inr ((10 : Int), ([] : List S5), ())))
            else bif (blt v14 (0 : Int)) then (
              (loopF f36_88 (A7, (x.2.1.1, ()), (x.2.2.1.1, ()), (x.2.2.2.1.1, ()), (x.2.2.2.2.1.1, x.2.2.2.2.1.2.1, x.2.2.2.2.1.2.2.1, ()), v8, v10, [], v20, v9, v10, (((tlook tbl1 x.2.2.2.1.1.1).getD 0 0), ((tlook tbl1 x.2.2.2.1.1.1).getD 1 0), ((tlook tbl1 x.2.2.2.1.1.1).getD 2 0), ((tlook tbl1 x.2.2.2.1.1.1).getD 3 0)), (0 : Int), ())).bind fun y63 => match y63 with
                | .inl z40 => (
                  let v42 := z40.2.2.2.2.2.1
                  let v44 := z40.2.2.2.2.2.2.2.1
                  bif (inR v44 (z40.2.2.2.2.1.2.1.length : Int)) then (
                    bif (nle (v42.length + ([v44]).length) 17592186044416) then (
                      (f36_195 (z40.2.2.2.2.2.2.1, z40.1, (z40.2.1.1, ()), (z40.2.2.1.1, ()), (z40.2.2.2.1.1, ()), (z40.2.2.2.2.1.1, (z40.2.2.2.2.1.2.1.set v44.toNat (0 : Int)), z40.2.2.2.2.1.2.2.1, ()), (v42 ++ ([v44])), z40.2.2.2.2.2.2.2.2.1, z40.2.2.2.2.2.2.2.2.2.1, ())).bind fun y52 => match y52 with
                        | .inl z50 => (
                          some (.inl (z50.1, (z50.2.1.1, ()), (z50.2.2.1.1, ()), (z50.2.2.2.1.1, ()), (z50.2.2.2.2.1.1, z50.2.2.2.2.1.2.1, z50.2.2.2.2.1.2.2.1, ()), z50.2.2.2.2.2.1, z50.2.2.2.2.2.2.1, (wr (z50.2.2.2.2.2.2.2.1 + (1 : Int))), ())))
                        | .inr z51 => (
                          some (.inr (.inr (z51.1, z51.2.1, ())))))
                    else none)
                  else none)
                | .inr z60 => (
                  some (.inr (.inr (z60.1, z60.2.1, ())))))
            else (
              (f36_195 ([], A7, (x.2.1.1, ()), (x.2.2.1.1, ()), (x.2.2.2.1.1, ()), (x.2.2.2.2.1.1, x.2.2.2.2.1.2.1, x.2.2.2.2.1.2.2.1, ()), v8, v9, v10, ())).bind fun y66 => match y66 with
                | .inl z64 => (
                  some (.inl (z64.1, (z64.2.1.1, ()), (z64.2.2.1.1, ()), (z64.2.2.2.1.1, ()), (z64.2.2.2.2.1.1, z64.2.2.2.2.1.2.1, z64.2.2.2.2.1.2.2.1, ()), z64.2.2.2.2.2.1, z64.2.2.2.2.2.2.1, (wr (z64.2.2.2.2.2.2.2.1 + (1 : Int))), ())))
                | .inr z65 => (
                  some (.inr (.inr (z65.1, z65.2.1, ()))))))
          else none)
        else bif (beq v12 (4 : Int)) then (
          (f36_195 ((mupd [] v14 (1 : Int)), A7, (x.2.1.1, ()), (x.2.2.1.1, ()), (x.2.2.2.1.1, ()), (x.2.2.2.2.1.1, x.2.2.2.2.1.2.1, x.2.2.2.2.1.2.2.1, ()), v8, v9, v10, ())).bind fun y77 => match y77 with
            | .inl z75 => (
              some (.inl (z75.1, (z75.2.1.1, ()), (z75.2.2.1.1, ()), (z75.2.2.2.1.1, ()), (z75.2.2.2.2.1.1, z75.2.2.2.2.1.2.1, z75.2.2.2.2.1.2.2.1, ()), z75.2.2.2.2.2.1, z75.2.2.2.2.2.2.1, (wr (z75.2.2.2.2.2.2.2.1 + (1 : Int))), ())))
            | .inr z76 => (
              some (.inr (.inr (z76.1, z76.2.1, ())))))
        else bif (beq v12 (5 : Int)) then (
          (f36_195 ((mupd [] v14 (2 : Int)), A7, (x.2.1.1, ()), (x.2.2.1.1, ()), (x.2.2.2.1.1, ()), (x.2.2.2.2.1.1, x.2.2.2.2.1.2.1, x.2.2.2.2.1.2.2.1, ()), v8, v9, v10, ())).bind fun y88 => match y88 with
            | .inl z86 => (
              some (.inl (z86.1, (z86.2.1.1, ()), (z86.2.2.1.1, ()), (z86.2.2.2.1.1, ()), (z86.2.2.2.2.1.1, z86.2.2.2.2.1.2.1, z86.2.2.2.2.1.2.2.1, ()), z86.2.2.2.2.2.1, z86.2.2.2.2.2.2.1, (wr (z86.2.2.2.2.2.2.2.1 + (1 : Int))), ())))
            | .inr z87 => (
              some (.inr (.inr (z87.1, z87.2.1, ())))))
        else bif (beq v12 (6 : Int)) then (
          (f36_195 ((mupd [] v14 (3 : Int)), A7, (x.2.1.1, ()), (x.2.2.1.1, ()), (x.2.2.2.1.1, ()), (x.2.2.2.2.1.1, x.2.2.2.2.1.2.1, x.2.2.2.2.1.2.2.1, ()), v8, v9, v10, ())).bind fun y99 => match y99 with
            | .inl z97 => (
              some (.inl (z97.1, (z97.2.1.1, ()), (z97.2.2.1.1, ()), (z97.2.2.2.1.1, ()), (z97.2.2.2.2.1.1, z97.2.2.2.2.1.2.1, z97.2.2.2.2.1.2.2.1, ()), z97.2.2.2.2.2.1, z97.2.2.2.2.2.2.1, (wr (z97.2.2.2.2.2.2.2.1 + (1 : Int))), ())))
            | .inr z98 => (
              some (.inr (.inr (z98.1, z98.2.1, ())))))
        else bif (beq v12 (18 : Int)) then (
          (f36_195 ((mupd (mupd (mupd [] v14 (1 : Int)) (wr (v14 + (1 : Int))) (1 : Int)) (wr (v14 + (2 : Int))) (1 : Int)), A7, (x.2.1.1, ()), (x.2.2.1.1, ()), (x.2.2.2.1.1, ()), (x.2.2.2.2.1.1, x.2.2.2.2.1.2.1, x.2.2.2.2.1.2.2.1, ()), v8, v9, v10, ())).bind fun y112 => match y112 with
            | .inl z110 => (
              some (.inl (z110.1, (z110.2.1.1, ()), (z110.2.2.1.1, ()), (z110.2.2.2.1.1, ()), (z110.2.2.2.2.1.1, z110.2.2.2.2.1.2.1, z110.2.2.2.2.1.2.2.1, ()), z110.2.2.2.2.2.1, z110.2.2.2.2.2.2.1, (wr (z110.2.2.2.2.2.2.2.1 + (1 : Int))), ())))
            | .inr z111 => (
              some (.inr (.inr (z111.1, z111.2.1, ())))))
        else bif (beq v12 (19 : Int)) then (
          (f36_195 ((mupd (mupd [] v14 (1 : Int)) (wr (v14 + (1 : Int))) (0 : Int)), A7, (x.2.1.1, ()), (x.2.2.1.1, ()), (x.2.2.2.1.1, ()), (x.2.2.2.2.1.1, x.2.2.2.2.1.2.1, x.2.2.2.2.1.2.2.1, ()), v8, v9, v10, ())).bind fun y124 => match y124 with
            | .inl z122 => (
              some (.inl (z122.1, (z122.2.1.1, ()), (z122.2.2.1.1, ()), (z122.2.2.2.1.1, ()), (z122.2.2.2.2.1.1, z122.2.2.2.2.1.2.1, z122.2.2.2.2.1.2.2.1, ()), z122.2.2.2.2.2.1, z122.2.2.2.2.2.2.1, (wr (z122.2.2.2.2.2.2.2.1 + (1 : Int))), ())))
            | .inr z123 => (
              some (.inr (.inr (z123.1, z123.2.1, ())))))
        else bif (beq v12 (20 : Int)) then (
          (f36_195 ((mupd (mupd [] v14 (1 : Int)) (wr (v14 + (1 : Int))) (1 : Int)), A7, (x.2.1.1, ()), (x.2.2.1.1, ()), (x.2.2.2.1.1, ()), (x.2.2.2.2.1.1, x.2.2.2.2.1.2.1, x.2.2.2.2.1.2.2.1, ()), v8, v9, v10, ())).bind fun y136 => match y136 with
            | .inl z134 => (
              some (.inl (z134.1, (z134.2.1.1, ()), (z134.2.2.1.1, ()), (z134.2.2.2.1.1, ()), (z134.2.2.2.2.1.1, z134.2.2.2.2.1.2.1, z134.2.2.2.2.1.2.2.1, ()), z134.2.2.2.2.2.1, z134.2.2.2.2.2.2.1, (wr (z134.2.2.2.2.2.2.2.1 + (1 : Int))), ())))
            | .inr z135 => (
              some (.inr (.inr (z135.1, z135.2.1, ())))))
        else bif (beq v12 (11 : Int)) then (
          bif (inR v14 (x.2.1.1.length : Int)) then (
            let v145 := (x.2.1.1.getD v14.toNat ((⟨#[]⟩ : ByteArray), (0 : Int), (0 : Int), false, (0 : Int), ([] : List S0), ([] : List S1), ([] : List S2), ([] : List S3))).2.2.2.2.2.1
            (loopF f36_172 (A7, (x.2.1.1, ()), (x.2.2.1.1, ()), (x.2.2.2.1.1, ()), (x.2.2.2.2.1.1, x.2.2.2.2.1.2.1, x.2.2.2.2.1.2.2.1, ()), v8, [], v9, v10, v145, (v145.length : Int), (0 : Int), ())).bind fun y178 => match y178 with
              | .inl z159 => (
                (f36_195 (z159.2.2.2.2.2.2.1, z159.1, (z159.2.1.1, ()), (z159.2.2.1.1, ()), (z159.2.2.2.1.1, ()), (z159.2.2.2.2.1.1, z159.2.2.2.2.1.2.1, z159.2.2.2.2.1.2.2.1, ()), z159.2.2.2.2.2.1, z159.2.2.2.2.2.2.2.1, z159.2.2.2.2.2.2.2.2.1, ())).bind fun y167 => match y167 with
                  | .inl z165 => (
                    some (.inl (z165.1, (z165.2.1.1, ()), (z165.2.2.1.1, ()), (z165.2.2.2.1.1, ()), (z165.2.2.2.2.1.1, z165.2.2.2.2.1.2.1, z165.2.2.2.2.1.2.2.1, ()), z165.2.2.2.2.2.1, z165.2.2.2.2.2.2.1, (wr (z165.2.2.2.2.2.2.2.1 + (1 : Int))), ())))
                  | .inr z166 => (
                    some (.inr (.inr (z166.1, z166.2.1, ())))))
              | .inr z175 => (
                some (.inr (.inr (z175.1, z175.2.1, ())))))
          else none)
        else (
          (f36_195 ([], A7, (x.2.1.1, ()), (x.2.2.1.1, ()), (x.2.2.2.1.1, ()), (x.2.2.2.2.1.1, x.2.2.2.2.1.2.1, x.2.2.2.2.1.2.2.1, ()), v8, v9, v10, ())).bind fun y181 => match y181 with
            | .inl z179 => (
              some (.inl (z179.1, (z179.2.1.1, ()), (z179.2.2.1.1, ()), (z179.2.2.2.1.1, ()), (z179.2.2.2.2.1.1, z179.2.2.2.2.1.2.1, z179.2.2.2.2.1.2.2.1, ()), z179.2.2.2.2.2.1, z179.2.2.2.2.2.2.1, (wr (z179.2.2.2.2.2.2.2.1 + (1 : Int))), ())))
            | .inr z180 => (
              some (.inr (.inr (z180.1, z180.2.1, ()))))))
      else none)
    else none)
  else some (.inr (.inl (A7, (x.2.2.1.1, ()), (x.2.2.2.1.1, ()), (x.2.2.2.2.1.1, x.2.2.2.2.1.2.1, x.2.2.2.2.1.2.2.1, ()), v8, ())))
def sh36_221 : Sh := ⟨[2, 7, 10, 11, 12, 199], [.val (.int .i64), .box 65 [.sc Y8], .box 59 [.sc Y2], .box 65 [.sc .bool, .own 3 (.int .i64), .own 111 Y7], .own 3 (.int .i64), .val .bool], []⟩
def outs36_221 : List (Ex × Sh) := [(.normal, ⟨[2, 7, 10, 11, 12], [.val (.int .i64), .box 65 [.sc Y8], .box 59 [.sc Y2], .box 65 [.sc .bool, .own 3 (.int .i64), .own 111 Y7], .own 3 (.int .i64)], []⟩)]
noncomputable def f36_221 (x : Int × (S6 × Unit) × (S2 × Unit) × (Bool × (List Int) × (List S4) × Unit) × (List Int) × Bool × Unit) : Option (Int × (S6 × Unit) × (S2 × Unit) × (Bool × (List Int) × (List S4) × Unit) × (List Int) × Unit) :=
  let A193 := x.1
  let v194 := x.2.2.2.2.1
  bif x.2.2.2.2.2.1 then (
    (f63 (x.2.2.1.1.2.1, ())).bind fun r196 =>
    bif (nle (v194.length + r196.1.1.length) 17592186044416) then (
      some (A193, (x.2.1.1, ()), (x.2.2.1.1, ()), (x.2.2.2.1.1, x.2.2.2.1.2.1, x.2.2.2.1.2.2.1, ()), (v194 ++ r196.1.1), ()))
    else none)
  else some (A193, (x.2.1.1, ()), (x.2.2.1.1, ()), (x.2.2.2.1.1, x.2.2.2.1.2.1, x.2.2.2.1.2.2.1, ()), v194, ())
def sh36_237 : Sh := ⟨[2, 7, 10, 11, 12, 25, 26, 210], [.val (.int .i64), .box 65 [.sc Y8], .box 59 [.sc Y2], .box 65 [.sc .bool, .own 3 (.int .i64), .own 111 Y7], .own 3 (.int .i64), .box 111 [.sc Y7], .val (.int .i64), .val .bool], []⟩
def outs36_237 : List (Ex × Sh) := [(.normal, ⟨[2, 7, 10, 11, 12, 25], [.val (.int .i64), .box 65 [.sc Y8], .box 59 [.sc Y2], .box 65 [.sc .bool, .own 3 (.int .i64), .own 111 Y7], .own 3 (.int .i64), .box 111 [.sc Y7]], []⟩)]
noncomputable def f36_237 (x : Int × (S6 × Unit) × (S2 × Unit) × (Bool × (List Int) × (List S4) × Unit) × (List Int) × (S4 × Unit) × Int × Bool × Unit) : Option (Int × (S6 × Unit) × (S2 × Unit) × (Bool × (List Int) × (List S4) × Unit) × (List Int) × (S4 × Unit) × Unit) :=
  let A203 := x.1
  let v204 := x.2.2.2.2.1
  bif x.2.2.2.2.2.2.2.1 then (
    let v207 := (wr (x.2.2.2.2.2.2.1 - (1 : Int)))
    bif (inR v207 (x.2.1.1.2.2.length : Int)) then (
      some (A203, (x.2.1.1, ()), (x.2.2.1.1, ()), (x.2.2.2.1.1, x.2.2.2.1.2.1, x.2.2.2.1.2.2.1, ()), v204, ((x.2.1.1.2.2.getD v207.toNat (false, (0 : Int), (0 : Int))), ()), ()))
    else none)
  else some (A203, (x.2.1.1, ()), (x.2.2.1.1, ()), (x.2.2.2.1.1, x.2.2.2.1.2.1, x.2.2.2.1.2.2.1, ()), v204, (x.2.2.2.2.2.1.1, ()), ())
def sh36_257 : Sh := ⟨[2, 7, 10, 11, 12, 25, 27, 223, 224], [.val (.int .i64), .box 65 [.sc Y8], .box 59 [.sc Y2], .box 65 [.sc .bool, .own 3 (.int .i64), .own 111 Y7], .own 3 (.int .i64), .box 111 [.sc Y7], .val .bool, .val (.int .i64), .val .bool], [(28, .clo 64 [7])]⟩
def outs36_257 : List (Ex × Sh) := [(.normal, ⟨[2, 7, 10, 11, 12], [.val (.int .i64), .box 65 [.sc Y8], .box 59 [.sc Y2], .box 65 [.sc .bool, .own 3 (.int .i64), .own 111 Y7], .own 3 (.int .i64)], [(28, .clo 64 [7])]⟩), (.ret, ⟨[8, 9], [.val (.int .i64), .own 96 Y9], []⟩)]
noncomputable def f36_257 (x : Int × (S6 × Unit) × (S2 × Unit) × (Bool × (List Int) × (List S4) × Unit) × (List Int) × (S4 × Unit) × Bool × Int × Bool × Unit) : Option ((Int × (S6 × Unit) × (S2 × Unit) × (Bool × (List Int) × (List S4) × Unit) × (List Int) × Unit) ⊕ (Int × (List S5) × Unit)) :=
  let A214 := x.1
  let v215 := x.2.2.2.2.1
  let v216 := x.2.2.2.2.2.2.1
  let v217 := x.2.2.2.2.2.2.2.1
  bif x.2.2.2.2.2.2.2.2.1 then (
    bif ((!v216) || (!x.2.2.2.2.2.1.1.1)) then some (.inr ((11 : Int), ([] : List S5), ()))
    else some (.inl (A214, (x.2.1.1, ()), (x.2.2.1.1, ()), (x.2.2.2.1.1, x.2.2.2.1.2.1, x.2.2.2.1.2.2.1, ()), v215, ())))
  else bif ((beq v217 (34 : Int)) || ((beq v217 (35 : Int)) || (beq v217 (36 : Int)))) then (
    bif ((!v216) || x.2.2.2.2.2.1.1.1) then some (.inr ((11 : Int), ([] : List S5), ()))
    else some (.inl (A214, (x.2.1.1, ()), (x.2.2.1.1, ()), (x.2.2.2.1.1, x.2.2.2.1.2.1, x.2.2.2.1.2.2.1, ()), v215, ())))
  else bif ((beq v217 (31 : Int)) || (beq v217 (33 : Int))) then (
    bif (ble (50 : Int) (x.2.1.1.2.2.length : Int)) then some (.inr ((11 : Int), ([] : List S5), ()))
    else some (.inl (A214, (x.2.1.1, ()), (x.2.2.1.1, ()), (x.2.2.2.1.1, x.2.2.2.1.2.1, x.2.2.2.1.2.2.1, ()), v215, ())))
  else some (.inl (A214, (x.2.1.1, ()), (x.2.2.1.1, ()), (x.2.2.2.1.1, x.2.2.2.1.2.1, x.2.2.2.1.2.2.1, ()), v215, ()))
def sh36_302 : Sh := ⟨[2, 7, 10, 11, 12], [.val (.int .i64), .box 65 [.sc Y8], .box 59 [.sc Y2], .box 65 [.sc .bool, .own 3 (.int .i64), .own 111 Y7], .own 3 (.int .i64)], [(28, .clo 64 [7])]⟩
def outs36_302 : List (Ex × Sh) := [(.normal, ⟨[2, 7, 10, 11, 12, 278], [.val (.int .i64), .box 65 [.sc Y8], .box 59 [.sc Y2], .box 65 [.sc .bool, .own 3 (.int .i64), .own 111 Y7], .own 3 (.int .i64), .val .bool], []⟩)]
noncomputable def f36_302 (x : Int × (S6 × Unit) × (S2 × Unit) × (Bool × (List Int) × (List S4) × Unit) × (List Int) × Unit) : Option (Int × (S6 × Unit) × (S2 × Unit) × (Bool × (List Int) × (List S4) × Unit) × (List Int) × Bool × Unit) :=
  let A232 := x.1
  let v233 := x.2.2.2.2.1
  bif ((beq x.2.2.1.1.1 (33 : Int)) || (beq x.2.2.1.1.1 (34 : Int))) then (
    (f64 (x.2.2.1.1.2.1, (x.2.1.1, ()), ())).bind fun r236 =>
    bif (!r236.1.1) then (
      some (A232, (r236.2.1.1, ()), (x.2.2.1.1, ()), (x.2.2.2.1.1, x.2.2.2.1.2.1, x.2.2.2.1.2.2.1, ()), v233, true, ()))
    else bif (beq x.2.2.1.1.1 (31 : Int)) then (
      (f64 (x.2.2.1.1.2.2.1, (r236.2.1.1, ()), ())).bind fun r239 =>
      some (A232, (r239.2.1.1, ()), (x.2.2.1.1, ()), (x.2.2.2.1.1, x.2.2.2.1.2.1, x.2.2.2.1.2.2.1, ()), v233, (!r239.1.1), ()))
    else some (A232, (r236.2.1.1, ()), (x.2.2.1.1, ()), (x.2.2.2.1.1, x.2.2.2.1.2.1, x.2.2.2.1.2.2.1, ()), v233, false, ()))
  else bif (beq x.2.2.1.1.1 (31 : Int)) then (
    (f64 (x.2.2.1.1.2.2.1, (x.2.1.1, ()), ())).bind fun r242 =>
    some (A232, (r242.2.1.1, ()), (x.2.2.1.1, ()), (x.2.2.2.1.1, x.2.2.2.1.2.1, x.2.2.2.1.2.2.1, ()), v233, (!r242.1.1), ()))
  else some (A232, (x.2.1.1, ()), (x.2.2.1.1, ()), (x.2.2.2.1.1, x.2.2.2.1.2.1, x.2.2.2.1.2.2.1, ()), v233, false, ())
def sh36_316 : Sh := ⟨[2, 7, 10, 11, 12, 29, 284, 285], [.val (.int .i64), .box 65 [.sc Y8], .box 59 [.sc Y2], .box 65 [.sc .bool, .own 3 (.int .i64), .own 111 Y7], .own 3 (.int .i64), .box 65 [.sc .bool, .own 3 (.int .i64), .own 111 Y7], .val Y10, .val (.int .i64)], []⟩
def outs36_316 : List (Ex × Sh) := [((.exit 10), ⟨[2, 7, 10, 11, 12, 29], [.val (.int .i64), .box 65 [.sc Y8], .box 59 [.sc Y2], .box 65 [.sc .bool, .own 3 (.int .i64), .own 111 Y7], .own 3 (.int .i64), .box 65 [.sc .bool, .own 3 (.int .i64), .own 111 Y7]], []⟩)]
noncomputable def f36_316 (x : Int × (S6 × Unit) × (S2 × Unit) × (Bool × (List Int) × (List S4) × Unit) × (List Int) × (Bool × (List Int) × (List S4) × Unit) × S10 × Int × Unit) : Option ((Int × (S6 × Unit) × (S2 × Unit) × (Bool × (List Int) × (List S4) × Unit) × (List Int) × (Bool × (List Int) × (List S4) × Unit) × S10 × Int × Unit) ⊕ (Int × (S6 × Unit) × (S2 × Unit) × (Bool × (List Int) × (List S4) × Unit) × (List Int) × (Bool × (List Int) × (List S4) × Unit) × Unit)) :=
  let A249 := x.1
  let v250 := x.2.2.2.2.1
  let v251 := x.2.2.2.2.2.2.1
  let v252 := x.2.2.2.2.2.2.2.1
  bif (blt v252 (4 : Int)) then (
    bif (inR v252 4) then (
      bif (beq ([v251.1, v251.2.1, v251.2.2.1, v251.2.2.2].getD v252.toNat 0) (1 : Int)) then (
        (f61 (x.2.2.1.1, ())).bind fun r256 =>
        bif (inR v252 4) then (
          let v257 := ([r256.1.1.1, r256.1.1.2.1, r256.1.1.2.2.1, r256.1.1.2.2.2].getD v252.toNat 0)
          (f65 (x.2.2.1.1.1, ())).bind fun r258 =>
          bif (inR v257 (x.2.2.2.1.2.1.length : Int)) then (
            let row259 := (x.2.2.2.1.2.1.set v257.toNat r258.1.1)
            bif (beq x.2.2.1.1.1 (41 : Int)) then (
              (f61 (x.2.2.1.1, ())).bind fun r261 =>
              bif (inR v252 4) then (
                let v262 := ([r261.1.1.1, r261.1.1.2.1, r261.1.1.2.2.1, r261.1.1.2.2.2].getD v252.toNat 0)
                bif (inR v262 (row259.length : Int)) then (
                  some (.inl (A249, (x.2.1.1, ()), (x.2.2.1.1, ()), (x.2.2.2.1.1, (row259.set v262.toNat (3 : Int)), x.2.2.2.1.2.2.1, ()), v250, (x.2.2.2.2.2.1.1, x.2.2.2.2.2.1.2.1, x.2.2.2.2.2.1.2.2.1, ()), v251, (wr (v252 + (1 : Int))), ())))
                else none)
              else none)
            else some (.inl (A249, (x.2.1.1, ()), (x.2.2.1.1, ()), (x.2.2.2.1.1, row259, x.2.2.2.1.2.2.1, ()), v250, (x.2.2.2.2.2.1.1, x.2.2.2.2.2.1.2.1, x.2.2.2.2.2.1.2.2.1, ()), v251, (wr (v252 + (1 : Int))), ())))
          else none)
        else none)
      else some (.inl (A249, (x.2.1.1, ()), (x.2.2.1.1, ()), (x.2.2.2.1.1, x.2.2.2.1.2.1, x.2.2.2.1.2.2.1, ()), v250, (x.2.2.2.2.2.1.1, x.2.2.2.2.2.1.2.1, x.2.2.2.2.2.1.2.2.1, ()), v251, (wr (v252 + (1 : Int))), ())))
    else none)
  else some (.inr (A249, (x.2.1.1, ()), (x.2.2.1.1, ()), (x.2.2.2.1.1, x.2.2.2.1.2.1, x.2.2.2.1.2.2.1, ()), v250, (x.2.2.2.2.2.1.1, x.2.2.2.2.2.1.2.1, x.2.2.2.2.2.1.2.2.1, ()), ()))
def sh36_349 : Sh := ⟨[2, 7, 10, 11, 12, 29, 314], [.val (.int .i64), .box 65 [.sc Y8], .box 59 [.sc Y2], .box 65 [.sc .bool, .own 3 (.int .i64), .own 111 Y7], .own 3 (.int .i64), .box 65 [.sc .bool, .own 3 (.int .i64), .own 111 Y7], .val .bool], []⟩
def outs36_349 : List (Ex × Sh) := [(.normal, ⟨[2, 7, 10, 11, 12, 29], [.val (.int .i64), .box 65 [.sc Y8], .box 59 [.sc Y2], .box 65 [.sc .bool, .own 3 (.int .i64), .own 111 Y7], .own 3 (.int .i64), .box 65 [.sc .bool, .own 3 (.int .i64), .own 111 Y7]], []⟩)]
noncomputable def f36_349 (x : Int × (S6 × Unit) × (S2 × Unit) × (Bool × (List Int) × (List S4) × Unit) × (List Int) × (Bool × (List Int) × (List S4) × Unit) × Bool × Unit) : Option (Int × (S6 × Unit) × (S2 × Unit) × (Bool × (List Int) × (List S4) × Unit) × (List Int) × (Bool × (List Int) × (List S4) × Unit) × Unit) :=
  let A271 := x.1
  let v272 := x.2.2.2.2.1
  bif x.2.2.2.2.2.2.1 then (
    let v274 := (wr (x.2.2.1.1.2.1 + (1 : Int)))
    bif (inR v274 (x.2.2.2.1.2.1.length : Int)) then (
      some (A271, (x.2.1.1, ()), (x.2.2.1.1, ()), (x.2.2.2.1.1, (x.2.2.2.1.2.1.set v274.toNat (1 : Int)), x.2.2.2.1.2.2.1, ()), v272, (x.2.2.2.2.2.1.1, x.2.2.2.2.2.1.2.1, x.2.2.2.2.2.1.2.2.1, ()), ()))
    else none)
  else some (A271, (x.2.1.1, ()), (x.2.2.1.1, ()), (x.2.2.2.1.1, x.2.2.2.1.2.1, x.2.2.2.1.2.2.1, ()), v272, (x.2.2.2.2.2.1.1, x.2.2.2.2.2.1.2.1, x.2.2.2.2.2.1.2.2.1, ()), ())
def sh36_372 : Sh := ⟨[2, 7, 10, 11, 12, 29, 33, 322, 323, 324, 332, 333], [.val (.int .i64), .box 65 [.sc Y8], .box 59 [.sc Y2], .box 65 [.sc .bool, .own 3 (.int .i64), .own 111 Y7], .own 3 (.int .i64), .box 65 [.sc .bool, .own 3 (.int .i64), .own 111 Y7], .box 111 [.sc Y7], .val (.row Y7), .val (.int .i64), .val (.int .i64), .val (.int .i64), .val (.int .i64)], [(331, .same 12)]⟩
def outs36_372 : List (Ex × Sh) := [((.exit 14), ⟨[2, 7, 10, 11, 12, 29, 33, 322, 323, 324], [.val (.int .i64), .box 65 [.sc Y8], .box 59 [.sc Y2], .box 65 [.sc .bool, .own 3 (.int .i64), .own 111 Y7], .own 3 (.int .i64), .box 65 [.sc .bool, .own 3 (.int .i64), .own 111 Y7], .box 111 [.sc Y7], .val (.row Y7), .val (.int .i64), .val (.int .i64)], []⟩), (.ret, ⟨[8, 9], [.val (.int .i64), .own 96 Y9], []⟩)]
noncomputable def f36_372 (x : Int × (S6 × Unit) × (S2 × Unit) × (Bool × (List Int) × (List S4) × Unit) × (List Int) × (Bool × (List Int) × (List S4) × Unit) × (S4 × Unit) × (List S4) × Int × Int × Int × Int × Unit) : Option ((Int × (S6 × Unit) × (S2 × Unit) × (Bool × (List Int) × (List S4) × Unit) × (List Int) × (Bool × (List Int) × (List S4) × Unit) × (S4 × Unit) × (List S4) × Int × Int × Int × Int × Unit) ⊕ ((Int × (S6 × Unit) × (S2 × Unit) × (Bool × (List Int) × (List S4) × Unit) × (List Int) × (Bool × (List Int) × (List S4) × Unit) × (S4 × Unit) × (List S4) × Int × Int × Unit) ⊕ (Int × (List S5) × Unit))) :=
  let A290 := x.1
  let v291 := x.2.2.2.2.1
  let v292 := x.2.2.2.2.2.2.2.1
  let v293 := x.2.2.2.2.2.2.2.2.1
  let v294 := x.2.2.2.2.2.2.2.2.2.1
  let v295 := x.2.2.2.2.2.2.2.2.2.2.1
  let v296 := x.2.2.2.2.2.2.2.2.2.2.2.1
  bif (blt v296 v295) then (
    bif (inR v296 (v291.length : Int)) then (
      bif (blt (v291.getD v296.toNat (0 : Int)) x.2.2.2.2.2.2.1.1.2.1) then some (.inr (.inr ((12 : Int), ([] : List S5), ())))
      else some (.inl (A290, (x.2.1.1, ()), (x.2.2.1.1, ()), (x.2.2.2.1.1, x.2.2.2.1.2.1, x.2.2.2.1.2.2.1, ()), v291, (x.2.2.2.2.2.1.1, x.2.2.2.2.2.1.2.1, x.2.2.2.2.2.1.2.2.1, ()), (x.2.2.2.2.2.2.1.1, ()), v292, v293, v294, v295, (wr (v296 + (1 : Int))), ())))
    else none)
  else some (.inr (.inl (A290, (x.2.1.1, ()), (x.2.2.1.1, ()), (x.2.2.2.1.1, x.2.2.2.1.2.1, x.2.2.2.1.2.2.1, ()), v291, (x.2.2.2.2.2.1.1, x.2.2.2.2.2.1.2.1, x.2.2.2.2.2.1.2.2.1, ()), (x.2.2.2.2.2.2.1.1, ()), v292, v293, v294, ())))
def sh36_396 : Sh := ⟨[2, 7, 10, 11, 12, 29, 322, 323, 324, 343, 344], [.val (.int .i64), .box 65 [.sc Y8], .box 59 [.sc Y2], .box 65 [.sc .bool, .own 3 (.int .i64), .own 111 Y7], .own 3 (.int .i64), .box 65 [.sc .bool, .own 3 (.int .i64), .own 111 Y7], .val (.row Y7), .val (.int .i64), .val (.int .i64), .val (.int .i64), .val (.int .i64)], []⟩
def outs36_396 : List (Ex × Sh) := [((.exit 16), ⟨[2, 7, 10, 11, 12, 29, 322, 323, 324], [.val (.int .i64), .box 65 [.sc Y8], .box 59 [.sc Y2], .box 65 [.sc .bool, .own 3 (.int .i64), .own 111 Y7], .own 3 (.int .i64), .box 65 [.sc .bool, .own 3 (.int .i64), .own 111 Y7], .val (.row Y7), .val (.int .i64), .val (.int .i64)], []⟩), (.ret, ⟨[8, 9], [.val (.int .i64), .own 96 Y9], []⟩)]
noncomputable def f36_396 (x : Int × (S6 × Unit) × (S2 × Unit) × (Bool × (List Int) × (List S4) × Unit) × (List Int) × (Bool × (List Int) × (List S4) × Unit) × (List S4) × Int × Int × Int × Int × Unit) : Option ((Int × (S6 × Unit) × (S2 × Unit) × (Bool × (List Int) × (List S4) × Unit) × (List Int) × (Bool × (List Int) × (List S4) × Unit) × (List S4) × Int × Int × Int × Int × Unit) ⊕ ((Int × (S6 × Unit) × (S2 × Unit) × (Bool × (List Int) × (List S4) × Unit) × (List Int) × (Bool × (List Int) × (List S4) × Unit) × (List S4) × Int × Int × Unit) ⊕ (Int × (List S5) × Unit))) :=
  let A307 := x.1
  let v308 := x.2.2.2.2.1
  let v309 := x.2.2.2.2.2.2.1
  let v310 := x.2.2.2.2.2.2.2.1
  let v311 := x.2.2.2.2.2.2.2.2.1
  let v312 := x.2.2.2.2.2.2.2.2.2.1
  let v313 := x.2.2.2.2.2.2.2.2.2.2.1
  bif (blt v313 v312) then (
    bif (inR v313 (x.2.2.2.1.2.1.length : Int)) then (
      bif (inR v313 (x.2.1.1.2.1.length : Int)) then (
        bif (bne (x.2.2.2.1.2.1.getD v313.toNat (0 : Int)) (x.2.1.1.2.1.getD v313.toNat (0 : Int))) then some (.inr (.inr ((12 : Int), ([] : List S5), ())))
        else some (.inl (A307, (x.2.1.1, ()), (x.2.2.1.1, ()), (x.2.2.2.1.1, x.2.2.2.1.2.1, x.2.2.2.1.2.2.1, ()), v308, (x.2.2.2.2.2.1.1, x.2.2.2.2.2.1.2.1, x.2.2.2.2.2.1.2.2.1, ()), v309, v310, v311, v312, (wr (v313 + (1 : Int))), ())))
      else none)
    else none)
  else some (.inr (.inl (A307, (x.2.1.1, ()), (x.2.2.1.1, ()), (x.2.2.2.1.1, x.2.2.2.1.2.1, x.2.2.2.1.2.2.1, ()), v308, (x.2.2.2.2.2.1.1, x.2.2.2.2.2.1.2.1, x.2.2.2.2.2.1.2.2.1, ()), v309, v310, v311, ())))
def sh36_356 : Sh := ⟨[2, 7, 10, 11, 12, 29, 322, 323, 324], [.val (.int .i64), .box 65 [.sc Y8], .box 59 [.sc Y2], .box 65 [.sc .bool, .own 3 (.int .i64), .own 111 Y7], .own 3 (.int .i64), .box 65 [.sc .bool, .own 3 (.int .i64), .own 111 Y7], .val (.row Y7), .val (.int .i64), .val (.int .i64)], []⟩
def outs36_356 : List (Ex × Sh) := [((.exit 12), ⟨[2, 7, 10, 11, 29], [.val (.int .i64), .box 65 [.sc Y8], .box 59 [.sc Y2], .box 65 [.sc .bool, .own 3 (.int .i64), .own 111 Y7], .box 65 [.sc .bool, .own 3 (.int .i64), .own 111 Y7]], []⟩), (.ret, ⟨[8, 9], [.val (.int .i64), .own 96 Y9], []⟩)]
noncomputable def f36_356 (x : Int × (S6 × Unit) × (S2 × Unit) × (Bool × (List Int) × (List S4) × Unit) × (List Int) × (Bool × (List Int) × (List S4) × Unit) × (List S4) × Int × Int × Unit) : Option ((Int × (S6 × Unit) × (S2 × Unit) × (Bool × (List Int) × (List S4) × Unit) × (List Int) × (Bool × (List Int) × (List S4) × Unit) × (List S4) × Int × Int × Unit) ⊕ ((Int × (S6 × Unit) × (S2 × Unit) × (Bool × (List Int) × (List S4) × Unit) × (Bool × (List Int) × (List S4) × Unit) × Unit) ⊕ (Int × (List S5) × Unit))) :=
  let A280 := x.1
  let v281 := x.2.2.2.2.1
  let v282 := x.2.2.2.2.2.2.1
  let v283 := x.2.2.2.2.2.2.2.1
  let v284 := x.2.2.2.2.2.2.2.2.1
  bif (blt v284 v283) then (
    bif (inR v284 (v282.length : Int)) then (
      bif (!(v282.getD v284.toNat (false, (0 : Int), (0 : Int))).1) then (
        some (.inl (A280, (x.2.1.1, ()), (x.2.2.1.1, ()), (x.2.2.2.1.1, x.2.2.2.1.2.1, x.2.2.2.1.2.2.1, ()), v281, (x.2.2.2.2.2.1.1, x.2.2.2.2.2.1.2.1, x.2.2.2.2.2.1.2.2.1, ()), v282, v283, (wr (v284 + (1 : Int))), ())))
      else (
        (loopF f36_372 (A280, (x.2.1.1, ()), (x.2.2.1.1, ()), (x.2.2.2.1.1, x.2.2.2.1.2.1, x.2.2.2.1.2.2.1, ()), v281, (x.2.2.2.2.2.1.1, x.2.2.2.2.2.1.2.1, x.2.2.2.2.2.1.2.2.1, ()), ((v282.getD v284.toNat (false, (0 : Int), (0 : Int))), ()), v282, v283, v284, (v281.length : Int), (0 : Int), ())).bind fun y333 => match y333 with
          | .inl z301 => (
            (loopF f36_396 (z301.1, (z301.2.1.1, ()), (z301.2.2.1.1, ()), (z301.2.2.2.1.1, z301.2.2.2.1.2.1, z301.2.2.2.1.2.2.1, ()), z301.2.2.2.2.1, (z301.2.2.2.2.2.1.1, z301.2.2.2.2.2.1.2.1, z301.2.2.2.2.2.1.2.2.1, ()), z301.2.2.2.2.2.2.2.1, z301.2.2.2.2.2.2.2.2.1, z301.2.2.2.2.2.2.2.2.2.1, z301.2.2.2.2.2.2.1.1.2.1, (0 : Int), ())).bind fun y329 => match y329 with
              | .inl z319 => (
                some (.inl (z319.1, (z319.2.1.1, ()), (z319.2.2.1.1, ()), (z319.2.2.2.1.1, z319.2.2.2.1.2.1, z319.2.2.2.1.2.2.1, ()), z319.2.2.2.2.1, (z319.2.2.2.2.2.1.1, z319.2.2.2.2.2.1.2.1, z319.2.2.2.2.2.1.2.2.1, ()), z319.2.2.2.2.2.2.1, z319.2.2.2.2.2.2.2.1, (wr (z319.2.2.2.2.2.2.2.2.1 + (1 : Int))), ())))
              | .inr z326 => (
                some (.inr (.inr (z326.1, z326.2.1, ())))))
          | .inr z330 => (
            some (.inr (.inr (z330.1, z330.2.1, ()))))))
    else none)
  else some (.inr (.inl (A280, (x.2.1.1, ()), (x.2.2.1.1, ()), (x.2.2.2.1.1, x.2.2.2.1.2.1, x.2.2.2.1.2.2.1, ()), (x.2.2.2.2.2.1.1, x.2.2.2.2.2.1.2.1, x.2.2.2.2.2.1.2.2.1, ()), ())))
def sh36_437 : Sh := ⟨[2, 7, 10, 11, 29, 37, 365, 366], [.val (.int .i64), .box 65 [.sc Y8], .box 59 [.sc Y2], .box 65 [.sc .bool, .own 3 (.int .i64), .own 111 Y7], .box 65 [.sc .bool, .own 3 (.int .i64), .own 111 Y7], .val (.int .i64), .val (.int .i64), .val .bool], []⟩
def outs36_437 : List (Ex × Sh) := [(.normal, ⟨[2, 7, 10, 11, 29], [.val (.int .i64), .box 65 [.sc Y8], .box 59 [.sc Y2], .box 65 [.sc .bool, .own 3 (.int .i64), .own 111 Y7], .box 65 [.sc .bool, .own 3 (.int .i64), .own 111 Y7]], []⟩)]
noncomputable def f36_437 (x : Int × (S6 × Unit) × (S2 × Unit) × (Bool × (List Int) × (List S4) × Unit) × (Bool × (List Int) × (List S4) × Unit) × Int × Int × Bool × Unit) : Option (Int × (S6 × Unit) × (S2 × Unit) × (Bool × (List Int) × (List S4) × Unit) × (Bool × (List Int) × (List S4) × Unit) × Unit) :=
  let A340 := x.1
  let v341 := x.2.2.2.2.2.1
  let v342 := x.2.2.2.2.2.2.1
  bif x.2.2.2.2.2.2.2.1 then (
    bif (inE v341 (x.2.2.2.1.2.2.1.length : Int)) then (
      some (A340, (x.2.1.1, ()), (x.2.2.1.1, ()), (x.2.2.2.1.1, x.2.2.2.1.2.1, (x.2.2.2.1.2.2.1.take v341.toNat), ()), (x.2.2.2.2.1.1, x.2.2.2.2.1.2.1, x.2.2.2.2.1.2.2.1, ()), ()))
    else none)
  else bif (beq v342 (34 : Int)) then (
    bif (inR v341 (x.2.2.2.1.2.2.1.length : Int)) then (
      some (A340, (x.2.1.1, ()), (x.2.2.1.1, ()), (x.2.2.2.1.1, x.2.2.2.1.2.1, (x.2.2.2.1.2.2.1.set v341.toNat ((x.2.2.2.1.2.2.1.getD v341.toNat (false, (0 : Int), (0 : Int))).1, x.2.2.1.1.2.1, (x.2.2.2.1.2.2.1.getD v341.toNat (false, (0 : Int), (0 : Int))).2.2)), ()), (x.2.2.2.2.1.1, x.2.2.2.2.1.2.1, x.2.2.2.2.1.2.2.1, ()), ()))
    else none)
  else bif (beq v342 (33 : Int)) then (
    let row348 := ([(false, x.2.2.1.1.2.1, (0 : Int))])
    bif (nle (x.2.2.2.1.2.2.1.length + row348.length) 5864062014805) then (
      some (A340, (x.2.1.1, ()), (x.2.2.1.1, ()), (x.2.2.2.1.1, x.2.2.2.1.2.1, (x.2.2.2.1.2.2.1 ++ row348), ()), (x.2.2.2.2.1.1, x.2.2.2.2.1.2.1, x.2.2.2.2.1.2.2.1, ()), ()))
    else none)
  else bif (beq v342 (31 : Int)) then (
    let row351 := ([(true, x.2.2.1.1.2.2.1, x.2.2.1.1.2.1)])
    bif (nle (x.2.2.2.1.2.2.1.length + row351.length) 5864062014805) then (
      some (A340, (x.2.1.1, ()), (x.2.2.1.1, ()), (x.2.2.2.1.1, x.2.2.2.1.2.1, (x.2.2.2.1.2.2.1 ++ row351), ()), (x.2.2.2.2.1.1, x.2.2.2.2.1.2.1, x.2.2.2.2.1.2.2.1, ()), ()))
    else none)
  else some (A340, (x.2.1.1, ()), (x.2.2.1.1, ()), (x.2.2.2.1.1, x.2.2.2.1.2.1, x.2.2.2.1.2.2.1, ()), (x.2.2.2.2.1.1, x.2.2.2.2.1.2.1, x.2.2.2.2.1.2.2.1, ()), ())
def sh36_473 : Sh := ⟨[2, 7, 10, 11, 29, 38, 417], [.val (.int .i64), .box 65 [.sc Y8], .box 59 [.sc Y2], .box 65 [.sc .bool, .own 3 (.int .i64), .own 111 Y7], .box 65 [.sc .bool, .own 3 (.int .i64), .own 111 Y7], .own 96 Y9, .val .bool], []⟩
def outs36_473 : List (Ex × Sh) := [(.normal, ⟨[7, 10, 11, 29, 38], [.box 65 [.sc Y8], .box 59 [.sc Y2], .box 65 [.sc .bool, .sc (.row (.int .i64)), .sc (.row Y7)], .box 65 [.sc .bool, .own 3 (.int .i64), .own 111 Y7], .own 96 Y9], []⟩)]
noncomputable def f36_473 (x : Int × (S6 × Unit) × (S2 × Unit) × (Bool × (List Int) × (List S4) × Unit) × (Bool × (List Int) × (List S4) × Unit) × (List S5) × Bool × Unit) : Option ((S6 × Unit) × (S2 × Unit) × (Bool × (List Int) × (List S4) × Unit) × (Bool × (List Int) × (List S4) × Unit) × (List S5) × Unit) :=
  let v359 := x.2.2.2.2.2.1
  bif x.2.2.2.2.2.2.1 then (
    let row362 := ([((wr (x.1 + (1 : Int))), x.2.2.2.1.1, x.2.2.2.1.2.1, x.2.2.2.1.2.2.1)])
    bif (nle (v359.length + row362.length) 2199023255552) then (
      some ((x.2.1.1, ()), (x.2.2.1.1, ()), (x.2.2.2.1.1, x.2.2.2.1.2.1, x.2.2.2.1.2.2.1, ()), (x.2.2.2.2.1.1, x.2.2.2.2.1.2.1, x.2.2.2.2.1.2.2.1, ()), (v359 ++ row362), ()))
    else none)
  else some ((x.2.1.1, ()), (x.2.2.1.1, ()), (x.2.2.2.1.1, x.2.2.2.1.2.1, x.2.2.2.1.2.2.1, ()), (x.2.2.2.2.1.1, x.2.2.2.2.1.2.1, x.2.2.2.2.1.2.2.1, ()), v359, ())
def sh36_528 : Sh := ⟨[10, 38, 39, 40], [.box 59 [.sc Y2], .own 96 Y9, .box 65 [.sc .bool, .own 3 (.int .i64), .own 111 Y7], .val (.int .i64)], []⟩
def outs36_528 : List (Ex × Sh) := [((.exit 20), ⟨[10, 38, 39], [.box 59 [.sc Y2], .own 96 Y9, .box 65 [.sc .bool, .own 3 (.int .i64), .own 111 Y7]], []⟩)]
noncomputable def f36_528 (x : (S2 × Unit) × (List S5) × (Bool × (List Int) × (List S4) × Unit) × Int × Unit) : Option (((S2 × Unit) × (List S5) × (Bool × (List Int) × (List S4) × Unit) × Int × Unit) ⊕ ((S2 × Unit) × (List S5) × (Bool × (List Int) × (List S4) × Unit) × Unit)) :=
  let v378 := x.2.1
  let v379 := x.2.2.2.1
  bif (blt v379 (x.2.2.1.2.1.length : Int)) then (
    bif (inR v379 (x.2.2.1.2.1.length : Int)) then (
      some (.inl ((x.1.1, ()), v378, (x.2.2.1.1, (x.2.2.1.2.1.set v379.toNat (0 : Int)), x.2.2.1.2.2.1, ()), (wr (v379 + (1 : Int))), ())))
    else none)
  else some (.inr ((x.1.1, ()), v378, (x.2.2.1.1, x.2.2.1.2.1, x.2.2.1.2.2.1, ()), ()))
def ps36 : List VS := [.val Y5, .val Y4, .val (.int .i64), .val Y8]
def rs36 : List VS := [.val (.int .i64), .own 96 Y9]
noncomputable def f36 (x : S8 × S7 × Int × S6 × Unit) : Option ((Int × (List S5) × Unit) × (Unit)) :=
  let o2 := x.2.1
  let A3 := x.2.2.1
  let r4 := x.2.2.2.1
  bif (inR A3 (o2.2.2.2.2.2.2.2.1.length : Int)) then (
    (f37 (r4, ())).bind fun r5 =>
    let v6 := (o2.2.2.2.2.2.2.2.1.getD A3.toNat ((0 : Int), (0 : Int), (0 : Int), (0 : Int), (0 : Int))).1
    (loopF f36_20 (A3, (x.1, ()), (r4, ()), ((o2.2.2.2.2.2.2.2.1.getD A3.toNat ((0 : Int), (0 : Int), (0 : Int), (0 : Int), (0 : Int))), ()), (r5.1.1.1, r5.1.1.2.1, r5.1.1.2.2.1, ()), ([] : List Int), (((tlook tbl1 v6).getD 0 0), ((tlook tbl1 v6).getD 1 0), ((tlook tbl1 v6).getD 2 0), ((tlook tbl1 v6).getD 3 0)), (0 : Int), ())).bind fun y402 => match y402 with
      | .inl z189 => (
        (f36_221 (z189.1, (z189.2.1.1, ()), (z189.2.2.1.1, ()), (z189.2.2.2.1.1, z189.2.2.2.1.2.1, z189.2.2.2.1.2.2.1, ()), z189.2.2.2.2.1, (beq z189.2.2.1.1.1 (40 : Int)), ())).bind fun z198 =>
        let v201 := (z198.2.1.1.2.2.length : Int)
        (f36_237 (z198.1, (z198.2.1.1, ()), (z198.2.2.1.1, ()), (z198.2.2.2.1.1, z198.2.2.2.1.2.1, z198.2.2.2.1.2.2.1, ()), z198.2.2.2.2.1, ((false, (0 : Int), (0 : Int)), ()), v201, (blt (0 : Int) v201), ())).bind fun z208 =>
        (f36_257 (z208.1, (z208.2.1.1, ()), (z208.2.2.1.1, ()), (z208.2.2.2.1.1, z208.2.2.2.1.2.1, z208.2.2.2.1.2.2.1, ()), z208.2.2.2.2.1, (z208.2.2.2.2.2.1.1, ()), (blt (0 : Int) (z208.2.1.1.2.2.length : Int)), z208.2.2.1.1.1, (beq z208.2.2.1.1.1 (32 : Int)), ())).bind fun y398 => match y398 with
          | .inl z229 => (
            (f36_302 (z229.1, (z229.2.1.1, ()), (z229.2.2.1.1, ()), (z229.2.2.2.1.1, z229.2.2.2.1.2.1, z229.2.2.2.1.2.2.1, ()), z229.2.2.2.2.1, ())).bind fun z244 =>
            bif z244.2.2.2.2.2.1 then some (((11 : Int), ([] : List S5), ()), ())
            else (
              (f37 ((z244.2.2.2.1.1, z244.2.2.2.1.2.1, z244.2.2.2.1.2.2.1), ())).bind fun r248 =>
              (loopF f36_316 (z244.1, (z244.2.1.1, ()), (z244.2.2.1.1, ()), (z244.2.2.2.1.1, z244.2.2.2.1.2.1, z244.2.2.2.1.2.2.1, ()), z244.2.2.2.2.1, (r248.1.1.1, r248.1.1.2.1, r248.1.1.2.2.1, ()), (((tlook tbl1 z244.2.2.1.1.1).getD 0 0), ((tlook tbl1 z244.2.2.1.1.1).getD 1 0), ((tlook tbl1 z244.2.2.1.1.1).getD 2 0), ((tlook tbl1 z244.2.2.1.1.1).getD 3 0)), (0 : Int), ())).bind fun z267 =>
              (f36_349 (z267.1, (z267.2.1.1, ()), (z267.2.2.1.1, ()), (z267.2.2.2.1.1, z267.2.2.2.1.2.1, z267.2.2.2.1.2.2.1, ()), z267.2.2.2.2.1, (z267.2.2.2.2.2.1.1, z267.2.2.2.2.2.1.2.1, z267.2.2.2.2.2.1.2.2.1, ()), (beq z267.2.2.1.1.1 (40 : Int)), ())).bind fun z276 =>
              (loopF f36_356 (z276.1, (z276.2.1.1, ()), (z276.2.2.1.1, ()), (z276.2.2.2.1.1, z276.2.2.2.1.2.1, z276.2.2.2.1.2.2.1, ()), z276.2.2.2.2.1, (z276.2.2.2.2.2.1.1, z276.2.2.2.2.2.1.2.1, z276.2.2.2.2.2.1.2.2.1, ()), z276.2.1.1.2.2, (z276.2.1.1.2.2.length : Int), (0 : Int), ())).bind fun y394 => match y394 with
                | .inl z334 => (
                  (f36_437 (z334.1, (z334.2.1.1, ()), (z334.2.2.1.1, ()), (z334.2.2.2.1.1, z334.2.2.2.1.2.1, z334.2.2.2.1.2.2.1, ()), (z334.2.2.2.2.1.1, z334.2.2.2.2.1.2.1, z334.2.2.2.2.1.2.2.1, ()), (wr ((z334.2.1.1.2.2.length : Int) - (1 : Int))), z334.2.2.1.1.1, ((beq z334.2.2.1.1.1 (32 : Int)) || (beq z334.2.2.1.1.1 (36 : Int))), ())).bind fun z353 =>
                  (f36_473 (z353.1, (z353.2.1.1, ()), (z353.2.2.1.1, ()), (z353.2.2.2.1.1, z353.2.2.2.1.2.1, z353.2.2.2.1.2.2.1, ()), (z353.2.2.2.2.1.1, z353.2.2.2.2.1.2.1, z353.2.2.2.2.1.2.2.1, ()), ([] : List S5), (((bne z353.2.2.1.1.1 (19 : Int)) && (bne z353.2.2.1.1.1 (29 : Int))) && (bne z353.2.2.1.1.1 (30 : Int))), ())).bind fun z364 =>
                  let v365 := z364.2.2.2.2.1
                  bif (beq z364.2.1.1.1 (19 : Int)) then (
                    let row367 := ([(z364.2.1.1.2.1, z364.2.2.1.1, z364.2.2.1.2.1, z364.2.2.1.2.2.1)])
                    bif (nle (v365.length + row367.length) 2199023255552) then some (((0 : Int), (v365 ++ row367), ()), ())
                    else none)
                  else bif ((beq z364.2.1.1.1 (20 : Int)) || ((beq z364.2.1.1.1 (21 : Int)) || ((beq z364.2.1.1.1 (38 : Int)) || (beq z364.2.1.1.1 (39 : Int))))) then (
                    let row371 := ([(z364.2.1.1.2.2.1, z364.2.2.1.1, z364.2.2.1.2.1, z364.2.2.1.2.2.1)])
                    bif (nle (v365.length + row371.length) 2199023255552) then some (((0 : Int), (v365 ++ row371), ()), ())
                    else none)
                  else bif (beq z364.2.1.1.1 (41 : Int)) then (
                    let row374 := ([(z364.2.1.1.2.2.1, z364.2.2.2.1.1, z364.2.2.2.1.2.1, z364.2.2.2.1.2.2.1)])
                    bif (nle (v365.length + row374.length) 2199023255552) then some (((0 : Int), (v365 ++ row374), ()), ())
                    else none)
                  else bif (beq z364.2.1.1.1 (31 : Int)) then (
                    (f37 (z364.1.1, ())).bind fun r377 =>
                    (loopF f36_528 ((z364.2.1.1, ()), v365, (r377.1.1.1, r377.1.1.2.1, r377.1.1.2.2.1, ()), z364.2.1.1.2.2.1, ())).bind fun z384 =>
                    let v385 := z384.2.1
                    let v386 := (wr (z384.1.1.2.2.1 + (1 : Int)))
                    bif (inR z384.1.1.2.2.1 (z384.2.2.1.2.1.length : Int)) then (
                      let row387 := (z384.2.2.1.2.1.set z384.1.1.2.2.1.toNat (1 : Int))
                      bif (inR v386 (row387.length : Int)) then (
                        let row389 := ([(z384.1.1.2.1, z384.2.2.1.1, (row387.set v386.toNat (1 : Int)), z384.2.2.1.2.2.1)])
                        bif (nle (v385.length + row389.length) 2199023255552) then some (((0 : Int), (v385 ++ row389), ()), ())
                        else none)
                      else none)
                    else none)
                  else some (((0 : Int), v365, ()), ()))
                | .inr z391 => (
                  some ((z391.1, z391.2.1, ()), ()))))
          | .inr z395 => (
            some ((z395.1, z395.2.1, ()), ())))
      | .inr z399 => (
        some ((z399.1, z399.2.1, ()), ())))
  else none
/-! ### loop.example/loom/impl.sameState -/
def sh38_8 : Sh := ⟨[2, 3, 9, 10], [.box 65 [.sc Y8], .box 65 [.sc Y8], .val (.int .i64), .val (.int .i64)], []⟩
def outs38_8 : List (Ex × Sh) := [((.exit 0), ⟨[2, 3], [.box 65 [.sc Y8], .box 65 [.sc Y8]], []⟩), (.ret, ⟨[4], [.val .bool], []⟩)]
noncomputable def f38_8 (x : (S6 × Unit) × (S6 × Unit) × Int × Int × Unit) : Option (((S6 × Unit) × (S6 × Unit) × Int × Int × Unit) ⊕ (((S6 × Unit) × (S6 × Unit) × Unit) ⊕ (Bool × Unit))) :=
  let v4 := x.2.2.1
  let v5 := x.2.2.2.1
  bif (blt v5 v4) then (
    bif (inR v5 (x.1.1.2.1.length : Int)) then (
      bif (inR v5 (x.2.1.1.2.1.length : Int)) then (
        bif (bne (x.1.1.2.1.getD v5.toNat (0 : Int)) (x.2.1.1.2.1.getD v5.toNat (0 : Int))) then some (.inr (.inr (false, ())))
        else some (.inl ((x.1.1, ()), (x.2.1.1, ()), v4, (wr (v5 + (1 : Int))), ())))
      else none)
    else none)
  else some (.inr (.inl ((x.1.1, ()), (x.2.1.1, ()), ())))
def sh38_40 : Sh := ⟨[2, 3, 34, 35], [.box 65 [.sc Y8], .box 65 [.sc Y8], .val (.int .i64), .val (.int .i64)], []⟩
def outs38_40 : List (Ex × Sh) := [((.exit 2), ⟨[], [], []⟩), (.ret, ⟨[4], [.val .bool], []⟩)]
noncomputable def f38_40 (x : (S6 × Unit) × (S6 × Unit) × Int × Int × Unit) : Option (((S6 × Unit) × (S6 × Unit) × Int × Int × Unit) ⊕ ((Unit) ⊕ (Bool × Unit))) :=
  let v16 := x.2.2.1
  let v17 := x.2.2.2.1
  bif (blt v17 v16) then (
    bif (inR v17 (x.1.1.2.2.length : Int)) then (
      bif (inR v17 (x.2.1.1.2.2.length : Int)) then (
        bif (!((beqB (x.1.1.2.2.getD v17.toNat (false, (0 : Int), (0 : Int))).1 (x.2.1.1.2.2.getD v17.toNat (false, (0 : Int), (0 : Int))).1) && ((beq (x.1.1.2.2.getD v17.toNat (false, (0 : Int), (0 : Int))).2.1 (x.2.1.1.2.2.getD v17.toNat (false, (0 : Int), (0 : Int))).2.1) && ((beq (x.1.1.2.2.getD v17.toNat (false, (0 : Int), (0 : Int))).2.2 (x.2.1.1.2.2.getD v17.toNat (false, (0 : Int), (0 : Int))).2.2) && true)))) then some (.inr (.inr (false, ())))
        else some (.inl ((x.1.1, ()), (x.2.1.1, ()), v16, (wr (v17 + (1 : Int))), ())))
      else none)
    else none)
  else some (.inr (.inl ()))
def ps38 : List VS := [.val Y8, .val Y8]
def rs38 : List VS := [.val .bool]
noncomputable def f38 (x : S6 × S6 × Unit) : Option ((Bool × Unit) × (Unit)) :=
  let a1 := x.1
  (loopF f38_8 ((a1, ()), (x.2.1, ()), (a1.2.1.length : Int), (0 : Int), ())).bind fun y27 => match y27 with
    | .inl z11 => (
      bif (bne (z11.1.1.2.2.length : Int) (z11.2.1.1.2.2.length : Int)) then some ((false, ()), ())
      else (
        (loopF f38_40 ((z11.1.1, ()), (z11.2.1.1, ()), (z11.1.1.2.2.length : Int), (0 : Int), ())).bind fun y24 => match y24 with
          | .inl _ => (
            some ((true, ()), ()))
          | .inr z22 => (
            some ((z22.1, ()), ()))))
    | .inr z25 => (
      some ((z25.1, ()), ()))
/-! ### loop.example/loom/impl.silent -/
def ps66 : List VS := [.val Y2, .val (.int .i64)]
def rs66 : List VS := [.own 3 (.int .i64)]
noncomputable def f66 (x : S2 × Int × Unit) : Option (((List Int) × Unit) × (Unit)) :=
  let n1 := x.1
  let at2 := x.2.1
  bif ((beq n1.1 (1 : Int)) || ((beq n1.1 (3 : Int)) || ((beq n1.1 (28 : Int)) || ((beq n1.1 (29 : Int)) || (beq n1.1 (30 : Int)))))) then some ((([] : List Int), ()), ())
  else bif (beq n1.1 (18 : Int)) then (
    bif (beq n1.2.2.1 (12 : Int)) then some ((([] : List Int), ()), ())
    else some ((([(wr (at2 + (1 : Int)))]), ()), ()))
  else bif (beq n1.1 (41 : Int)) then some ((([n1.2.2.1]), ()), ())
  else bif (beq n1.1 (19 : Int)) then some ((([n1.2.1]), ()), ())
  else bif (beq n1.1 (31 : Int)) then some ((([(wr (at2 + (1 : Int))), n1.2.1]), ()), ())
  else bif ((beq n1.1 (20 : Int)) || ((beq n1.1 (21 : Int)) || ((beq n1.1 (38 : Int)) || (beq n1.1 (39 : Int))))) then some ((([(wr (at2 + (1 : Int))), n1.2.2.1]), ()), ())
  else some ((([(wr (at2 + (1 : Int)))]), ()), ())
/-! ### loop.example/loom/impl.rings -/
def sh39_28 : Sh := ⟨[1, 2, 5, 6, 7, 11, 12], [.val (.row Y8), .box 57 [.sc Y4], .val (.int .i64), .own 4 .bool, .own 3 (.int .i64), .val (.int .i64), .val (.int .i64)], []⟩
def outs39_28 : List (Ex × Sh) := [((.exit 2), ⟨[1, 2, 11, 12], [.val (.row Y8), .box 57 [.sc Y4], .val (.int .i64), .val (.int .i64)], []⟩), (.ret, ⟨[4], [.val (.int .i64)], []⟩)]
noncomputable def f39_28 (x : (List S6) × (S7 × Unit) × Int × (List Bool) × (List Int) × Int × Int × Unit) : Option (((List S6) × (S7 × Unit) × Int × (List Bool) × (List Int) × Int × Int × Unit) ⊕ (((List S6) × (S7 × Unit) × Int × Int × Unit) ⊕ (Int × Unit))) :=
  let states14 := x.1
  let i15 := x.2.2.1
  let seen16 := x.2.2.2.1
  let todo17 := x.2.2.2.2.1
  let v18 := x.2.2.2.2.2.1
  let v19 := x.2.2.2.2.2.2.1
  bif (blt (0 : Int) (todo17.length : Int)) then (
    let v23 := (wr ((todo17.length : Int) - (1 : Int)))
    bif (inR v23 (todo17.length : Int)) then (
      let v24 := (todo17.getD v23.toNat (0 : Int))
      let v26 := (wr ((todo17.length : Int) - (1 : Int)))
      bif (inE v26 (todo17.length : Int)) then (
        let row27 := (todo17.take v26.toNat)
        bif (beq v24 i15) then some (.inr (.inr (i15, ())))
        else bif (inR v24 (seen16.length : Int)) then (
          bif (!(seen16.getD v24.toNat false)) then (
            bif (inR v24 (seen16.length : Int)) then (
              bif (inR v24 (x.2.1.1.2.2.2.2.2.2.2.1.length : Int)) then (
                (f66 ((x.2.1.1.2.2.2.2.2.2.2.1.getD v24.toNat ((0 : Int), (0 : Int), (0 : Int), (0 : Int), (0 : Int))), v24, ())).bind fun r32 =>
                bif (nle (row27.length + r32.1.1.length) 17592186044416) then (
                  some (.inl (states14, (x.2.1.1, ()), i15, (seen16.set v24.toNat true), (row27 ++ r32.1.1), v18, v19, ())))
                else none)
              else none)
            else none)
          else some (.inl (states14, (x.2.1.1, ()), i15, seen16, row27, v18, v19, ())))
        else none)
      else none)
    else none)
  else some (.inr (.inl (states14, (x.2.1.1, ()), v18, v19, ())))
def sh39_8 : Sh := ⟨[1, 2, 11, 12], [.val (.row Y8), .box 57 [.sc Y4], .val (.int .i64), .val (.int .i64)], []⟩
def outs39_8 : List (Ex × Sh) := [((.exit 0), ⟨[], [], []⟩), (.ret, ⟨[4], [.val (.int .i64)], []⟩)]
noncomputable def f39_8 (x : (List S6) × (S7 × Unit) × Int × Int × Unit) : Option (((List S6) × (S7 × Unit) × Int × Int × Unit) ⊕ ((Unit) ⊕ (Int × Unit))) :=
  let states4 := x.1
  let v5 := x.2.2.1
  let v6 := x.2.2.2.1
  bif (blt v6 v5) then (
    bif (inR v6 (states4.length : Int)) then (
      bif (!(states4.getD v6.toNat (false, ([] : List Int), ([] : List S4))).1) then (
        some (.inl (states4, (x.2.1.1, ()), v5, (wr (v6 + (1 : Int))), ())))
      else (
        let v11 := (x.2.1.1.2.2.2.2.2.2.2.1.length : Int)
        bif (inE v11 ((281474976710656 : Nat) : Int)) then (
          bif (inR v6 (x.2.1.1.2.2.2.2.2.2.2.1.length : Int)) then (
            (f66 ((x.2.1.1.2.2.2.2.2.2.2.1.getD v6.toNat ((0 : Int), (0 : Int), (0 : Int), (0 : Int), (0 : Int))), v6, ())).bind fun r13 =>
            (loopF f39_28 (states4, (x.2.1.1, ()), v6, (List.replicate v11.toNat false), r13.1.1, v5, v6, ())).bind fun y41 => match y41 with
              | .inl z34 => (
                some (.inl (z34.1, (z34.2.1.1, ()), z34.2.2.1, (wr (z34.2.2.2.1 + (1 : Int))), ())))
              | .inr z39 => (
                some (.inr (.inr (z39.1, ())))))
          else none)
        else none))
    else none)
  else some (.inr (.inl ()))
def ps39 : List VS := [.val Y4, .val (.row Y8)]
def rs39 : List VS := [.val (.int .i64)]
noncomputable def f39 (x : S7 × (List S6) × Unit) : Option ((Int × Unit) × (Unit)) :=
  let p1 := x.1
  (loopF f39_8 (x.2.1, (p1, ()), (p1.2.2.2.2.2.2.2.1.length : Int), (0 : Int), ())).bind fun y45 => match y45 with
    | .inl _ => (
      some (((-1 : Int), ()), ()))
    | .inr z43 => (
      some ((z43.1, ()), ()))
/-! ### loop.example/loom/impl.verify -/
def sh15_20 : Sh := ⟨[2, 7, 8, 9, 33, 34], [.box 31 [.sc Y5], .box 57 [.sc Y4], .own 65 Y8, .box 65 [.sc .bool, .own 3 (.int .i64), .own 111 Y7], .val (.int .i64), .val (.int .i64)], []⟩
def outs15_20 : List (Ex × Sh) := [((.exit 0), ⟨[2, 7, 8, 9], [.box 31 [.sc Y5], .box 57 [.sc Y4], .own 65 Y8, .box 65 [.sc .bool, .own 3 (.int .i64), .own 111 Y7]], []⟩)]
noncomputable def f15_20 (x : (S8 × Unit) × (S7 × Unit) × (List S6) × (Bool × (List Int) × (List S4) × Unit) × Int × Int × Unit) : Option (((S8 × Unit) × (S7 × Unit) × (List S6) × (Bool × (List Int) × (List S4) × Unit) × Int × Int × Unit) ⊕ ((S8 × Unit) × (S7 × Unit) × (List S6) × (Bool × (List Int) × (List S4) × Unit) × Unit)) :=
  let v9 := x.2.2.1
  let v10 := x.2.2.2.2.1
  let v11 := x.2.2.2.2.2.1
  bif (blt v11 v10) then (
    bif (inR v11 (x.2.2.2.1.2.1.length : Int)) then (
      some (.inl ((x.1.1, ()), (x.2.1.1, ()), v9, (x.2.2.2.1.1, (x.2.2.2.1.2.1.set v11.toNat (1 : Int)), x.2.2.2.1.2.2.1, ()), v10, (wr (v11 + (1 : Int))), ())))
    else none)
  else some (.inr ((x.1.1, ()), (x.2.1.1, ()), v9, (x.2.2.2.1.1, x.2.2.2.1.2.1, x.2.2.2.1.2.2.1, ()), ()))
def sh15_96 : Sh := ⟨[2, 7, 8, 11, 15, 89, 90, 91], [.box 31 [.sc Y5], .box 57 [.sc Y4], .own 65 Y8, .own 4 .bool, .val (.int .i64), .own 96 Y9, .val (.int .i64), .val (.int .i64)], []⟩
def outs15_96 : List (Ex × Sh) := [((.exit 4), ⟨[2, 7, 8, 11, 15], [.box 31 [.sc Y5], .box 57 [.sc Y4], .own 65 Y8, .own 4 .bool, .val (.int .i64)], []⟩), (.ret, ⟨[4, 5, 6], [.own 65 Y8, .val (.int .i64), .val (.int .i64)], []⟩)]
noncomputable def f15_96 (x : (S8 × Unit) × (S7 × Unit) × (List S6) × (List Bool) × Int × (List S5) × Int × Int × Unit) : Option (((S8 × Unit) × (S7 × Unit) × (List S6) × (List Bool) × Int × (List S5) × Int × Int × Unit) ⊕ (((S8 × Unit) × (S7 × Unit) × (List S6) × (List Bool) × Int × Unit) ⊕ ((List S6) × Int × Int × Unit))) :=
  let v35 := x.2.2.1
  let v36 := x.2.2.2.1
  let v37 := x.2.2.2.2.1
  let v38 := x.2.2.2.2.2.1
  let v39 := x.2.2.2.2.2.2.1
  let v40 := x.2.2.2.2.2.2.2.1
  bif (blt v40 v39) then (
    bif (inR v40 (v38.length : Int)) then (
      let v42 := (v38.getD v40.toNat ((0 : Int), false, ([] : List Int), ([] : List S4))).1
      bif (inR v42 (v35.length : Int)) then (
        bif (!(v35.getD v42.toNat (false, ([] : List Int), ([] : List S4))).1) then (
          let v45 := (v38.getD v40.toNat ((0 : Int), false, ([] : List Int), ([] : List S4))).1
          (f37 ((v38.getD v40.toNat ((0 : Int), false, ([] : List Int), ([] : List S4))).2, ())).bind fun r46 =>
          bif (inR v45 (v35.length : Int)) then (
            let v48 := (v38.getD v40.toNat ((0 : Int), false, ([] : List Int), ([] : List S4))).1
            bif (inR v48 (v36.length : Int)) then (
              some (.inl ((x.1.1, ()), (x.2.1.1, ()), (v35.set v45.toNat (r46.1.1.1, r46.1.1.2.1, r46.1.1.2.2.1)), (v36.set v48.toNat true), (imin v37 (v38.getD v40.toNat ((0 : Int), false, ([] : List Int), ([] : List S4))).1), v38, v39, (wr (v40 + (1 : Int))), ())))
            else none)
          else none)
        else (
          let v53 := (v38.getD v40.toNat ((0 : Int), false, ([] : List Int), ([] : List S4))).1
          bif (inR v53 (v35.length : Int)) then (
            (f38 ((v35.getD v53.toNat (false, ([] : List Int), ([] : List S4))), (v38.getD v40.toNat ((0 : Int), false, ([] : List Int), ([] : List S4))).2, ())).bind fun r54 =>
            bif (!r54.1.1) then (
              some (.inr (.inr (([] : List S6), (13 : Int), (v38.getD v40.toNat ((0 : Int), false, ([] : List Int), ([] : List S4))).1, ()))))
            else some (.inl ((x.1.1, ()), (x.2.1.1, ()), v35, v36, v37, v38, v39, (wr (v40 + (1 : Int))), ())))
          else none))
      else none)
    else none)
  else some (.inr (.inl ((x.1.1, ()), (x.2.1.1, ()), v35, v36, v37, ())))
def sh15_60 : Sh := ⟨[2, 7, 8, 11, 12], [.box 31 [.sc Y5], .box 57 [.sc Y4], .own 65 Y8, .own 4 .bool, .val (.int .i64)], []⟩
def outs15_60 : List (Ex × Sh) := [((.exit 2), ⟨[7, 8], [.box 57 [.sc Y4], .own 65 Y8], []⟩), (.ret, ⟨[4, 5, 6], [.own 65 Y8, .val (.int .i64), .val (.int .i64)], []⟩)]
noncomputable def f15_60 (x : (S8 × Unit) × (S7 × Unit) × (List S6) × (List Bool) × Int × Unit) : Option (((S8 × Unit) × (S7 × Unit) × (List S6) × (List Bool) × Int × Unit) ⊕ (((S7 × Unit) × (List S6) × Unit) ⊕ ((List S6) × Int × Int × Unit))) :=
  let v22 := x.2.2.1
  let v23 := x.2.2.2.1
  let v24 := x.2.2.2.2.1
  bif (blt v24 (v23.length : Int)) then (
    bif (inR v24 (v23.length : Int)) then (
      bif (!(v23.getD v24.toNat false)) then (
        some (.inl ((x.1.1, ()), (x.2.1.1, ()), v22, v23, (wr (v24 + (1 : Int))), ())))
      else bif (inR v24 (v23.length : Int)) then (
        bif (inR v24 (v22.length : Int)) then (
          (f36 (x.1.1, x.2.1.1, v24, (v22.getD v24.toNat (false, ([] : List Int), ([] : List S4))), ())).bind fun r31 =>
          bif (bne r31.1.1 (0 : Int)) then some (.inr (.inr (([] : List S6), r31.1.1, v24, ())))
          else (
            (loopF f15_96 ((x.1.1, ()), (x.2.1.1, ()), v22, (v23.set v24.toNat false), (wr (v24 + (1 : Int))), r31.1.2.1, (r31.1.2.1.length : Int), (0 : Int), ())).bind fun y66 => match y66 with
              | .inl z58 => (
                some (.inl ((z58.1.1, ()), (z58.2.1.1, ()), z58.2.2.1, z58.2.2.2.1, z58.2.2.2.2.1, ())))
              | .inr z62 => (
                some (.inr (.inr (z62.1, z62.2.1, z62.2.2.1, ()))))))
        else none)
      else none)
    else none)
  else some (.inr (.inl ((x.2.1.1, ()), v22, ())))
def ps15 : List VS := [.val Y5, .val (.int .i64)]
def rs15 : List VS := [.own 65 Y8, .val (.int .i64), .val (.int .i64)]
noncomputable def f15 (x : S8 × Int × Unit) : Option (((List S6) × Int × Int × Unit) × (Unit)) :=
  let t1 := x.1
  let o2 := x.2.1
  bif (inR o2 (t1.length : Int)) then (
    let v4 := ((t1.getD o2.toNat ((⟨#[]⟩ : ByteArray), (0 : Int), (0 : Int), false, (0 : Int), ([] : List S0), ([] : List S1), ([] : List S2), ([] : List S3))).2.2.2.2.2.2.2.1.length : Int)
    bif (inE v4 ((5026338869833 : Nat) : Int)) then (
      let v6 := (t1.getD o2.toNat ((⟨#[]⟩ : ByteArray), (0 : Int), (0 : Int), false, (0 : Int), ([] : List S0), ([] : List S1), ([] : List S2), ([] : List S3))).2.2.2.2.1
      bif (inE v6 ((35184372088832 : Nat) : Int)) then (
        (loopF f15_20 ((t1, ()), ((t1.getD o2.toNat ((⟨#[]⟩ : ByteArray), (0 : Int), (0 : Int), false, (0 : Int), ([] : List S0), ([] : List S1), ([] : List S2), ([] : List S3))), ()), (List.replicate v4.toNat (false, ([] : List Int), ([] : List S4))), (true, (List.replicate v6.toNat (0 : Int)), ([] : List S4), ()), (t1.getD o2.toNat ((⟨#[]⟩ : ByteArray), (0 : Int), (0 : Int), false, (0 : Int), ([] : List S0), ([] : List S1), ([] : List S2), ([] : List S3))).2.2.1, (0 : Int), ())).bind fun z15 =>
        let v16 := z15.2.2.1
        bif z15.2.1.1.2.2.2.1 then (
          bif (inR z15.2.1.1.2.2.1 (z15.2.2.2.1.2.1.length : Int)) then (
            bif (inR (0 : Int) (v16.length : Int)) then (
              let v19 := (z15.2.1.1.2.2.2.2.2.2.2.1.length : Int)
              bif (inE v19 ((281474976710656 : Nat) : Int)) then (
                let row20 := (List.replicate v19.toNat false)
                bif (inR (0 : Int) (row20.length : Int)) then (
                  (loopF f15_60 ((z15.1.1, ()), (z15.2.1.1, ()), (v16.set (0 : Int).toNat (z15.2.2.2.1.1, (z15.2.2.2.1.2.1.set z15.2.1.1.2.2.1.toNat (3 : Int)), z15.2.2.2.1.2.2.1)), (row20.set (0 : Int).toNat true), (0 : Int), ())).bind fun y75 => match y75 with
                    | .inl z67 => (
                      let v68 := z67.2.1
                      (f39 (z67.1.1, v68, ())).bind fun r69 =>
                      bif (ble (0 : Int) r69.1.1) then some ((([] : List S6), (14 : Int), r69.1.1, ()), ())
                      else some ((v68, (0 : Int), (0 : Int), ()), ()))
                    | .inr z71 => (
                      some ((z71.1, z71.2.1, z71.2.2.1, ()), ())))
                else none)
              else none)
            else none)
          else none)
        else bif (inR (0 : Int) (v16.length : Int)) then (
          let v77 := (z15.2.1.1.2.2.2.2.2.2.2.1.length : Int)
          bif (inE v77 ((281474976710656 : Nat) : Int)) then (
            let row78 := (List.replicate v77.toNat false)
            bif (inR (0 : Int) (row78.length : Int)) then (
              (loopF f15_60 ((z15.1.1, ()), (z15.2.1.1, ()), (v16.set (0 : Int).toNat (z15.2.2.2.1.1, z15.2.2.2.1.2.1, z15.2.2.2.1.2.2.1)), (row78.set (0 : Int).toNat true), (0 : Int), ())).bind fun y88 => match y88 with
                | .inl z80 => (
                  let v81 := z80.2.1
                  (f39 (z80.1.1, v81, ())).bind fun r82 =>
                  bif (ble (0 : Int) r82.1.1) then some ((([] : List S6), (14 : Int), r82.1.1, ()), ())
                  else some ((v81, (0 : Int), (0 : Int), ()), ()))
                | .inr z84 => (
                  some ((z84.1, z84.2.1, z84.2.2.1, ()), ())))
            else none)
          else none)
        else none)
      else none)
    else none)
  else none
/-! ### loop.example/loom/impl.CheckCode -/
def sh7_20 : Sh := ⟨[1, 2, 16, 17], [.box 31 [.sc Y5], .box 27 [.sc Y6], .val (.int .i64), .val (.int .i64)], []⟩
def outs7_20 : List (Ex × Sh) := [((.exit 0), ⟨[2], [.box 27 [.sc Y6]], []⟩), (.ret, ⟨[2], [.box 27 [.sc Y6]], []⟩)]
noncomputable def f7_20 (x : (S8 × Unit) × (S9 × Unit) × Int × Int × Unit) : Option (((S8 × Unit) × (S9 × Unit) × Int × Int × Unit) ⊕ (((S9 × Unit) × Unit) ⊕ ((S9 × Unit) × Unit))) :=
  let v5 := x.2.2.1
  let v6 := x.2.2.2.1
  bif (blt v6 v5) then (
    (f15 (x.1.1, v6, ())).bind fun r8 =>
    bif (bne r8.1.2.1 (0 : Int)) then some (.inr (.inr (((r8.1.2.1, v6, r8.1.2.2.1), ()), ())))
    else some (.inl ((x.1.1, ()), (x.2.1.1, ()), v5, (wr (v6 + (1 : Int))), ())))
  else some (.inr (.inl ((x.2.1.1, ()), ())))
def ps7 : List VS := [.val Y5]
def rs7 : List VS := [.val Y6]
noncomputable def f7 (x : S8 × Unit) : Option ((S9 × Unit) × (Unit)) :=
  let c1 := x.1
  (f14 (c1, ())).bind fun r2 =>
  bif (!((beq r2.1.1.1 (0 : Int)) && ((beq r2.1.1.2.1 (0 : Int)) && ((beq r2.1.1.2.2 (0 : Int)) && true)))) then some ((r2.1.1, ()), ())
  else (
    (loopF f7_20 ((c1, ()), (((0 : Int), (0 : Int), (0 : Int)), ()), (c1.length : Int), (0 : Int), ())).bind fun y13 => match y13 with
      | .inl _ => (
        some ((((0 : Int), (0 : Int), (0 : Int)), ()), ()))
      | .inr z12 => (
        some ((z12.1.1, ()), ())))
/-! ### loop.example/loom/laws.eqFault -/
def ps8 : List VS := [.val Y6, .val Y6]
def rs8 : List VS := [.val .bool]
noncomputable def f8 (x : S9 × S9 × Unit) : Option ((Bool × Unit) × (Unit)) :=
  let a1 := x.1
  let b2 := x.2.1
  bif (bne a1.1 b2.1) then some ((false, ()), ())
  else bif (bne a1.2.1 b2.2.1) then some ((false, ()), ())
  else bif (bne a1.2.2 b2.2.2) then some ((false, ()), ())
  else some ((true, ()), ())
/-! ### loop.example/loom/laws.eqUp -/
def ps79 : List VS := [.val Y0, .val Y0]
def rs79 : List VS := [.val .bool]
noncomputable def f79 (x : S0 × S0 × Unit) : Option ((Bool × Unit) × (Unit)) :=
  let a1 := x.1
  let b2 := x.2.1
  bif (!(beqB a1.1 b2.1)) then some ((false, ()), ())
  else bif (bne a1.2 b2.2) then some ((false, ()), ())
  else some ((true, ()), ())
/-! ### loop.example/loom/laws.eqUpS -/
def sh67_16 : Sh := ⟨[0, 1, 5], [.val (.row Y0), .val (.row Y0), .val (.int .i64)], []⟩
def outs67_16 : List (Ex × Sh) := [((.exit 0), ⟨[], [], []⟩), (.ret, ⟨[4], [.val .bool], []⟩)]
noncomputable def f67_16 (x : (List S0) × (List S0) × Int × Unit) : Option (((List S0) × (List S0) × Int × Unit) ⊕ ((Unit) ⊕ (Bool × Unit))) :=
  let a6 := x.1
  let b7 := x.2.1
  let i8 := x.2.2.1
  bif (blt i8 (a6.length : Int)) then (
    bif (inR i8 (a6.length : Int)) then (
      bif (inR i8 (b7.length : Int)) then (
        (f79 ((a6.getD i8.toNat (false, (0 : Int))), (b7.getD i8.toNat (false, (0 : Int))), ())).bind fun r11 =>
        bif (!r11.1.1) then some (.inr (.inr (false, ())))
        else some (.inl (a6, b7, (wr (i8 + (1 : Int))), ())))
      else none)
    else none)
  else some (.inr (.inl ()))
def ps67 : List VS := [.val (.row Y0), .val (.row Y0)]
def rs67 : List VS := [.val .bool]
noncomputable def f67 (x : (List S0) × (List S0) × Unit) : Option ((Bool × Unit) × (Unit)) :=
  let a1 := x.1
  let b2 := x.2.1
  bif (bne (a1.length : Int) (b2.length : Int)) then some ((false, ()), ())
  else (
    (loopF f67_16 (a1, b2, (0 : Int), ())).bind fun y17 => match y17 with
      | .inl _ => (
        some ((true, ()), ()))
      | .inr z15 => (
        some ((z15.1, ()), ())))
/-! ### loop.example/loom/laws.sameFloat -/
def ps84 : List VS := [.val .flt, .val .flt]
def rs84 : List VS := [.val .bool]
noncomputable def f84 (x : Nat × Nat × Unit) : Option ((Bool × Unit) × (Unit)) :=
  let a1 := x.1
  let b2 := x.2.1
  bif ((fOrd a1 a1 != some .eq) || (fOrd b2 b2 != some .eq)) then (
    some ((((fOrd a1 a1 != some .eq) && (fOrd b2 b2 != some .eq)), ()), ()))
  else bif ((fOrd a1 (0 : Nat) == some .eq) && (fOrd b2 (0 : Nat) == some .eq)) then (
    (FloatKind.f64.format.div (4607182418800017408 : Nat) a1).bind fun v9 =>
    (FloatKind.f64.format.div (4607182418800017408 : Nat) b2).bind fun v11 =>
    some (((beqB (fOrd v9 (0 : Nat) == some .gt) (fOrd v11 (0 : Nat) == some .gt)), ()), ()))
  else some (((fOrd a1 b2 == some .eq), ()), ())
/-! ### loop.example/loom/laws.eqValue -/
def ps80 : List VS := [.val Y1, .val Y1]
def rs80 : List VS := [.val .bool]
noncomputable def f80 (x : S1 × S1 × Unit) : Option ((Bool × Unit) × (Unit)) :=
  let a1 := x.1
  let b2 := x.2.1
  bif (bne a1.1 b2.1) then some ((false, ()), ())
  else bif (bne a1.2.1 b2.2.1) then some ((false, ()), ())
  else (
    (f84 (a1.2.2.1, b2.2.2.1, ())).bind fun r5 =>
    bif (!r5.1.1) then some ((false, ()), ())
    else bif (!(beqS a1.2.2.2.1 b2.2.2.2.1)) then some ((false, ()), ())
    else bif (bne a1.2.2.2.2 b2.2.2.2.2) then some ((false, ()), ())
    else some ((true, ()), ()))
/-! ### loop.example/loom/laws.eqValueS -/
def sh68_16 : Sh := ⟨[0, 1, 5], [.val (.row Y1), .val (.row Y1), .val (.int .i64)], []⟩
def outs68_16 : List (Ex × Sh) := [((.exit 0), ⟨[], [], []⟩), (.ret, ⟨[4], [.val .bool], []⟩)]
noncomputable def f68_16 (x : (List S1) × (List S1) × Int × Unit) : Option (((List S1) × (List S1) × Int × Unit) ⊕ ((Unit) ⊕ (Bool × Unit))) :=
  let a6 := x.1
  let b7 := x.2.1
  let i8 := x.2.2.1
  bif (blt i8 (a6.length : Int)) then (
    bif (inR i8 (a6.length : Int)) then (
      bif (inR i8 (b7.length : Int)) then (
        (f80 ((a6.getD i8.toNat ((0 : Int), (0 : Int), (0 : Nat), (⟨#[]⟩ : ByteArray), (0 : Int))), (b7.getD i8.toNat ((0 : Int), (0 : Int), (0 : Nat), (⟨#[]⟩ : ByteArray), (0 : Int))), ())).bind fun r11 =>
        bif (!r11.1.1) then some (.inr (.inr (false, ())))
        else some (.inl (a6, b7, (wr (i8 + (1 : Int))), ())))
      else none)
    else none)
  else some (.inr (.inl ()))
def ps68 : List VS := [.val (.row Y1), .val (.row Y1)]
def rs68 : List VS := [.val .bool]
noncomputable def f68 (x : (List S1) × (List S1) × Unit) : Option ((Bool × Unit) × (Unit)) :=
  let a1 := x.1
  let b2 := x.2.1
  bif (bne (a1.length : Int) (b2.length : Int)) then some ((false, ()), ())
  else (
    (loopF f68_16 (a1, b2, (0 : Int), ())).bind fun y17 => match y17 with
      | .inl _ => (
        some ((true, ()), ()))
      | .inr z15 => (
        some ((z15.1, ()), ())))
/-! ### loop.example/loom/laws.eqIns -/
def ps81 : List VS := [.val Y2, .val Y2]
def rs81 : List VS := [.val .bool]
noncomputable def f81 (x : S2 × S2 × Unit) : Option ((Bool × Unit) × (Unit)) :=
  let a1 := x.1
  let b2 := x.2.1
  bif (bne a1.1 b2.1) then some ((false, ()), ())
  else bif (bne a1.2.1 b2.2.1) then some ((false, ()), ())
  else bif (bne a1.2.2.1 b2.2.2.1) then some ((false, ()), ())
  else bif (bne a1.2.2.2.1 b2.2.2.2.1) then some ((false, ()), ())
  else bif (bne a1.2.2.2.2 b2.2.2.2.2) then some ((false, ()), ())
  else some ((true, ()), ())
/-! ### loop.example/loom/laws.eqInsS -/
def sh69_16 : Sh := ⟨[0, 1, 5], [.val (.row Y2), .val (.row Y2), .val (.int .i64)], []⟩
def outs69_16 : List (Ex × Sh) := [((.exit 0), ⟨[], [], []⟩), (.ret, ⟨[4], [.val .bool], []⟩)]
noncomputable def f69_16 (x : (List S2) × (List S2) × Int × Unit) : Option (((List S2) × (List S2) × Int × Unit) ⊕ ((Unit) ⊕ (Bool × Unit))) :=
  let a6 := x.1
  let b7 := x.2.1
  let i8 := x.2.2.1
  bif (blt i8 (a6.length : Int)) then (
    bif (inR i8 (a6.length : Int)) then (
      bif (inR i8 (b7.length : Int)) then (
        (f81 ((a6.getD i8.toNat ((0 : Int), (0 : Int), (0 : Int), (0 : Int), (0 : Int))), (b7.getD i8.toNat ((0 : Int), (0 : Int), (0 : Int), (0 : Int), (0 : Int))), ())).bind fun r11 =>
        bif (!r11.1.1) then some (.inr (.inr (false, ())))
        else some (.inl (a6, b7, (wr (i8 + (1 : Int))), ())))
      else none)
    else none)
  else some (.inr (.inl ()))
def ps69 : List VS := [.val (.row Y2), .val (.row Y2)]
def rs69 : List VS := [.val .bool]
noncomputable def f69 (x : (List S2) × (List S2) × Unit) : Option ((Bool × Unit) × (Unit)) :=
  let a1 := x.1
  let b2 := x.2.1
  bif (bne (a1.length : Int) (b2.length : Int)) then some ((false, ()), ())
  else (
    (loopF f69_16 (a1, b2, (0 : Int), ())).bind fun y17 => match y17 with
      | .inl _ => (
        some ((true, ()), ()))
      | .inr z15 => (
        some ((z15.1, ()), ())))
/-! ### loop.example/loom/laws.eqNamed -/
def ps82 : List VS := [.val Y3, .val Y3]
def rs82 : List VS := [.val .bool]
noncomputable def f82 (x : S3 × S3 × Unit) : Option ((Bool × Unit) × (Unit)) :=
  let a1 := x.1
  let b2 := x.2.1
  bif (!(beqS a1.1 b2.1)) then some ((false, ()), ())
  else bif (bne a1.2.1 b2.2.1) then some ((false, ()), ())
  else bif (bne a1.2.2.1 b2.2.2.1) then some ((false, ()), ())
  else bif (bne a1.2.2.2 b2.2.2.2) then some ((false, ()), ())
  else some ((true, ()), ())
/-! ### loop.example/loom/laws.eqNamedS -/
def sh70_16 : Sh := ⟨[0, 1, 5], [.val (.row Y3), .val (.row Y3), .val (.int .i64)], []⟩
def outs70_16 : List (Ex × Sh) := [((.exit 0), ⟨[], [], []⟩), (.ret, ⟨[4], [.val .bool], []⟩)]
noncomputable def f70_16 (x : (List S3) × (List S3) × Int × Unit) : Option (((List S3) × (List S3) × Int × Unit) ⊕ ((Unit) ⊕ (Bool × Unit))) :=
  let a6 := x.1
  let b7 := x.2.1
  let i8 := x.2.2.1
  bif (blt i8 (a6.length : Int)) then (
    bif (inR i8 (a6.length : Int)) then (
      bif (inR i8 (b7.length : Int)) then (
        (f82 ((a6.getD i8.toNat ((⟨#[]⟩ : ByteArray), (0 : Int), (0 : Int), (0 : Int))), (b7.getD i8.toNat ((⟨#[]⟩ : ByteArray), (0 : Int), (0 : Int), (0 : Int))), ())).bind fun r11 =>
        bif (!r11.1.1) then some (.inr (.inr (false, ())))
        else some (.inl (a6, b7, (wr (i8 + (1 : Int))), ())))
      else none)
    else none)
  else some (.inr (.inl ()))
def ps70 : List VS := [.val (.row Y3), .val (.row Y3)]
def rs70 : List VS := [.val .bool]
noncomputable def f70 (x : (List S3) × (List S3) × Unit) : Option ((Bool × Unit) × (Unit)) :=
  let a1 := x.1
  let b2 := x.2.1
  bif (bne (a1.length : Int) (b2.length : Int)) then some ((false, ()), ())
  else (
    (loopF f70_16 (a1, b2, (0 : Int), ())).bind fun y17 => match y17 with
      | .inl _ => (
        some ((true, ()), ()))
      | .inr z15 => (
        some ((z15.1, ()), ())))
/-! ### loop.example/loom/laws.eqProto -/
def ps40 : List VS := [.val Y4, .val Y4]
def rs40 : List VS := [.val .bool]
noncomputable def f40 (x : S7 × S7 × Unit) : Option ((Bool × Unit) × (Unit)) :=
  let a1 := x.1
  let b2 := x.2.1
  bif (!(beqS a1.1 b2.1)) then some ((false, ()), ())
  else bif (bne a1.2.1 b2.2.1) then some ((false, ()), ())
  else bif (bne a1.2.2.1 b2.2.2.1) then some ((false, ()), ())
  else bif (!(beqB a1.2.2.2.1 b2.2.2.2.1)) then some ((false, ()), ())
  else bif (bne a1.2.2.2.2.1 b2.2.2.2.2.1) then some ((false, ()), ())
  else (
    (f67 (a1.2.2.2.2.2.1, b2.2.2.2.2.2.1, ())).bind fun r8 =>
    bif (!r8.1.1) then some ((false, ()), ())
    else (
      (f68 (a1.2.2.2.2.2.2.1, b2.2.2.2.2.2.2.1, ())).bind fun r10 =>
      bif (!r10.1.1) then some ((false, ()), ())
      else (
        (f69 (a1.2.2.2.2.2.2.2.1, b2.2.2.2.2.2.2.2.1, ())).bind fun r12 =>
        bif (!r12.1.1) then some ((false, ()), ())
        else (
          (f70 (a1.2.2.2.2.2.2.2.2, b2.2.2.2.2.2.2.2.2, ())).bind fun r14 =>
          bif (!r14.1.1) then some ((false, ()), ())
          else some ((true, ()), ())))))
/-! ### loop.example/loom/laws.eqProtoS -/
def sh16_16 : Sh := ⟨[0, 1, 5], [.val (.row Y4), .val (.row Y4), .val (.int .i64)], []⟩
def outs16_16 : List (Ex × Sh) := [((.exit 0), ⟨[], [], []⟩), (.ret, ⟨[4], [.val .bool], []⟩)]
noncomputable def f16_16 (x : (List S7) × (List S7) × Int × Unit) : Option (((List S7) × (List S7) × Int × Unit) ⊕ ((Unit) ⊕ (Bool × Unit))) :=
  let a6 := x.1
  let b7 := x.2.1
  let i8 := x.2.2.1
  bif (blt i8 (a6.length : Int)) then (
    bif (inR i8 (a6.length : Int)) then (
      bif (inR i8 (b7.length : Int)) then (
        (f40 ((a6.getD i8.toNat ((⟨#[]⟩ : ByteArray), (0 : Int), (0 : Int), false, (0 : Int), ([] : List S0), ([] : List S1), ([] : List S2), ([] : List S3))), (b7.getD i8.toNat ((⟨#[]⟩ : ByteArray), (0 : Int), (0 : Int), false, (0 : Int), ([] : List S0), ([] : List S1), ([] : List S2), ([] : List S3))), ())).bind fun r11 =>
        bif (!r11.1.1) then some (.inr (.inr (false, ())))
        else some (.inl (a6, b7, (wr (i8 + (1 : Int))), ())))
      else none)
    else none)
  else some (.inr (.inl ()))
def ps16 : List VS := [.val (.row Y4), .val (.row Y4)]
def rs16 : List VS := [.val .bool]
noncomputable def f16 (x : (List S7) × (List S7) × Unit) : Option ((Bool × Unit) × (Unit)) :=
  let a1 := x.1
  let b2 := x.2.1
  bif (bne (a1.length : Int) (b2.length : Int)) then some ((false, ()), ())
  else (
    (loopF f16_16 (a1, b2, (0 : Int), ())).bind fun y17 => match y17 with
      | .inl _ => (
        some ((true, ()), ()))
      | .inr z15 => (
        some ((z15.1, ()), ())))
/-! ### loop.example/loom/laws.eqCode -/
def ps9 : List VS := [.val Y5, .val Y5]
def rs9 : List VS := [.val .bool]
noncomputable def f9 (x : S8 × S8 × Unit) : Option ((Bool × Unit) × (Unit)) :=
  (f16 (x.1, x.2.1, ())).bind fun r3 =>
  bif (!r3.1.1) then some ((false, ()), ())
  else some ((true, ()), ())
/-! ### loop.example/loom/laws.FnExactCheckCode -/
def ps3 : List VS := [.val Y5]
def rs3 : List VS := [.val .bool]
noncomputable def f3 (x : S8 × Unit) : Option ((Bool × Unit) × (Unit)) :=
  let aC1 := x.1
  (f4 (aC1, (1048576 : Int), ())).bind fun r2 =>
  bif (blt r2.1.1 (0 : Int)) then some ((true, ()), ())
  else (
    (f6 (aC1, ())).bind fun r4 =>
    (f5 (r4.1.1.1, ())).bind fun r5 =>
    (f6 (aC1, ())).bind fun r6 =>
    (f7 (r6.1.1.1, ())).bind fun r7 =>
    (f8 (r7.1.1, r5.1.1, ())).bind fun r8 =>
    bif (!r8.1.1) then some ((false, ()), ())
    else (
      (f6 (aC1, ())).bind fun r10 =>
      (f9 (r6.1.1.1, r10.1.1.1, ())).bind fun r11 =>
      bif (!r11.1.1) then some ((false, ()), ())
      else some ((true, ()), ())))
end Go.Ev.L3
