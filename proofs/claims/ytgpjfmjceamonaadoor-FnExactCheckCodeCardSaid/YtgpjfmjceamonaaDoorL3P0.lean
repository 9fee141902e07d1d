import Derived.Test.YtgpjfmjceamonaaDoorL3E
namespace Go.Ev.L3
open Go.Proofs
noncomputable def code64 : Code := Tryd.f64.body.getD .skip
def H64 : Nat → Option FH := fun _ => none
theorem hH64 : ∀ g h, H64 g = some h → Con Tryd.prog env g h := fun g h hh => by cases hh
noncomputable def c64_8 : Code := inner (at' code64 8)
noncomputable def p64_8 : Pc := ⟨8, sh64_8, outs64_8, loopF f64_8⟩
theorem occ64_8 : occ code64 8 = [.loop c64_8] := by kernel_rfl
theorem ok64_8 : PcOk Tryd.prog env 2 22 p64_8 (.loop c64_8) :=
  loop_ok (T := []) (H := H64) envOk hH64 (ok_nil) (by kernel_rfl) (fun x => by kernel_rfl)
theorem con64 : Con Tryd.prog env 64 ⟨ps64, rs64, f64⟩ :=
  con_of (T := [p64_8]) (H := H64) (n := 22) (c := code64) envOk hH64 Tryd.func64 (by kernel_rfl) (by kernel_rfl) (by kernel_rfl) (by kernel_rfl)
    (ok_of (ok_one occ64_8 ok64_8 ok_end)) (by kernel_rfl) (fun x => by kernel_rfl)
noncomputable def code41 : Code := Tryd.f41.body.getD .skip
def H41 : Nat → Option FH := fun _ => none
theorem hH41 : ∀ g h, H41 g = some h → Con Tryd.prog env g h := fun g h hh => by cases hh
theorem con41 : Con Tryd.prog env 41 ⟨ps41, rs41, f41⟩ :=
  con_of (T := []) (H := H41) (n := 12) (c := code41) envOk hH41 Tryd.func41 (by kernel_rfl) (by kernel_rfl) (by kernel_rfl) (by kernel_rfl)
    (ok_nil) (by kernel_rfl) (fun x => by kernel_rfl)
noncomputable def code71 : Code := Tryd.f71.body.getD .skip
def H71 : Nat → Option FH := fun _ => none
theorem hH71 : ∀ g h, H71 g = some h → Con Tryd.prog env g h := fun g h hh => by cases hh
theorem con71 : Con Tryd.prog env 71 ⟨ps71, rs71, f71⟩ :=
  con_of (T := []) (H := H71) (n := 13) (c := code71) envOk hH71 Tryd.func71 (by kernel_rfl) (by kernel_rfl) (by kernel_rfl) (by kernel_rfl)
    (ok_nil) (by kernel_rfl) (fun x => by kernel_rfl)
noncomputable def code42 : Code := Tryd.f42.body.getD .skip
noncomputable def H42 : Nat → Option FH := fun g => bif Nat.beq g 71 then some ⟨ps71, rs71, f71⟩ else none
theorem hH42 : ∀ g h, H42 g = some h → Con Tryd.prog env g h := hH_cons con71 hH_nil
noncomputable def c42_20 : Code := inner (at' code42 20)
noncomputable def p42_20 : Pc := ⟨20, sh42_20, outs42_20, loopF f42_20⟩
theorem occ42_20 : occ code42 20 = [.loop c42_20] := by kernel_rfl
theorem ok42_20 : PcOk Tryd.prog env 0 27 p42_20 (.loop c42_20) :=
  loop_ok (T := []) (H := H42) envOk hH42 (ok_nil) (by kernel_rfl) (fun x => by kernel_rfl)
theorem con42 : Con Tryd.prog env 42 ⟨ps42, rs42, f42⟩ :=
  con_of (T := [p42_20]) (H := H42) (n := 27) (c := code42) envOk hH42 Tryd.func42 (by kernel_rfl) (by kernel_rfl) (by kernel_rfl) (by kernel_rfl)
    (ok_of (ok_one occ42_20 ok42_20 ok_end)) (by kernel_rfl) (fun x => by kernel_rfl)
noncomputable def code43 : Code := Tryd.f43.body.getD .skip
def H43 : Nat → Option FH := fun _ => none
theorem hH43 : ∀ g h, H43 g = some h → Con Tryd.prog env g h := fun g h hh => by cases hh
theorem con43 : Con Tryd.prog env 43 ⟨ps43, rs43, f43⟩ :=
  con_of (T := []) (H := H43) (n := 12) (c := code43) envOk hH43 Tryd.func43 (by kernel_rfl) (by kernel_rfl) (by kernel_rfl) (by kernel_rfl)
    (ok_nil) (by kernel_rfl) (fun x => by kernel_rfl)
noncomputable def code72 : Code := Tryd.f72.body.getD .skip
def H72 : Nat → Option FH := fun _ => none
theorem hH72 : ∀ g h, H72 g = some h → Con Tryd.prog env g h := fun g h hh => by cases hh
theorem con72 : Con Tryd.prog env 72 ⟨ps72, rs72, f72⟩ :=
  con_of (T := []) (H := H72) (n := 13) (c := code72) envOk hH72 Tryd.func72 (by kernel_rfl) (by kernel_rfl) (by kernel_rfl) (by kernel_rfl)
    (ok_nil) (by kernel_rfl) (fun x => by kernel_rfl)
noncomputable def code44 : Code := Tryd.f44.body.getD .skip
noncomputable def H44 : Nat → Option FH := fun g => bif Nat.beq g 72 then some ⟨ps72, rs72, f72⟩ else none
theorem hH44 : ∀ g h, H44 g = some h → Con Tryd.prog env g h := hH_cons con72 hH_nil
noncomputable def c44_20 : Code := inner (at' code44 20)
noncomputable def p44_20 : Pc := ⟨20, sh44_20, outs44_20, loopF f44_20⟩
theorem occ44_20 : occ code44 20 = [.loop c44_20] := by kernel_rfl
theorem ok44_20 : PcOk Tryd.prog env 0 27 p44_20 (.loop c44_20) :=
  loop_ok (T := []) (H := H44) envOk hH44 (ok_nil) (by kernel_rfl) (fun x => by kernel_rfl)
theorem con44 : Con Tryd.prog env 44 ⟨ps44, rs44, f44⟩ :=
  con_of (T := [p44_20]) (H := H44) (n := 27) (c := code44) envOk hH44 Tryd.func44 (by kernel_rfl) (by kernel_rfl) (by kernel_rfl) (by kernel_rfl)
    (ok_of (ok_one occ44_20 ok44_20 ok_end)) (by kernel_rfl) (fun x => by kernel_rfl)
noncomputable def code17 : Code := Tryd.f17.body.getD .skip
noncomputable def H17 : Nat → Option FH := fun g => bif Nat.beq g 41 then some ⟨ps41, rs41, f41⟩ else bif Nat.beq g 42 then some ⟨ps42, rs42, f42⟩ else bif Nat.beq g 43 then some ⟨ps43, rs43, f43⟩ else bif Nat.beq g 44 then some ⟨ps44, rs44, f44⟩ else none
theorem hH17 : ∀ g h, H17 g = some h → Con Tryd.prog env g h := hH_cons con41 (hH_cons con42 (hH_cons con43 (hH_cons con44 hH_nil)))
theorem con17 : Con Tryd.prog env 17 ⟨ps17, rs17, f17⟩ :=
  con_of (T := []) (H := H17) (n := 37) (c := code17) envOk hH17 Tryd.func17 (by kernel_rfl) (by kernel_rfl) (by kernel_rfl) (by kernel_rfl)
    (ok_nil) (by kernel_rfl) (fun x => by kernel_rfl)
noncomputable def code10 : Code := Tryd.f10.body.getD .skip
noncomputable def H10 : Nat → Option FH := fun g => bif Nat.beq g 17 then some ⟨ps17, rs17, f17⟩ else none
theorem hH10 : ∀ g h, H10 g = some h → Con Tryd.prog env g h := hH_cons con17 hH_nil
noncomputable def c10_20 : Code := inner (at' code10 20)
noncomputable def p10_20 : Pc := ⟨20, sh10_20, outs10_20, loopF f10_20⟩
theorem occ10_20 : occ code10 20 = [.loop c10_20] := by kernel_rfl
theorem ok10_20 : PcOk Tryd.prog env 0 27 p10_20 (.loop c10_20) :=
  loop_ok (T := []) (H := H10) envOk hH10 (ok_nil) (by kernel_rfl) (fun x => by kernel_rfl)
theorem con10 : Con Tryd.prog env 10 ⟨ps10, rs10, f10⟩ :=
  con_of (T := [p10_20]) (H := H10) (n := 27) (c := code10) envOk hH10 Tryd.func10 (by kernel_rfl) (by kernel_rfl) (by kernel_rfl) (by kernel_rfl)
    (ok_of (ok_one occ10_20 ok10_20 ok_end)) (by kernel_rfl) (fun x => by kernel_rfl)
noncomputable def code4 : Code := Tryd.f4.body.getD .skip
noncomputable def H4 : Nat → Option FH := fun g => bif Nat.beq g 10 then some ⟨ps10, rs10, f10⟩ else none
theorem hH4 : ∀ g h, H4 g = some h → Con Tryd.prog env g h := hH_cons con10 hH_nil
theorem con4 : Con Tryd.prog env 4 ⟨ps4, rs4, f4⟩ :=
  con_of (T := []) (H := H4) (n := 12) (c := code4) envOk hH4 Tryd.func4 (by kernel_rfl) (by kernel_rfl) (by kernel_rfl) (by kernel_rfl)
    (ok_nil) (by kernel_rfl) (fun x => by kernel_rfl)
noncomputable def code20 : Code := Tryd.f20.body.getD .skip
def H20 : Nat → Option FH := fun _ => none
theorem hH20 : ∀ g h, H20 g = some h → Con Tryd.prog env g h := fun g h hh => by cases hh
theorem con20 : Con Tryd.prog env 20 ⟨ps20, rs20, f20⟩ :=
  con_of (T := []) (H := H20) (n := 11) (c := code20) envOk hH20 Tryd.func20 (by kernel_rfl) (by kernel_rfl) (by kernel_rfl) (by kernel_rfl)
    (ok_nil) (by kernel_rfl) (fun x => by kernel_rfl)
noncomputable def code49 : Code := Tryd.f49.body.getD .skip
def H49 : Nat → Option FH := fun _ => none
theorem hH49 : ∀ g h, H49 g = some h → Con Tryd.prog env g h := fun g h hh => by cases hh
theorem con49 : Con Tryd.prog env 49 ⟨ps49, rs49, f49⟩ :=
  con_of (T := []) (H := H49) (n := 15) (c := code49) envOk hH49 Tryd.func49 (by kernel_rfl) (by kernel_rfl) (by kernel_rfl) (by kernel_rfl)
    (ok_nil) (by kernel_rfl) (fun x => by kernel_rfl)
noncomputable def code45 : Code := Tryd.f45.body.getD .skip
noncomputable def H45 : Nat → Option FH := fun g => bif Nat.beq g 49 then some ⟨ps49, rs49, f49⟩ else none
theorem hH45 : ∀ g h, H45 g = some h → Con Tryd.prog env g h := hH_cons con49 hH_nil
theorem con45 : Con Tryd.prog env 45 ⟨ps45, rs45, f45⟩ :=
  con_of (T := []) (H := H45) (n := 67) (c := code45) envOk hH45 Tryd.func45 (by kernel_rfl) (by kernel_rfl) (by kernel_rfl) (by kernel_rfl)
    (ok_nil) (by kernel_rfl) (fun x => by kernel_rfl)
noncomputable def code83 : Code := Tryd.f83.body.getD .skip
def H83 : Nat → Option FH := fun _ => none
theorem hH83 : ∀ g h, H83 g = some h → Con Tryd.prog env g h := fun g h hh => by cases hh
theorem con83 : Con Tryd.prog env 83 ⟨ps83, rs83, f83⟩ :=
  con_of (T := []) (H := H83) (n := 41) (c := code83) envOk hH83 Tryd.func83 (by kernel_rfl) (by kernel_rfl) (by kernel_rfl) (by kernel_rfl)
    (ok_nil) (by kernel_rfl) (fun x => by kernel_rfl)
noncomputable def code73 : Code := Tryd.f73.body.getD .skip
noncomputable def H73 : Nat → Option FH := fun g => bif Nat.beq g 83 then some ⟨ps83, rs83, f83⟩ else none
theorem hH73 : ∀ g h, H73 g = some h → Con Tryd.prog env g h := hH_cons con83 hH_nil
theorem con73 : Con Tryd.prog env 73 ⟨ps73, rs73, f73⟩ :=
  con_of (T := []) (H := H73) (n := 66) (c := code73) envOk hH73 Tryd.func73 (by kernel_rfl) (by kernel_rfl) (by kernel_rfl) (by kernel_rfl)
    (ok_nil) (by kernel_rfl) (fun x => by kernel_rfl)
noncomputable def code46 : Code := Tryd.f46.body.getD .skip
noncomputable def H46 : Nat → Option FH := fun g => bif Nat.beq g 73 then some ⟨ps73, rs73, f73⟩ else none
theorem hH46 : ∀ g h, H46 g = some h → Con Tryd.prog env g h := hH_cons con73 hH_nil
theorem con46 : Con Tryd.prog env 46 ⟨ps46, rs46, f46⟩ :=
  con_of (T := []) (H := H46) (n := 38) (c := code46) envOk hH46 Tryd.func46 (by kernel_rfl) (by kernel_rfl) (by kernel_rfl) (by kernel_rfl)
    (ok_nil) (by kernel_rfl) (fun x => by kernel_rfl)
noncomputable def code47 : Code := Tryd.f47.body.getD .skip
noncomputable def H47 : Nat → Option FH := fun g => bif Nat.beq g 49 then some ⟨ps49, rs49, f49⟩ else none
theorem hH47 : ∀ g h, H47 g = some h → Con Tryd.prog env g h := hH_cons con49 hH_nil
theorem con47 : Con Tryd.prog env 47 ⟨ps47, rs47, f47⟩ :=
  con_of (T := []) (H := H47) (n := 47) (c := code47) envOk hH47 Tryd.func47 (by kernel_rfl) (by kernel_rfl) (by kernel_rfl) (by kernel_rfl)
    (ok_nil) (by kernel_rfl) (fun x => by kernel_rfl)
noncomputable def code51 : Code := Tryd.f51.body.getD .skip
def H51 : Nat → Option FH := fun _ => none
theorem hH51 : ∀ g h, H51 g = some h → Con Tryd.prog env g h := fun g h hh => by cases hh
theorem con51 : Con Tryd.prog env 51 ⟨ps51, rs51, f51⟩ :=
  con_of (T := []) (H := H51) (n := 116) (c := code51) envOk hH51 Tryd.func51 (by kernel_rfl) (by kernel_rfl) (by kernel_rfl) (by kernel_rfl)
    (ok_nil) (by kernel_rfl) (fun x => by kernel_rfl)
noncomputable def code52 : Code := Tryd.f52.body.getD .skip
def H52 : Nat → Option FH := fun _ => none
theorem hH52 : ∀ g h, H52 g = some h → Con Tryd.prog env g h := fun g h hh => by cases hh
theorem con52 : Con Tryd.prog env 52 ⟨ps52, rs52, f52⟩ :=
  con_of (T := []) (H := H52) (n := 12) (c := code52) envOk hH52 Tryd.func52 (by kernel_rfl) (by kernel_rfl) (by kernel_rfl) (by kernel_rfl)
    (ok_nil) (by kernel_rfl) (fun x => by kernel_rfl)
noncomputable def code74 : Code := Tryd.f74.body.getD .skip
noncomputable def H74 : Nat → Option FH := fun g => bif Nat.beq g 49 then some ⟨ps49, rs49, f49⟩ else none
theorem hH74 : ∀ g h, H74 g = some h → Con Tryd.prog env g h := hH_cons con49 hH_nil
theorem con74 : Con Tryd.prog env 74 ⟨ps74, rs74, f74⟩ :=
  con_of (T := []) (H := H74) (n := 119) (c := code74) envOk hH74 Tryd.func74 (by kernel_rfl) (by kernel_rfl) (by kernel_rfl) (by kernel_rfl)
    (ok_nil) (by kernel_rfl) (fun x => by kernel_rfl)
noncomputable def code48 : Code := Tryd.f48.body.getD .skip
noncomputable def H48 : Nat → Option FH := fun g => bif Nat.beq g 51 then some ⟨ps51, rs51, f51⟩ else bif Nat.beq g 52 then some ⟨ps52, rs52, f52⟩ else bif Nat.beq g 74 then some ⟨ps74, rs74, f74⟩ else none
theorem hH48 : ∀ g h, H48 g = some h → Con Tryd.prog env g h := hH_cons con51 (hH_cons con52 (hH_cons con74 hH_nil))
noncomputable def c48_24 : Code := inner (at' code48 24)
noncomputable def p48_24 : Pc := ⟨24, sh48_24, outs48_24, loopF f48_24⟩
theorem occ48_24 : occ code48 24 = [.loop c48_24] := by kernel_rfl
theorem ok48_24 : PcOk Tryd.prog env 0 72 p48_24 (.loop c48_24) :=
  loop_ok (T := []) (H := H48) envOk hH48 (ok_nil) (by kernel_rfl) (fun x => by kernel_rfl)
theorem con48 : Con Tryd.prog env 48 ⟨ps48, rs48, f48⟩ :=
  con_of (T := [p48_24]) (H := H48) (n := 72) (c := code48) envOk hH48 Tryd.func48 (by kernel_rfl) (by kernel_rfl) (by kernel_rfl) (by kernel_rfl)
    (ok_of (ok_one occ48_24 ok48_24 ok_end)) (by kernel_rfl) (fun x => by kernel_rfl)
noncomputable def code18 : Code := Tryd.f18.body.getD .skip
noncomputable def H18 : Nat → Option FH := fun g => bif Nat.beq g 20 then some ⟨ps20, rs20, f20⟩ else bif Nat.beq g 45 then some ⟨ps45, rs45, f45⟩ else bif Nat.beq g 46 then some ⟨ps46, rs46, f46⟩ else bif Nat.beq g 47 then some ⟨ps47, rs47, f47⟩ else bif Nat.beq g 48 then some ⟨ps48, rs48, f48⟩ else none
theorem hH18 : ∀ g h, H18 g = some h → Con Tryd.prog env g h := hH_cons con20 (hH_cons con45 (hH_cons con46 (hH_cons con47 (hH_cons con48 hH_nil))))
noncomputable def c18_144 : Code := inner (at' code18 144)
noncomputable def c18_164 : Code := inner (at' c18_144 164)
noncomputable def c18_104 : Code := inner (at' code18 104)
noncomputable def c18_116 : Code := inner (at' c18_104 116)
noncomputable def c18_64 : Code := inner (at' code18 64)
noncomputable def c18_76 : Code := inner (at' c18_64 76)
noncomputable def c18_40 : Code := inner (at' code18 40)
noncomputable def c18_12 : Code := inner (at' code18 12)
noncomputable def p18_12 : Pc := ⟨12, sh18_12, outs18_12, loopF f18_12⟩
theorem occ18_12 : occ code18 12 = [.loop c18_12] := by kernel_rfl
theorem ok18_12 : PcOk Tryd.prog env 0 136 p18_12 (.loop c18_12) :=
  loop_ok (T := []) (H := H18) envOk hH18 (ok_nil) (by kernel_rfl) (fun x => by kernel_rfl)
noncomputable def p18_40 : Pc := ⟨40, sh18_40, outs18_40, loopF f18_40⟩
theorem occ18_40 : occ code18 40 = [.loop c18_40] := by kernel_rfl
theorem ok18_40 : PcOk Tryd.prog env 0 136 p18_40 (.loop c18_40) :=
  loop_ok (T := []) (H := H18) envOk hH18 (ok_nil) (by kernel_rfl) (fun x => by kernel_rfl)
noncomputable def p18_76 : Pc := ⟨76, sh18_76, outs18_76, loopF f18_76⟩
theorem occ18_76 : occ c18_64 76 = [.loop c18_76] := by kernel_rfl
theorem ok18_76 : PcOk Tryd.prog env 0 136 p18_76 (.loop c18_76) :=
  loop_ok (T := []) (H := H18) envOk hH18 (ok_nil) (by kernel_rfl) (fun x => by kernel_rfl)
noncomputable def p18_64 : Pc := ⟨64, sh18_64, outs18_64, loopF f18_64⟩
theorem occ18_64 : occ code18 64 = [.loop c18_64] := by kernel_rfl
theorem ok18_64 : PcOk Tryd.prog env 0 136 p18_64 (.loop c18_64) :=
  loop_ok (T := [p18_76]) (H := H18) envOk hH18 (ok_of (ok_one occ18_76 ok18_76 ok_end)) (by kernel_rfl) (fun x => by kernel_rfl)
noncomputable def p18_116 : Pc := ⟨116, sh18_116, outs18_116, loopF f18_116⟩
theorem occ18_116 : occ c18_104 116 = [.loop c18_116] := by kernel_rfl
theorem ok18_116 : PcOk Tryd.prog env 0 136 p18_116 (.loop c18_116) :=
  loop_ok (T := []) (H := H18) envOk hH18 (ok_nil) (by kernel_rfl) (fun x => by kernel_rfl)
noncomputable def p18_104 : Pc := ⟨104, sh18_104, outs18_104, loopF f18_104⟩
theorem occ18_104 : occ code18 104 = [.loop c18_104] := by kernel_rfl
theorem ok18_104 : PcOk Tryd.prog env 0 136 p18_104 (.loop c18_104) :=
  loop_ok (T := [p18_116]) (H := H18) envOk hH18 (ok_of (ok_one occ18_116 ok18_116 ok_end)) (by kernel_rfl) (fun x => by kernel_rfl)
noncomputable def p18_164 : Pc := ⟨164, sh18_164, outs18_164, loopF f18_164⟩
theorem occ18_164 : occ c18_144 164 = [.loop c18_164] := by kernel_rfl
theorem ok18_164 : PcOk Tryd.prog env 0 136 p18_164 (.loop c18_164) :=
  loop_ok (T := []) (H := H18) envOk hH18 (ok_nil) (by kernel_rfl) (fun x => by kernel_rfl)
noncomputable def p18_144 : Pc := ⟨144, sh18_144, outs18_144, loopF f18_144⟩
theorem occ18_144 : occ code18 144 = [.loop c18_144] := by kernel_rfl
theorem ok18_144 : PcOk Tryd.prog env 0 136 p18_144 (.loop c18_144) :=
  loop_ok (T := [p18_164]) (H := H18) envOk hH18 (ok_of (ok_one occ18_164 ok18_164 ok_end)) (by kernel_rfl) (fun x => by kernel_rfl)
theorem con18 : Con Tryd.prog env 18 ⟨ps18, rs18, f18⟩ :=
  con_of (T := [p18_12, p18_40, p18_64, p18_104, p18_144]) (H := H18) (n := 136) (c := code18) envOk hH18 Tryd.func18 (by kernel_rfl) (by kernel_rfl) (by kernel_rfl) (by kernel_rfl)
    (ok_of (ok_one occ18_12 ok18_12 (ok_one occ18_40 ok18_40 (ok_one occ18_64 ok18_64 (ok_one occ18_104 ok18_104 (ok_one occ18_144 ok18_144 ok_end)))))) (by kernel_rfl) (fun x => by kernel_rfl)
noncomputable def code19 : Code := Tryd.f19.body.getD .skip
noncomputable def H19 : Nat → Option FH := fun g => bif Nat.beq g 49 then some ⟨ps49, rs49, f49⟩ else none
theorem hH19 : ∀ g h, H19 g = some h → Con Tryd.prog env g h := hH_cons con49 hH_nil
noncomputable def c19_8 : Code := inner (at' code19 8)
noncomputable def p19_8 : Pc := ⟨8, sh19_8, outs19_8, loopF f19_8⟩
theorem occ19_8 : occ code19 8 = [.loop c19_8] := by kernel_rfl
theorem ok19_8 : PcOk Tryd.prog env 0 55 p19_8 (.loop c19_8) :=
  loop_ok (T := []) (H := H19) envOk hH19 (ok_nil) (by kernel_rfl) (fun x => by kernel_rfl)
theorem con19 : Con Tryd.prog env 19 ⟨ps19, rs19, f19⟩ :=
  con_of (T := [p19_8]) (H := H19) (n := 55) (c := code19) envOk hH19 Tryd.func19 (by kernel_rfl) (by kernel_rfl) (by kernel_rfl) (by kernel_rfl)
    (ok_of (ok_one occ19_8 ok19_8 ok_end)) (by kernel_rfl) (fun x => by kernel_rfl)
noncomputable def code11 : Code := Tryd.f11.body.getD .skip
noncomputable def H11 : Nat → Option FH := fun g => bif Nat.beq g 18 then some ⟨ps18, rs18, f18⟩ else bif Nat.beq g 19 then some ⟨ps19, rs19, f19⟩ else bif Nat.beq g 20 then some ⟨ps20, rs20, f20⟩ else none
theorem hH11 : ∀ g h, H11 g = some h → Con Tryd.prog env g h := hH_cons con18 (hH_cons con19 (hH_cons con20 hH_nil))
noncomputable def c11_72 : Code := inner (at' code11 72)
noncomputable def c11_24 : Code := inner (at' code11 24)
noncomputable def c11_36 : Code := inner (at' c11_24 36)
noncomputable def p11_36 : Pc := ⟨36, sh11_36, outs11_36, loopF f11_36⟩
theorem occ11_36 : occ c11_24 36 = [.loop c11_36] := by kernel_rfl
theorem ok11_36 : PcOk Tryd.prog env 0 82 p11_36 (.loop c11_36) :=
  loop_ok (T := []) (H := H11) envOk hH11 (ok_nil) (by kernel_rfl) (fun x => by kernel_rfl)
noncomputable def p11_24 : Pc := ⟨24, sh11_24, outs11_24, loopF f11_24⟩
theorem occ11_24 : occ code11 24 = [.loop c11_24] := by kernel_rfl
theorem ok11_24 : PcOk Tryd.prog env 0 82 p11_24 (.loop c11_24) :=
  loop_ok (T := [p11_36]) (H := H11) envOk hH11 (ok_of (ok_one occ11_36 ok11_36 ok_end)) (by kernel_rfl) (fun x => by kernel_rfl)
noncomputable def p11_72 : Pc := ⟨72, sh11_72, outs11_72, loopF f11_72⟩
theorem occ11_72 : occ code11 72 = [.loop c11_72] := by kernel_rfl
theorem ok11_72 : PcOk Tryd.prog env 0 82 p11_72 (.loop c11_72) :=
  loop_ok (T := []) (H := H11) envOk hH11 (ok_nil) (by kernel_rfl) (fun x => by kernel_rfl)
theorem con11 : Con Tryd.prog env 11 ⟨ps11, rs11, f11⟩ :=
  con_of (T := [p11_24, p11_72]) (H := H11) (n := 82) (c := code11) envOk hH11 Tryd.func11 (by kernel_rfl) (by kernel_rfl) (by kernel_rfl) (by kernel_rfl)
    (ok_of (ok_one occ11_24 ok11_24 (ok_one occ11_72 ok11_72 ok_end))) (by kernel_rfl) (fun x => by kernel_rfl)
noncomputable def code50 : Code := Tryd.f50.body.getD .skip
def H50 : Nat → Option FH := fun _ => none
theorem hH50 : ∀ g h, H50 g = some h → Con Tryd.prog env g h := fun g h hh => by cases hh
theorem con50 : Con Tryd.prog env 50 ⟨ps50, rs50, f50⟩ :=
  con_of (T := []) (H := H50) (n := 61) (c := code50) envOk hH50 Tryd.func50 (by kernel_rfl) (by kernel_rfl) (by kernel_rfl) (by kernel_rfl)
    (ok_nil) (by kernel_rfl) (fun x => by kernel_rfl)
noncomputable def code21 : Code := Tryd.f21.body.getD .skip
noncomputable def H21 : Nat → Option FH := fun g => bif Nat.beq g 50 then some ⟨ps50, rs50, f50⟩ else none
theorem hH21 : ∀ g h, H21 g = some h → Con Tryd.prog env g h := hH_cons con50 hH_nil
noncomputable def c21_16 : Code := inner (at' code21 16)
noncomputable def c21_48 : Code := inner (at' c21_16 48)
noncomputable def p21_48 : Pc := ⟨48, sh21_48, outs21_48, loopF f21_48⟩
theorem occ21_48 : occ c21_16 48 = [.loop c21_48] := by kernel_rfl
theorem ok21_48 : PcOk Tryd.prog env 0 52 p21_48 (.loop c21_48) :=
  loop_ok (T := []) (H := H21) envOk hH21 (ok_nil) (by kernel_rfl) (fun x => by kernel_rfl)
noncomputable def p21_16 : Pc := ⟨16, sh21_16, outs21_16, loopF f21_16⟩
theorem occ21_16 : occ code21 16 = [.loop c21_16] := by kernel_rfl
theorem ok21_16 : PcOk Tryd.prog env 0 52 p21_16 (.loop c21_16) :=
  loop_ok (T := [p21_48]) (H := H21) envOk hH21 (ok_of (ok_one occ21_48 ok21_48 ok_end)) (by kernel_rfl) (fun x => by kernel_rfl)
theorem con21 : Con Tryd.prog env 21 ⟨ps21, rs21, f21⟩ :=
  con_of (T := [p21_16]) (H := H21) (n := 52) (c := code21) envOk hH21 Tryd.func21 (by kernel_rfl) (by kernel_rfl) (by kernel_rfl) (by kernel_rfl)
    (ok_of (ok_one occ21_16 ok21_16 ok_end)) (by kernel_rfl) (fun x => by kernel_rfl)
end Go.Ev.L3
