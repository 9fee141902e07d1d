/-
 Prepare: contracts (printed by g5.py).
-/
import Derived.Test.YtgpjfmjceamonaaGreatDoorL6P5
namespace Go.Ev.L6
open Go.Proofs
noncomputable def code29 : Code := Tryz.f29.body.getD .skip
noncomputable def H29 : Nat → Option FH := fun g => bif Nat.beq g 70 then some ⟨ps70, rs70, f70⟩ else none
theorem hH29 : ∀ g h, H29 g = some h → Con Tryz.prog env g h := hH_cons con70 hH_nil
noncomputable def c29_16 : Code := inner (at' code29 16)
noncomputable def p29_16 : Pc := ⟨16, sh29_16, outs29_16, loopF f29_16⟩
theorem occ29_16 : occ code29 16 = [.loop c29_16] := by kernel_rfl
theorem ok29_16 : PcOk Tryz.prog env 0 27 p29_16 (.loop c29_16) :=
 loop_ok (T := []) (H := H29) envOk hH29 (ok_nil) (by kernel_rfl) (fun x => by kernel_rfl)
theorem con29 : Con Tryz.prog env 29 ⟨ps29, rs29, f29⟩ :=
 con_of (T := [p29_16]) (H := H29) (n := 27) (c := code29) envOk hH29 Tryz.func29 (by kernel_rfl) (by kernel_rfl) (by kernel_rfl) (by kernel_rfl)
  (ok_of (ok_one occ29_16 ok29_16 ok_end)) (by kernel_rfl) (fun x => by kernel_rfl)
noncomputable def code9 : Code := Tryz.f9.body.getD .skip
noncomputable def H9 : Nat → Option FH := fun g => bif Nat.beq g 29 then some ⟨ps29, rs29, f29⟩ else none
theorem hH9 : ∀ g h, H9 g = some h → Con Tryz.prog env g h := hH_cons con29 hH_nil
theorem con9 : Con Tryz.prog env 9 ⟨ps9, rs9, f9⟩ :=
 con_of (T := []) (H := H9) (n := 16) (c := code9) envOk hH9 Tryz.func9 (by kernel_rfl) (by kernel_rfl) (by kernel_rfl) (by kernel_rfl)
  (ok_nil) (by kernel_rfl) (fun x => by kernel_rfl)
noncomputable def code145 : Code := Tryz.f145.body.getD .skip
def H145 : Nat → Option FH := fun _ => none
theorem hH145 : ∀ g h, H145 g = some h → Con Tryz.prog env g h := fun g h hh => by cases hh
theorem con145 : Con Tryz.prog env 145 ⟨ps145, rs145, f145⟩ :=
 con_of (T := []) (H := H145) (n := 37) (c := code145) envOk hH145 Tryz.func145 (by kernel_rfl) (by kernel_rfl) (by kernel_rfl) (by kernel_rfl)
  (ok_nil) (by kernel_rfl) (fun x => by kernel_rfl)
noncomputable def code95 : Code := Tryz.f95.body.getD .skip
noncomputable def H95 : Nat → Option FH := fun g => bif Nat.beq g 145 then some ⟨ps145, rs145, f145⟩ else none
theorem hH95 : ∀ g h, H95 g = some h → Con Tryz.prog env g h := hH_cons con145 hH_nil
theorem con95 : Con Tryz.prog env 95 ⟨ps95, rs95, f95⟩ :=
 con_of (T := []) (H := H95) (n := 31) (c := code95) envOk hH95 Tryz.func95 (by kernel_rfl) (by kernel_rfl) (by kernel_rfl) (by kernel_rfl)
  (ok_nil) (by kernel_rfl) (fun x => by kernel_rfl)
noncomputable def code44 : Code := Tryz.f44.body.getD .skip
noncomputable def H44 : Nat → Option FH := fun g => bif Nat.beq g 95 then some ⟨ps95, rs95, f95⟩ else none
theorem hH44 : ∀ g h, H44 g = some h → Con Tryz.prog env g h := hH_cons con95 hH_nil
noncomputable def c44_16 : Code := inner (at' code44 16)
noncomputable def p44_16 : Pc := ⟨16, sh44_16, outs44_16, loopF f44_16⟩
theorem occ44_16 : occ code44 16 = [.loop c44_16] := by kernel_rfl
theorem ok44_16 : PcOk Tryz.prog env 0 27 p44_16 (.loop c44_16) :=
 loop_ok (T := []) (H := H44) envOk hH44 (ok_nil) (by kernel_rfl) (fun x => by kernel_rfl)
theorem con44 : Con Tryz.prog env 44 ⟨ps44, rs44, f44⟩ :=
 con_of (T := [p44_16]) (H := H44) (n := 27) (c := code44) envOk hH44 Tryz.func44 (by kernel_rfl) (by kernel_rfl) (by kernel_rfl) (by kernel_rfl)
  (ok_of (ok_one occ44_16 ok44_16 ok_end)) (by kernel_rfl) (fun x => by kernel_rfl)
noncomputable def code176 : Code := Tryz.f176.body.getD .skip
def H176 : Nat → Option FH := fun _ => none
theorem hH176 : ∀ g h, H176 g = some h → Con Tryz.prog env g h := fun g h hh => by cases hh
theorem con176 : Con Tryz.prog env 176 ⟨ps176, rs176, f176⟩ :=
 con_of (T := []) (H := H176) (n := 15) (c := code176) envOk hH176 Tryz.func176 (by kernel_rfl) (by kernel_rfl) (by kernel_rfl) (by kernel_rfl)
  (ok_nil) (by kernel_rfl) (fun x => by kernel_rfl)
noncomputable def code136 : Code := Tryz.f136.body.getD .skip
noncomputable def H136 : Nat → Option FH := fun g => bif Nat.beq g 176 then some ⟨ps176, rs176, f176⟩ else none
theorem hH136 : ∀ g h, H136 g = some h → Con Tryz.prog env g h := hH_cons con176 hH_nil
noncomputable def c136_16 : Code := inner (at' code136 16)
noncomputable def p136_16 : Pc := ⟨16, sh136_16, outs136_16, loopF f136_16⟩
theorem occ136_16 : occ code136 16 = [.loop c136_16] := by kernel_rfl
theorem ok136_16 : PcOk Tryz.prog env 0 27 p136_16 (.loop c136_16) :=
 loop_ok (T := []) (H := H136) envOk hH136 (ok_nil) (by kernel_rfl) (fun x => by kernel_rfl)
theorem con136 : Con Tryz.prog env 136 ⟨ps136, rs136, f136⟩ :=
 con_of (T := [p136_16]) (H := H136) (n := 27) (c := code136) envOk hH136 Tryz.func136 (by kernel_rfl) (by kernel_rfl) (by kernel_rfl) (by kernel_rfl)
  (ok_of (ok_one occ136_16 ok136_16 ok_end)) (by kernel_rfl) (fun x => by kernel_rfl)
noncomputable def code177 : Code := Tryz.f177.body.getD .skip
def H177 : Nat → Option FH := fun _ => none
theorem hH177 : ∀ g h, H177 g = some h → Con Tryz.prog env g h := fun g h hh => by cases hh
theorem con177 : Con Tryz.prog env 177 ⟨ps177, rs177, f177⟩ :=
 con_of (T := []) (H := H177) (n := 30) (c := code177) envOk hH177 Tryz.func177 (by kernel_rfl) (by kernel_rfl) (by kernel_rfl) (by kernel_rfl)
  (ok_nil) (by kernel_rfl) (fun x => by kernel_rfl)
noncomputable def code137 : Code := Tryz.f137.body.getD .skip
noncomputable def H137 : Nat → Option FH := fun g => bif Nat.beq g 177 then some ⟨ps177, rs177, f177⟩ else none
theorem hH137 : ∀ g h, H137 g = some h → Con Tryz.prog env g h := hH_cons con177 hH_nil
noncomputable def c137_16 : Code := inner (at' code137 16)
noncomputable def p137_16 : Pc := ⟨16, sh137_16, outs137_16, loopF f137_16⟩
theorem occ137_16 : occ code137 16 = [.loop c137_16] := by kernel_rfl
theorem ok137_16 : PcOk Tryz.prog env 0 27 p137_16 (.loop c137_16) :=
 loop_ok (T := []) (H := H137) envOk hH137 (ok_nil) (by kernel_rfl) (fun x => by kernel_rfl)
theorem con137 : Con Tryz.prog env 137 ⟨ps137, rs137, f137⟩ :=
 con_of (T := [p137_16]) (H := H137) (n := 27) (c := code137) envOk hH137 Tryz.func137 (by kernel_rfl) (by kernel_rfl) (by kernel_rfl) (by kernel_rfl)
  (ok_of (ok_one occ137_16 ok137_16 ok_end)) (by kernel_rfl) (fun x => by kernel_rfl)
noncomputable def code178 : Code := Tryz.f178.body.getD .skip
def H178 : Nat → Option FH := fun _ => none
theorem hH178 : ∀ g h, H178 g = some h → Con Tryz.prog env g h := fun g h hh => by cases hh
theorem con178 : Con Tryz.prog env 178 ⟨ps178, rs178, f178⟩ :=
 con_of (T := []) (H := H178) (n := 25) (c := code178) envOk hH178 Tryz.func178 (by kernel_rfl) (by kernel_rfl) (by kernel_rfl) (by kernel_rfl)
  (ok_nil) (by kernel_rfl) (fun x => by kernel_rfl)
noncomputable def code138 : Code := Tryz.f138.body.getD .skip
noncomputable def H138 : Nat → Option FH := fun g => bif Nat.beq g 178 then some ⟨ps178, rs178, f178⟩ else none
theorem hH138 : ∀ g h, H138 g = some h → Con Tryz.prog env g h := hH_cons con178 hH_nil
noncomputable def c138_16 : Code := inner (at' code138 16)
noncomputable def p138_16 : Pc := ⟨16, sh138_16, outs138_16, loopF f138_16⟩
theorem occ138_16 : occ code138 16 = [.loop c138_16] := by kernel_rfl
theorem ok138_16 : PcOk Tryz.prog env 0 27 p138_16 (.loop c138_16) :=
 loop_ok (T := []) (H := H138) envOk hH138 (ok_nil) (by kernel_rfl) (fun x => by kernel_rfl)
theorem con138 : Con Tryz.prog env 138 ⟨ps138, rs138, f138⟩ :=
 con_of (T := [p138_16]) (H := H138) (n := 27) (c := code138) envOk hH138 Tryz.func138 (by kernel_rfl) (by kernel_rfl) (by kernel_rfl) (by kernel_rfl)
  (ok_of (ok_one occ138_16 ok138_16 ok_end)) (by kernel_rfl) (fun x => by kernel_rfl)
noncomputable def code71 : Code := Tryz.f71.body.getD .skip
noncomputable def H71 : Nat → Option FH := fun g => bif Nat.beq g 44 then some ⟨ps44, rs44, f44⟩ else bif Nat.beq g 136 then some ⟨ps136, rs136, f136⟩ else bif Nat.beq g 137 then some ⟨ps137, rs137, f137⟩ else bif Nat.beq g 138 then some ⟨ps138, rs138, f138⟩ else none
theorem hH71 : ∀ g h, H71 g = some h → Con Tryz.prog env g h := hH_cons con44 (hH_cons con136 (hH_cons con137 (hH_cons con138 hH_nil)))
theorem con71 : Con Tryz.prog env 71 ⟨ps71, rs71, f71⟩ :=
 con_of (T := []) (H := H71) (n := 54) (c := code71) envOk hH71 Tryz.func71 (by kernel_rfl) (by kernel_rfl) (by kernel_rfl) (by kernel_rfl)
  (ok_nil) (by kernel_rfl) (fun x => by kernel_rfl)
noncomputable def code30 : Code := Tryz.f30.body.getD .skip
noncomputable def H30 : Nat → Option FH := fun g => bif Nat.beq g 71 then some ⟨ps71, rs71, f71⟩ else none
theorem hH30 : ∀ g h, H30 g = some h → Con Tryz.prog env g h := hH_cons con71 hH_nil
noncomputable def c30_16 : Code := inner (at' code30 16)
noncomputable def p30_16 : Pc := ⟨16, sh30_16, outs30_16, loopF f30_16⟩
theorem occ30_16 : occ code30 16 = [.loop c30_16] := by kernel_rfl
theorem ok30_16 : PcOk Tryz.prog env 0 27 p30_16 (.loop c30_16) :=
 loop_ok (T := []) (H := H30) envOk hH30 (ok_nil) (by kernel_rfl) (fun x => by kernel_rfl)
theorem con30 : Con Tryz.prog env 30 ⟨ps30, rs30, f30⟩ :=
 con_of (T := [p30_16]) (H := H30) (n := 27) (c := code30) envOk hH30 Tryz.func30 (by kernel_rfl) (by kernel_rfl) (by kernel_rfl) (by kernel_rfl)
  (ok_of (ok_one occ30_16 ok30_16 ok_end)) (by kernel_rfl) (fun x => by kernel_rfl)
noncomputable def code10 : Code := Tryz.f10.body.getD .skip
noncomputable def H10 : Nat → Option FH := fun g => bif Nat.beq g 30 then some ⟨ps30, rs30, f30⟩ else none
theorem hH10 : ∀ g h, H10 g = some h → Con Tryz.prog env g h := hH_cons con30 hH_nil
theorem con10 : Con Tryz.prog env 10 ⟨ps10, rs10, f10⟩ :=
 con_of (T := []) (H := H10) (n := 11) (c := code10) envOk hH10 Tryz.func10 (by kernel_rfl) (by kernel_rfl) (by kernel_rfl) (by kernel_rfl)
  (ok_nil) (by kernel_rfl) (fun x => by kernel_rfl)
noncomputable def code72 : Code := Tryz.f72.body.getD .skip
def H72 : Nat → Option FH := fun _ => none
theorem hH72 : ∀ g h, H72 g = some h → Con Tryz.prog envD g h := fun g h hh => by cases hh
noncomputable def c72_16 : Code := inner (at' code72 16)
noncomputable def p72_16 : Pc := ⟨16, sh72_16, outs72_16, loopF f72_16⟩
theorem occ72_16 : occ code72 16 = [.loop c72_16] := by kernel_rfl
theorem ok72_16 : PcOk Tryz.prog envD 0 20 p72_16 (.loop c72_16) :=
 loop_ok (T := []) (H := H72) envOkD hH72 (ok_nil) (by kernel_rfl) (fun x => by kernel_rfl)
theorem con72 : Con Tryz.prog envD 72 ⟨ps72, rs72, f72⟩ :=
 con_of (T := [p72_16]) (H := H72) (n := 20) (c := code72) envOkD hH72 Tryz.func72 (by kernel_rfl) (by kernel_rfl) (by kernel_rfl) (by kernel_rfl)
  (ok_of (ok_one occ72_16 ok72_16 ok_end)) (by kernel_rfl) (fun x => by kernel_rfl)
noncomputable def code52 : Code := Tryz.f52.body.getD .skip
noncomputable def H52 : Nat → Option FH := fun g => bif Nat.beq g 72 then some ⟨ps72, rs72, f72⟩ else none
theorem hH52 : ∀ g h, H52 g = some h → Con Tryz.prog envD g h := hH_cons con72 hH_nil
noncomputable def c52_8 : Code := inner (at' code52 8)
noncomputable def p52_8 : Pc := ⟨8, sh52_8, outs52_8, loopF f52_8⟩
theorem occ52_8 : occ code52 8 = [.loop c52_8] := by kernel_rfl
theorem ok52_8 : PcOk Tryz.prog envD 1 50 p52_8 (.loop c52_8) :=
 loop_ok (T := []) (H := H52) envOkD hH52 (ok_nil) (by kernel_rfl) (fun x => by kernel_rfl)
theorem con52 : Con Tryz.prog envD 52 ⟨ps52, rs52, f52⟩ :=
 con_of (T := [p52_8]) (H := H52) (n := 50) (c := code52) envOkD hH52 Tryz.func52 (by kernel_rfl) (by kernel_rfl) (by kernel_rfl) (by kernel_rfl)
  (ok_of (ok_one occ52_8 ok52_8 ok_end)) (by kernel_rfl) (fun x => by kernel_rfl)
noncomputable def code73 : Code := Tryz.f73.body.getD .skip
def H73 : Nat → Option FH := fun _ => none
theorem hH73 : ∀ g h, H73 g = some h → Con Tryz.prog envD g h := fun g h hh => by cases hh
noncomputable def c73_8 : Code := inner (at' code73 8)
noncomputable def p73_8 : Pc := ⟨8, sh73_8, outs73_8, loopF f73_8⟩
theorem occ73_8 : occ code73 8 = [.loop c73_8] := by kernel_rfl
theorem ok73_8 : PcOk Tryz.prog envD 1 29 p73_8 (.loop c73_8) :=
 loop_ok (T := []) (H := H73) envOkD hH73 (ok_nil) (by kernel_rfl) (fun x => by kernel_rfl)
theorem con73 : Con Tryz.prog envD 73 ⟨ps73, rs73, f73⟩ :=
 con_of (T := [p73_8]) (H := H73) (n := 29) (c := code73) envOkD hH73 Tryz.func73 (by kernel_rfl) (by kernel_rfl) (by kernel_rfl) (by kernel_rfl)
  (ok_of (ok_one occ73_8 ok73_8 ok_end)) (by kernel_rfl) (fun x => by kernel_rfl)
end Go.Ev.L6
