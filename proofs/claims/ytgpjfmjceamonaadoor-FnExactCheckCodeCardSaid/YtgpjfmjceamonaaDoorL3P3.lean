import Derived.Test.YtgpjfmjceamonaaDoorL3P2
namespace Go.Ev.L3
open Go.Proofs
noncomputable def code38 : Code := Tryd.f38.body.getD .skip
def H38 : Nat → Option FH := fun _ => none
theorem hH38 : ∀ g h, H38 g = some h → Con Tryd.prog env g h := fun g h hh => by cases hh
noncomputable def c38_40 : Code := inner (at' code38 40)
noncomputable def c38_8 : Code := inner (at' code38 8)
noncomputable def p38_8 : Pc := ⟨8, sh38_8, outs38_8, loopF f38_8⟩
theorem occ38_8 : occ code38 8 = [.loop c38_8] := by kernel_rfl
theorem ok38_8 : PcOk Tryd.prog env 0 50 p38_8 (.loop c38_8) :=
  loop_ok (T := []) (H := H38) envOk hH38 (ok_nil) (by kernel_rfl) (fun x => by kernel_rfl)
noncomputable def p38_40 : Pc := ⟨40, sh38_40, outs38_40, loopF f38_40⟩
theorem occ38_40 : occ code38 40 = [.loop c38_40] := by kernel_rfl
theorem ok38_40 : PcOk Tryd.prog env 0 50 p38_40 (.loop c38_40) :=
  loop_ok (T := []) (H := H38) envOk hH38 (ok_nil) (by kernel_rfl) (fun x => by kernel_rfl)
theorem con38 : Con Tryd.prog env 38 ⟨ps38, rs38, f38⟩ :=
  con_of (T := [p38_8, p38_40]) (H := H38) (n := 50) (c := code38) envOk hH38 Tryd.func38 (by kernel_rfl) (by kernel_rfl) (by kernel_rfl) (by kernel_rfl)
    (ok_of (ok_one occ38_8 ok38_8 (ok_one occ38_40 ok38_40 ok_end))) (by kernel_rfl) (fun x => by kernel_rfl)
noncomputable def code66 : Code := Tryd.f66.body.getD .skip
def H66 : Nat → Option FH := fun _ => none
theorem hH66 : ∀ g h, H66 g = some h → Con Tryd.prog env g h := fun g h hh => by cases hh
theorem con66 : Con Tryd.prog env 66 ⟨ps66, rs66, f66⟩ :=
  con_of (T := []) (H := H66) (n := 48) (c := code66) envOk hH66 Tryd.func66 (by kernel_rfl) (by kernel_rfl) (by kernel_rfl) (by kernel_rfl)
    (ok_nil) (by kernel_rfl) (fun x => by kernel_rfl)
noncomputable def code39 : Code := Tryd.f39.body.getD .skip
noncomputable def H39 : Nat → Option FH := fun g => bif Nat.beq g 66 then some ⟨ps66, rs66, f66⟩ else none
theorem hH39 : ∀ g h, H39 g = some h → Con Tryd.prog env g h := hH_cons con66 hH_nil
noncomputable def c39_8 : Code := inner (at' code39 8)
noncomputable def c39_28 : Code := inner (at' c39_8 28)
noncomputable def p39_28 : Pc := ⟨28, sh39_28, outs39_28, loopF f39_28⟩
theorem occ39_28 : occ c39_8 28 = [.loop c39_28] := by kernel_rfl
theorem ok39_28 : PcOk Tryd.prog env 0 68 p39_28 (.loop c39_28) :=
  loop_ok (T := []) (H := H39) envOk hH39 (ok_nil) (by kernel_rfl) (fun x => by kernel_rfl)
noncomputable def p39_8 : Pc := ⟨8, sh39_8, outs39_8, loopF f39_8⟩
theorem occ39_8 : occ code39 8 = [.loop c39_8] := by kernel_rfl
theorem ok39_8 : PcOk Tryd.prog env 0 68 p39_8 (.loop c39_8) :=
  loop_ok (T := [p39_28]) (H := H39) envOk hH39 (ok_of (ok_one occ39_28 ok39_28 ok_end)) (by kernel_rfl) (fun x => by kernel_rfl)
theorem con39 : Con Tryd.prog env 39 ⟨ps39, rs39, f39⟩ :=
  con_of (T := [p39_8]) (H := H39) (n := 68) (c := code39) envOk hH39 Tryd.func39 (by kernel_rfl) (by kernel_rfl) (by kernel_rfl) (by kernel_rfl)
    (ok_of (ok_one occ39_8 ok39_8 ok_end)) (by kernel_rfl) (fun x => by kernel_rfl)
noncomputable def code15 : Code := Tryd.f15.body.getD .skip
noncomputable def H15 : Nat → Option FH := fun g => bif Nat.beq g 36 then some ⟨ps36, rs36, f36⟩ else bif Nat.beq g 37 then some ⟨ps37, rs37, f37⟩ else bif Nat.beq g 38 then some ⟨ps38, rs38, f38⟩ else bif Nat.beq g 39 then some ⟨ps39, rs39, f39⟩ else none
theorem hH15 : ∀ g h, H15 g = some h → Con Tryd.prog env g h := hH_cons con36 (hH_cons con37 (hH_cons con38 (hH_cons con39 hH_nil)))
noncomputable def c15_60 : Code := inner (at' code15 60)
noncomputable def c15_96 : Code := inner (at' c15_60 96)
noncomputable def c15_20 : Code := inner (at' code15 20)
noncomputable def p15_20 : Pc := ⟨20, sh15_20, outs15_20, loopF f15_20⟩
theorem occ15_20 : occ code15 20 = [.loop c15_20] := by kernel_rfl
theorem ok15_20 : PcOk Tryd.prog env 0 137 p15_20 (.loop c15_20) :=
  loop_ok (T := []) (H := H15) envOk hH15 (ok_nil) (by kernel_rfl) (fun x => by kernel_rfl)
noncomputable def p15_96 : Pc := ⟨96, sh15_96, outs15_96, loopF f15_96⟩
theorem occ15_96 : occ c15_60 96 = [.loop c15_96] := by kernel_rfl
theorem ok15_96 : PcOk Tryd.prog env 0 137 p15_96 (.loop c15_96) :=
  loop_ok (T := []) (H := H15) envOk hH15 (ok_nil) (by kernel_rfl) (fun x => by kernel_rfl)
noncomputable def p15_60 : Pc := ⟨60, sh15_60, outs15_60, loopF f15_60⟩
theorem occ15_60 : occ code15 60 = [.loop c15_60] := by kernel_rfl
theorem ok15_60 : PcOk Tryd.prog env 0 137 p15_60 (.loop c15_60) :=
  loop_ok (T := [p15_96]) (H := H15) envOk hH15 (ok_of (ok_one occ15_96 ok15_96 ok_end)) (by kernel_rfl) (fun x => by kernel_rfl)
theorem con15 : Con Tryd.prog env 15 ⟨ps15, rs15, f15⟩ :=
  con_of (T := [p15_20, p15_60]) (H := H15) (n := 137) (c := code15) envOk hH15 Tryd.func15 (by kernel_rfl) (by kernel_rfl) (by kernel_rfl) (by kernel_rfl)
    (ok_of (ok_one occ15_20 ok15_20 (ok_one occ15_60 ok15_60 ok_end))) (by kernel_rfl) (fun x => by kernel_rfl)
noncomputable def code7 : Code := Tryd.f7.body.getD .skip
noncomputable def H7 : Nat → Option FH := fun g => bif Nat.beq g 14 then some ⟨ps14, rs14, f14⟩ else bif Nat.beq g 15 then some ⟨ps15, rs15, f15⟩ else none
theorem hH7 : ∀ g h, H7 g = some h → Con Tryd.prog env g h := hH_cons con14 (hH_cons con15 hH_nil)
noncomputable def c7_20 : Code := inner (at' code7 20)
noncomputable def p7_20 : Pc := ⟨20, sh7_20, outs7_20, loopF f7_20⟩
theorem occ7_20 : occ code7 20 = [.loop c7_20] := by kernel_rfl
theorem ok7_20 : PcOk Tryd.prog env 0 35 p7_20 (.loop c7_20) :=
  loop_ok (T := []) (H := H7) envOk hH7 (ok_nil) (by kernel_rfl) (fun x => by kernel_rfl)
theorem con7 : Con Tryd.prog env 7 ⟨ps7, rs7, f7⟩ :=
  con_of (T := [p7_20]) (H := H7) (n := 35) (c := code7) envOk hH7 Tryd.func7 (by kernel_rfl) (by kernel_rfl) (by kernel_rfl) (by kernel_rfl)
    (ok_of (ok_one occ7_20 ok7_20 ok_end)) (by kernel_rfl) (fun x => by kernel_rfl)
noncomputable def code8 : Code := Tryd.f8.body.getD .skip
def H8 : Nat → Option FH := fun _ => none
theorem hH8 : ∀ g h, H8 g = some h → Con Tryd.prog env g h := fun g h hh => by cases hh
theorem con8 : Con Tryd.prog env 8 ⟨ps8, rs8, f8⟩ :=
  con_of (T := []) (H := H8) (n := 20) (c := code8) envOk hH8 Tryd.func8 (by kernel_rfl) (by kernel_rfl) (by kernel_rfl) (by kernel_rfl)
    (ok_nil) (by kernel_rfl) (fun x => by kernel_rfl)
noncomputable def code79 : Code := Tryd.f79.body.getD .skip
def H79 : Nat → Option FH := fun _ => none
theorem hH79 : ∀ g h, H79 g = some h → Con Tryd.prog env g h := fun g h hh => by cases hh
theorem con79 : Con Tryd.prog env 79 ⟨ps79, rs79, f79⟩ :=
  con_of (T := []) (H := H79) (n := 15) (c := code79) envOk hH79 Tryd.func79 (by kernel_rfl) (by kernel_rfl) (by kernel_rfl) (by kernel_rfl)
    (ok_nil) (by kernel_rfl) (fun x => by kernel_rfl)
noncomputable def code67 : Code := Tryd.f67.body.getD .skip
noncomputable def H67 : Nat → Option FH := fun g => bif Nat.beq g 79 then some ⟨ps79, rs79, f79⟩ else none
theorem hH67 : ∀ g h, H67 g = some h → Con Tryd.prog env g h := hH_cons con79 hH_nil
noncomputable def c67_16 : Code := inner (at' code67 16)
noncomputable def p67_16 : Pc := ⟨16, sh67_16, outs67_16, loopF f67_16⟩
theorem occ67_16 : occ code67 16 = [.loop c67_16] := by kernel_rfl
theorem ok67_16 : PcOk Tryd.prog env 0 27 p67_16 (.loop c67_16) :=
  loop_ok (T := []) (H := H67) envOk hH67 (ok_nil) (by kernel_rfl) (fun x => by kernel_rfl)
theorem con67 : Con Tryd.prog env 67 ⟨ps67, rs67, f67⟩ :=
  con_of (T := [p67_16]) (H := H67) (n := 27) (c := code67) envOk hH67 Tryd.func67 (by kernel_rfl) (by kernel_rfl) (by kernel_rfl) (by kernel_rfl)
    (ok_of (ok_one occ67_16 ok67_16 ok_end)) (by kernel_rfl) (fun x => by kernel_rfl)
noncomputable def code84 : Code := Tryd.f84.body.getD .skip
def H84 : Nat → Option FH := fun _ => none
theorem hH84 : ∀ g h, H84 g = some h → Con Tryd.prog env g h := fun g h hh => by cases hh
theorem con84 : Con Tryd.prog env 84 ⟨ps84, rs84, f84⟩ :=
  con_of (T := []) (H := H84) (n := 37) (c := code84) envOk hH84 Tryd.func84 (by kernel_rfl) (by kernel_rfl) (by kernel_rfl) (by kernel_rfl)
    (ok_nil) (by kernel_rfl) (fun x => by kernel_rfl)
noncomputable def code80 : Code := Tryd.f80.body.getD .skip
noncomputable def H80 : Nat → Option FH := fun g => bif Nat.beq g 84 then some ⟨ps84, rs84, f84⟩ else none
theorem hH80 : ∀ g h, H80 g = some h → Con Tryd.prog env g h := hH_cons con84 hH_nil
theorem con80 : Con Tryd.prog env 80 ⟨ps80, rs80, f80⟩ :=
  con_of (T := []) (H := H80) (n := 31) (c := code80) envOk hH80 Tryd.func80 (by kernel_rfl) (by kernel_rfl) (by kernel_rfl) (by kernel_rfl)
    (ok_nil) (by kernel_rfl) (fun x => by kernel_rfl)
noncomputable def code68 : Code := Tryd.f68.body.getD .skip
noncomputable def H68 : Nat → Option FH := fun g => bif Nat.beq g 80 then some ⟨ps80, rs80, f80⟩ else none
theorem hH68 : ∀ g h, H68 g = some h → Con Tryd.prog env g h := hH_cons con80 hH_nil
noncomputable def c68_16 : Code := inner (at' code68 16)
noncomputable def p68_16 : Pc := ⟨16, sh68_16, outs68_16, loopF f68_16⟩
theorem occ68_16 : occ code68 16 = [.loop c68_16] := by kernel_rfl
theorem ok68_16 : PcOk Tryd.prog env 0 27 p68_16 (.loop c68_16) :=
  loop_ok (T := []) (H := H68) envOk hH68 (ok_nil) (by kernel_rfl) (fun x => by kernel_rfl)
theorem con68 : Con Tryd.prog env 68 ⟨ps68, rs68, f68⟩ :=
  con_of (T := [p68_16]) (H := H68) (n := 27) (c := code68) envOk hH68 Tryd.func68 (by kernel_rfl) (by kernel_rfl) (by kernel_rfl) (by kernel_rfl)
    (ok_of (ok_one occ68_16 ok68_16 ok_end)) (by kernel_rfl) (fun x => by kernel_rfl)
noncomputable def code81 : Code := Tryd.f81.body.getD .skip
def H81 : Nat → Option FH := fun _ => none
theorem hH81 : ∀ g h, H81 g = some h → Con Tryd.prog env g h := fun g h hh => by cases hh
theorem con81 : Con Tryd.prog env 81 ⟨ps81, rs81, f81⟩ :=
  con_of (T := []) (H := H81) (n := 30) (c := code81) envOk hH81 Tryd.func81 (by kernel_rfl) (by kernel_rfl) (by kernel_rfl) (by kernel_rfl)
    (ok_nil) (by kernel_rfl) (fun x => by kernel_rfl)
noncomputable def code69 : Code := Tryd.f69.body.getD .skip
noncomputable def H69 : Nat → Option FH := fun g => bif Nat.beq g 81 then some ⟨ps81, rs81, f81⟩ else none
theorem hH69 : ∀ g h, H69 g = some h → Con Tryd.prog env g h := hH_cons con81 hH_nil
noncomputable def c69_16 : Code := inner (at' code69 16)
noncomputable def p69_16 : Pc := ⟨16, sh69_16, outs69_16, loopF f69_16⟩
theorem occ69_16 : occ code69 16 = [.loop c69_16] := by kernel_rfl
theorem ok69_16 : PcOk Tryd.prog env 0 27 p69_16 (.loop c69_16) :=
  loop_ok (T := []) (H := H69) envOk hH69 (ok_nil) (by kernel_rfl) (fun x => by kernel_rfl)
theorem con69 : Con Tryd.prog env 69 ⟨ps69, rs69, f69⟩ :=
  con_of (T := [p69_16]) (H := H69) (n := 27) (c := code69) envOk hH69 Tryd.func69 (by kernel_rfl) (by kernel_rfl) (by kernel_rfl) (by kernel_rfl)
    (ok_of (ok_one occ69_16 ok69_16 ok_end)) (by kernel_rfl) (fun x => by kernel_rfl)
noncomputable def code82 : Code := Tryd.f82.body.getD .skip
def H82 : Nat → Option FH := fun _ => none
theorem hH82 : ∀ g h, H82 g = some h → Con Tryd.prog env g h := fun g h hh => by cases hh
theorem con82 : Con Tryd.prog env 82 ⟨ps82, rs82, f82⟩ :=
  con_of (T := []) (H := H82) (n := 25) (c := code82) envOk hH82 Tryd.func82 (by kernel_rfl) (by kernel_rfl) (by kernel_rfl) (by kernel_rfl)
    (ok_nil) (by kernel_rfl) (fun x => by kernel_rfl)
noncomputable def code70 : Code := Tryd.f70.body.getD .skip
noncomputable def H70 : Nat → Option FH := fun g => bif Nat.beq g 82 then some ⟨ps82, rs82, f82⟩ else none
theorem hH70 : ∀ g h, H70 g = some h → Con Tryd.prog env g h := hH_cons con82 hH_nil
noncomputable def c70_16 : Code := inner (at' code70 16)
noncomputable def p70_16 : Pc := ⟨16, sh70_16, outs70_16, loopF f70_16⟩
theorem occ70_16 : occ code70 16 = [.loop c70_16] := by kernel_rfl
theorem ok70_16 : PcOk Tryd.prog env 0 27 p70_16 (.loop c70_16) :=
  loop_ok (T := []) (H := H70) envOk hH70 (ok_nil) (by kernel_rfl) (fun x => by kernel_rfl)
theorem con70 : Con Tryd.prog env 70 ⟨ps70, rs70, f70⟩ :=
  con_of (T := [p70_16]) (H := H70) (n := 27) (c := code70) envOk hH70 Tryd.func70 (by kernel_rfl) (by kernel_rfl) (by kernel_rfl) (by kernel_rfl)
    (ok_of (ok_one occ70_16 ok70_16 ok_end)) (by kernel_rfl) (fun x => by kernel_rfl)
noncomputable def code40 : Code := Tryd.f40.body.getD .skip
noncomputable def H40 : Nat → Option FH := fun g => bif Nat.beq g 67 then some ⟨ps67, rs67, f67⟩ else bif Nat.beq g 68 then some ⟨ps68, rs68, f68⟩ else bif Nat.beq g 69 then some ⟨ps69, rs69, f69⟩ else bif Nat.beq g 70 then some ⟨ps70, rs70, f70⟩ else none
theorem hH40 : ∀ g h, H40 g = some h → Con Tryd.prog env g h := hH_cons con67 (hH_cons con68 (hH_cons con69 (hH_cons con70 hH_nil)))
theorem con40 : Con Tryd.prog env 40 ⟨ps40, rs40, f40⟩ :=
  con_of (T := []) (H := H40) (n := 54) (c := code40) envOk hH40 Tryd.func40 (by kernel_rfl) (by kernel_rfl) (by kernel_rfl) (by kernel_rfl)
    (ok_nil) (by kernel_rfl) (fun x => by kernel_rfl)
noncomputable def code16 : Code := Tryd.f16.body.getD .skip
noncomputable def H16 : Nat → Option FH := fun g => bif Nat.beq g 40 then some ⟨ps40, rs40, f40⟩ else none
theorem hH16 : ∀ g h, H16 g = some h → Con Tryd.prog env g h := hH_cons con40 hH_nil
noncomputable def c16_16 : Code := inner (at' code16 16)
noncomputable def p16_16 : Pc := ⟨16, sh16_16, outs16_16, loopF f16_16⟩
theorem occ16_16 : occ code16 16 = [.loop c16_16] := by kernel_rfl
theorem ok16_16 : PcOk Tryd.prog env 0 27 p16_16 (.loop c16_16) :=
  loop_ok (T := []) (H := H16) envOk hH16 (ok_nil) (by kernel_rfl) (fun x => by kernel_rfl)
theorem con16 : Con Tryd.prog env 16 ⟨ps16, rs16, f16⟩ :=
  con_of (T := [p16_16]) (H := H16) (n := 27) (c := code16) envOk hH16 Tryd.func16 (by kernel_rfl) (by kernel_rfl) (by kernel_rfl) (by kernel_rfl)
    (ok_of (ok_one occ16_16 ok16_16 ok_end)) (by kernel_rfl) (fun x => by kernel_rfl)
noncomputable def code9 : Code := Tryd.f9.body.getD .skip
noncomputable def H9 : Nat → Option FH := fun g => bif Nat.beq g 16 then some ⟨ps16, rs16, f16⟩ else none
theorem hH9 : ∀ g h, H9 g = some h → Con Tryd.prog env g h := hH_cons con16 hH_nil
theorem con9 : Con Tryd.prog env 9 ⟨ps9, rs9, f9⟩ :=
  con_of (T := []) (H := H9) (n := 11) (c := code9) envOk hH9 Tryd.func9 (by kernel_rfl) (by kernel_rfl) (by kernel_rfl) (by kernel_rfl)
    (ok_nil) (by kernel_rfl) (fun x => by kernel_rfl)
noncomputable def code3 : Code := Tryd.f3.body.getD .skip
noncomputable def H3 : Nat → Option FH := fun g => bif Nat.beq g 4 then some ⟨ps4, rs4, f4⟩ else bif Nat.beq g 5 then some ⟨ps5, rs5, f5⟩ else bif Nat.beq g 6 then some ⟨ps6, rs6, f6⟩ else bif Nat.beq g 7 then some ⟨ps7, rs7, f7⟩ else bif Nat.beq g 8 then some ⟨ps8, rs8, f8⟩ else bif Nat.beq g 9 then some ⟨ps9, rs9, f9⟩ else none
theorem hH3 : ∀ g h, H3 g = some h → Con Tryd.prog env g h := hH_cons con4 (hH_cons con5 (hH_cons con6 (hH_cons con7 (hH_cons con8 (hH_cons con9 hH_nil)))))
theorem con3 : Con Tryd.prog env 3 ⟨ps3, rs3, f3⟩ :=
  con_of (T := []) (H := H3) (n := 28) (c := code3) envOk hH3 Tryd.func3 (by kernel_rfl) (by kernel_rfl) (by kernel_rfl) (by kernel_rfl)
    (ok_nil) (by kernel_rfl) (fun x => by kernel_rfl)
end Go.Ev.L3
