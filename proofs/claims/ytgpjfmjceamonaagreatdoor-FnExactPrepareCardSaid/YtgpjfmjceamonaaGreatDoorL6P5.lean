/-
 Prepare: contracts (printed by g5.py).
-/
import Derived.Test.YtgpjfmjceamonaaGreatDoorL6P4
namespace Go.Ev.L6
open Go.Proofs
noncomputable def code133 : Code := Tryz.f133.body.getD .skip
def H133 : Nat → Option FH := fun _ => none
theorem hH133 : ∀ g h, H133 g = some h → Con Tryz.prog env g h := fun g h hh => by cases hh
noncomputable def c133_40 : Code := inner (at' code133 40)
noncomputable def c133_8 : Code := inner (at' code133 8)
noncomputable def p133_8 : Pc := ⟨8, sh133_8, outs133_8, loopF f133_8⟩
theorem occ133_8 : occ code133 8 = [.loop c133_8] := by kernel_rfl
theorem ok133_8 : PcOk Tryz.prog env 0 50 p133_8 (.loop c133_8) :=
 loop_ok (T := []) (H := H133) envOk hH133 (ok_nil) (by kernel_rfl) (fun x => by kernel_rfl)
noncomputable def p133_40 : Pc := ⟨40, sh133_40, outs133_40, loopF f133_40⟩
theorem occ133_40 : occ code133 40 = [.loop c133_40] := by kernel_rfl
theorem ok133_40 : PcOk Tryz.prog env 0 50 p133_40 (.loop c133_40) :=
 loop_ok (T := []) (H := H133) envOk hH133 (ok_nil) (by kernel_rfl) (fun x => by kernel_rfl)
theorem con133 : Con Tryz.prog env 133 ⟨ps133, rs133, f133⟩ :=
 con_of (T := [p133_8, p133_40]) (H := H133) (n := 50) (c := code133) envOk hH133 Tryz.func133 (by kernel_rfl) (by kernel_rfl) (by kernel_rfl) (by kernel_rfl)
  (ok_of (ok_one occ133_8 ok133_8 (ok_one occ133_40 ok133_40 ok_end))) (by kernel_rfl) (fun x => by kernel_rfl)
noncomputable def code174 : Code := Tryz.f174.body.getD .skip
def H174 : Nat → Option FH := fun _ => none
theorem hH174 : ∀ g h, H174 g = some h → Con Tryz.prog env g h := fun g h hh => by cases hh
theorem con174 : Con Tryz.prog env 174 ⟨ps174, rs174, f174⟩ :=
 con_of (T := []) (H := H174) (n := 48) (c := code174) envOk hH174 Tryz.func174 (by kernel_rfl) (by kernel_rfl) (by kernel_rfl) (by kernel_rfl)
  (ok_nil) (by kernel_rfl) (fun x => by kernel_rfl)
noncomputable def code134 : Code := Tryz.f134.body.getD .skip
noncomputable def H134 : Nat → Option FH := fun g => bif Nat.beq g 174 then some ⟨ps174, rs174, f174⟩ else none
theorem hH134 : ∀ g h, H134 g = some h → Con Tryz.prog env g h := hH_cons con174 hH_nil
noncomputable def c134_8 : Code := inner (at' code134 8)
noncomputable def c134_28 : Code := inner (at' c134_8 28)
noncomputable def p134_28 : Pc := ⟨28, sh134_28, outs134_28, loopF f134_28⟩
theorem occ134_28 : occ c134_8 28 = [.loop c134_28] := by kernel_rfl
theorem ok134_28 : PcOk Tryz.prog env 0 68 p134_28 (.loop c134_28) :=
 loop_ok (T := []) (H := H134) envOk hH134 (ok_nil) (by kernel_rfl) (fun x => by kernel_rfl)
noncomputable def p134_8 : Pc := ⟨8, sh134_8, outs134_8, loopF f134_8⟩
theorem occ134_8 : occ code134 8 = [.loop c134_8] := by kernel_rfl
theorem ok134_8 : PcOk Tryz.prog env 0 68 p134_8 (.loop c134_8) :=
 loop_ok (T := [p134_28]) (H := H134) envOk hH134 (ok_of (ok_one occ134_28 ok134_28 ok_end)) (by kernel_rfl) (fun x => by kernel_rfl)
theorem con134 : Con Tryz.prog env 134 ⟨ps134, rs134, f134⟩ :=
 con_of (T := [p134_8]) (H := H134) (n := 68) (c := code134) envOk hH134 Tryz.func134 (by kernel_rfl) (by kernel_rfl) (by kernel_rfl) (by kernel_rfl)
  (ok_of (ok_one occ134_8 ok134_8 ok_end)) (by kernel_rfl) (fun x => by kernel_rfl)
noncomputable def code68 : Code := Tryz.f68.body.getD .skip
noncomputable def H68 : Nat → Option FH := fun g => bif Nat.beq g 131 then some ⟨ps131, rs131, f131⟩ else bif Nat.beq g 132 then some ⟨ps132, rs132, f132⟩ else bif Nat.beq g 133 then some ⟨ps133, rs133, f133⟩ else bif Nat.beq g 134 then some ⟨ps134, rs134, f134⟩ else none
theorem hH68 : ∀ g h, H68 g = some h → Con Tryz.prog env g h := hH_cons con131 (hH_cons con132 (hH_cons con133 (hH_cons con134 hH_nil)))
noncomputable def c68_60 : Code := inner (at' code68 60)
noncomputable def c68_96 : Code := inner (at' c68_60 96)
noncomputable def c68_20 : Code := inner (at' code68 20)
noncomputable def p68_20 : Pc := ⟨20, sh68_20, outs68_20, loopF f68_20⟩
theorem occ68_20 : occ code68 20 = [.loop c68_20] := by kernel_rfl
theorem ok68_20 : PcOk Tryz.prog env 0 137 p68_20 (.loop c68_20) :=
 loop_ok (T := []) (H := H68) envOk hH68 (ok_nil) (by kernel_rfl) (fun x => by kernel_rfl)
noncomputable def p68_96 : Pc := ⟨96, sh68_96, outs68_96, loopF f68_96⟩
theorem occ68_96 : occ c68_60 96 = [.loop c68_96] := by kernel_rfl
theorem ok68_96 : PcOk Tryz.prog env 0 137 p68_96 (.loop c68_96) :=
 loop_ok (T := []) (H := H68) envOk hH68 (ok_nil) (by kernel_rfl) (fun x => by kernel_rfl)
noncomputable def p68_60 : Pc := ⟨60, sh68_60, outs68_60, loopF f68_60⟩
theorem occ68_60 : occ code68 60 = [.loop c68_60] := by kernel_rfl
theorem ok68_60 : PcOk Tryz.prog env 0 137 p68_60 (.loop c68_60) :=
 loop_ok (T := [p68_96]) (H := H68) envOk hH68 (ok_of (ok_one occ68_96 ok68_96 ok_end)) (by kernel_rfl) (fun x => by kernel_rfl)
theorem con68 : Con Tryz.prog env 68 ⟨ps68, rs68, f68⟩ :=
 con_of (T := [p68_20, p68_60]) (H := H68) (n := 137) (c := code68) envOk hH68 Tryz.func68 (by kernel_rfl) (by kernel_rfl) (by kernel_rfl) (by kernel_rfl)
  (ok_of (ok_one occ68_20 ok68_20 (ok_one occ68_60 ok68_60 ok_end))) (by kernel_rfl) (fun x => by kernel_rfl)
noncomputable def code27 : Code := Tryz.f27.body.getD .skip
noncomputable def H27 : Nat → Option FH := fun g => bif Nat.beq g 67 then some ⟨ps67, rs67, f67⟩ else bif Nat.beq g 68 then some ⟨ps68, rs68, f68⟩ else none
theorem hH27 : ∀ g h, H27 g = some h → Con Tryz.prog env g h := hH_cons con67 (hH_cons con68 hH_nil)
noncomputable def c27_20 : Code := inner (at' code27 20)
noncomputable def p27_20 : Pc := ⟨20, sh27_20, outs27_20, loopF f27_20⟩
theorem occ27_20 : occ code27 20 = [.loop c27_20] := by kernel_rfl
theorem ok27_20 : PcOk Tryz.prog env 0 35 p27_20 (.loop c27_20) :=
 loop_ok (T := []) (H := H27) envOk hH27 (ok_nil) (by kernel_rfl) (fun x => by kernel_rfl)
theorem con27 : Con Tryz.prog env 27 ⟨ps27, rs27, f27⟩ :=
 con_of (T := [p27_20]) (H := H27) (n := 35) (c := code27) envOk hH27 Tryz.func27 (by kernel_rfl) (by kernel_rfl) (by kernel_rfl) (by kernel_rfl)
  (ok_of (ok_one occ27_20 ok27_20 ok_end)) (by kernel_rfl) (fun x => by kernel_rfl)
noncomputable def code69 : Code := Tryz.f69.body.getD .skip
def H69 : Nat → Option FH := fun _ => none
theorem hH69 : ∀ g h, H69 g = some h → Con Tryz.prog env g h := fun g h hh => by cases hh
theorem con69 : Con Tryz.prog env 69 ⟨ps69, rs69, f69⟩ :=
 con_of (T := []) (H := H69) (n := 14) (c := code69) envOk hH69 Tryz.func69 (by kernel_rfl) (by kernel_rfl) (by kernel_rfl) (by kernel_rfl)
  (ok_nil) (by kernel_rfl) (fun x => by kernel_rfl)
noncomputable def code28 : Code := Tryz.f28.body.getD .skip
noncomputable def H28 : Nat → Option FH := fun g => bif Nat.beq g 69 then some ⟨ps69, rs69, f69⟩ else none
theorem hH28 : ∀ g h, H28 g = some h → Con Tryz.prog env g h := hH_cons con69 hH_nil
noncomputable def c28_61 : Code := (at' code28 61)
noncomputable def c28_81 : Code := (at' c28_61 81)
noncomputable def c28_89 : Code := (at' c28_81 89)
noncomputable def c28_97 : Code := (at' c28_89 97)
noncomputable def c28_17 : Code := (at' code28 17)
noncomputable def c28_20 : Code := inner (at' c28_17 20)
noncomputable def p28_20 : Pc := ⟨20, sh28_20, outs28_20, loopF f28_20⟩
theorem occ28_20 : occ c28_17 20 = [.loop c28_20] := by kernel_rfl
theorem ok28_20 : PcOk Tryz.prog env 3 246 p28_20 (.loop c28_20) :=
 loop_ok (T := []) (H := H28) envOk hH28 (ok_nil) (by kernel_rfl) (fun x => by kernel_rfl)
noncomputable def p28_17 : Pc := ⟨17, sh28_17, outs28_17, f28_17⟩
theorem occ28_17 : occ code28 17 = [c28_17] := by kernel_rfl
theorem ok28_17 : PcOk Tryz.prog env 3 246 p28_17 (c28_17) :=
 piece_ok (T := [p28_20]) (H := H28) envOk hH28 (ok_of (ok_one occ28_20 ok28_20 ok_end)) (by kernel_rfl) (fun x => by kernel_rfl)
noncomputable def p28_97 : Pc := ⟨97, sh28_97, outs28_97, f28_97⟩
theorem occ28_97 : occ c28_89 97 = [c28_97] := by kernel_rfl
theorem ok28_97 : PcOk Tryz.prog env 3 246 p28_97 (c28_97) :=
 piece_ok (T := []) (H := H28) envOk hH28 (ok_nil) (by kernel_rfl) (fun x => by kernel_rfl)
noncomputable def p28_89 : Pc := ⟨89, sh28_89, outs28_89, f28_89⟩
theorem occ28_89 : occ c28_81 89 = [c28_89] := by kernel_rfl
theorem ok28_89 : PcOk Tryz.prog env 3 246 p28_89 (c28_89) :=
 piece_ok (T := [p28_97]) (H := H28) envOk hH28 (ok_of (ok_one occ28_97 ok28_97 ok_end)) (by kernel_rfl) (fun x => by kernel_rfl)
noncomputable def p28_81 : Pc := ⟨81, sh28_81, outs28_81, f28_81⟩
theorem occ28_81 : occ c28_61 81 = [c28_81] := by kernel_rfl
theorem ok28_81 : PcOk Tryz.prog env 3 246 p28_81 (c28_81) :=
 piece_ok (T := [p28_89]) (H := H28) envOk hH28 (ok_of (ok_one occ28_89 ok28_89 ok_end)) (by kernel_rfl) (fun x => by kernel_rfl)
noncomputable def p28_61 : Pc := ⟨61, sh28_61, outs28_61, f28_61⟩
theorem occ28_61 : occ code28 61 = [c28_61] := by kernel_rfl
theorem ok28_61 : PcOk Tryz.prog env 3 246 p28_61 (c28_61) :=
 piece_ok (T := [p28_81]) (H := H28) envOk hH28 (ok_of (ok_one occ28_81 ok28_81 ok_end)) (by kernel_rfl) (fun x => by kernel_rfl)
theorem con28 : Con Tryz.prog env 28 ⟨ps28, rs28, f28⟩ :=
 con_of (T := [p28_17, p28_61]) (H := H28) (n := 246) (c := code28) envOk hH28 Tryz.func28 (by kernel_rfl) (by kernel_rfl) (by kernel_rfl) (by kernel_rfl)
  (ok_of (ok_one occ28_17 ok28_17 (ok_one occ28_61 ok28_61 ok_end))) (by kernel_rfl) (fun x => by kernel_rfl)
noncomputable def code8 : Code := Tryz.f8.body.getD .skip
noncomputable def H8 : Nat → Option FH := fun g => bif Nat.beq g 27 then some ⟨ps27, rs27, f27⟩ else bif Nat.beq g 28 then some ⟨ps28, rs28, f28⟩ else none
theorem hH8 : ∀ g h, H8 g = some h → Con Tryz.prog envD g h := hH_cons con27 (hH_cons con28 hH_nil)
noncomputable def c8_20 : Code := inner (at' code8 20)
noncomputable def c8_36 : Code := inner (at' c8_20 36)
noncomputable def p8_36 : Pc := ⟨36, sh8_36, outs8_36, loopF f8_36⟩
theorem occ8_36 : occ c8_20 36 = [.loop c8_36] := by kernel_rfl
theorem ok8_36 : PcOk Tryz.prog envD 0 44 p8_36 (.loop c8_36) :=
 loop_ok (T := []) (H := H8) envOkD hH8 (ok_nil) (by kernel_rfl) (fun x => by kernel_rfl)
noncomputable def p8_20 : Pc := ⟨20, sh8_20, outs8_20, loopF f8_20⟩
theorem occ8_20 : occ code8 20 = [.loop c8_20] := by kernel_rfl
theorem ok8_20 : PcOk Tryz.prog envD 0 44 p8_20 (.loop c8_20) :=
 loop_ok (T := [p8_36]) (H := H8) envOkD hH8 (ok_of (ok_one occ8_36 ok8_36 ok_end)) (by kernel_rfl) (fun x => by kernel_rfl)
theorem con8 : Con Tryz.prog envD 8 ⟨ps8, rs8, f8⟩ :=
 con_of (T := [p8_20]) (H := H8) (n := 44) (c := code8) envOkD hH8 Tryz.func8 (by kernel_rfl) (by kernel_rfl) (by kernel_rfl) (by kernel_rfl)
  (ok_of (ok_one occ8_20 ok8_20 ok_end)) (by kernel_rfl) (fun x => by kernel_rfl)
noncomputable def code175 : Code := Tryz.f175.body.getD .skip
def H175 : Nat → Option FH := fun _ => none
theorem hH175 : ∀ g h, H175 g = some h → Con Tryz.prog env g h := fun g h hh => by cases hh
theorem con175 : Con Tryz.prog env 175 ⟨ps175, rs175, f175⟩ :=
 con_of (T := []) (H := H175) (n := 40) (c := code175) envOk hH175 Tryz.func175 (by kernel_rfl) (by kernel_rfl) (by kernel_rfl) (by kernel_rfl)
  (ok_nil) (by kernel_rfl) (fun x => by kernel_rfl)
noncomputable def code135 : Code := Tryz.f135.body.getD .skip
noncomputable def H135 : Nat → Option FH := fun g => bif Nat.beq g 175 then some ⟨ps175, rs175, f175⟩ else none
theorem hH135 : ∀ g h, H135 g = some h → Con Tryz.prog env g h := hH_cons con175 hH_nil
noncomputable def c135_16 : Code := inner (at' code135 16)
noncomputable def p135_16 : Pc := ⟨16, sh135_16, outs135_16, loopF f135_16⟩
theorem occ135_16 : occ code135 16 = [.loop c135_16] := by kernel_rfl
theorem ok135_16 : PcOk Tryz.prog env 0 27 p135_16 (.loop c135_16) :=
 loop_ok (T := []) (H := H135) envOk hH135 (ok_nil) (by kernel_rfl) (fun x => by kernel_rfl)
theorem con135 : Con Tryz.prog env 135 ⟨ps135, rs135, f135⟩ :=
 con_of (T := [p135_16]) (H := H135) (n := 27) (c := code135) envOk hH135 Tryz.func135 (by kernel_rfl) (by kernel_rfl) (by kernel_rfl) (by kernel_rfl)
  (ok_of (ok_one occ135_16 ok135_16 ok_end)) (by kernel_rfl) (fun x => by kernel_rfl)
noncomputable def code70 : Code := Tryz.f70.body.getD .skip
noncomputable def H70 : Nat → Option FH := fun g => bif Nat.beq g 135 then some ⟨ps135, rs135, f135⟩ else none
theorem hH70 : ∀ g h, H70 g = some h → Con Tryz.prog env g h := hH_cons con135 hH_nil
theorem con70 : Con Tryz.prog env 70 ⟨ps70, rs70, f70⟩ :=
 con_of (T := []) (H := H70) (n := 11) (c := code70) envOk hH70 Tryz.func70 (by kernel_rfl) (by kernel_rfl) (by kernel_rfl) (by kernel_rfl)
  (ok_nil) (by kernel_rfl) (fun x => by kernel_rfl)
end Go.Ev.L6
