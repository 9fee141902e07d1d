/-
 Prepare: contracts (printed by g5.py).
-/
import Derived.Test.YtgpjfmjceamonaaGreatDoorL6P2
namespace Go.Ev.L6
open Go.Proofs
noncomputable def code165 : Code := Tryz.f165.body.getD .skip
def H165 : Nat → Option FH := fun _ => none
theorem hH165 : ∀ g h, H165 g = some h → Con Tryz.prog envD g h := fun g h hh => by cases hh
theorem con165 : Con Tryz.prog envD 165 ⟨ps165, rs165, f165⟩ :=
 con_of (T := []) (H := H165) (n := 20) (c := code165) envOkD hH165 Tryz.func165 (by kernel_rfl) (by kernel_rfl) (by kernel_rfl) (by kernel_rfl)
  (ok_nil) (by kernel_rfl) (fun x => by kernel_rfl)
noncomputable def code124 : Code := Tryz.f124.body.getD .skip
noncomputable def H124 : Nat → Option FH := fun g => bif Nat.beq g 165 then some ⟨ps165, rs165, f165⟩ else none
theorem hH124 : ∀ g h, H124 g = some h → Con Tryz.prog envD g h := hH_cons con165 hH_nil
noncomputable def c124_12 : Code := inner (at' code124 12)
noncomputable def p124_12 : Pc := ⟨12, sh124_12, outs124_12, loopF f124_12⟩
theorem occ124_12 : occ code124 12 = [.loop c124_12] := by kernel_rfl
theorem ok124_12 : PcOk Tryz.prog envD 0 23 p124_12 (.loop c124_12) :=
 loop_ok (T := []) (H := H124) envOkD hH124 (ok_nil) (by kernel_rfl) (fun x => by kernel_rfl)
theorem con124 : Con Tryz.prog envD 124 ⟨ps124, rs124, f124⟩ :=
 con_of (T := [p124_12]) (H := H124) (n := 23) (c := code124) envOkD hH124 Tryz.func124 (by kernel_rfl) (by kernel_rfl) (by kernel_rfl) (by kernel_rfl)
  (ok_of (ok_one occ124_12 ok124_12 ok_end)) (by kernel_rfl) (fun x => by kernel_rfl)
noncomputable def code166 : Code := Tryz.f166.body.getD .skip
def H166 : Nat → Option FH := fun _ => none
theorem hH166 : ∀ g h, H166 g = some h → Con Tryz.prog envD g h := fun g h hh => by cases hh
theorem con166 : Con Tryz.prog envD 166 ⟨ps166, rs166, f166⟩ :=
 con_of (T := []) (H := H166) (n := 17) (c := code166) envOkD hH166 Tryz.func166 (by kernel_rfl) (by kernel_rfl) (by kernel_rfl) (by kernel_rfl)
  (ok_nil) (by kernel_rfl) (fun x => by kernel_rfl)
noncomputable def code125 : Code := Tryz.f125.body.getD .skip
noncomputable def H125 : Nat → Option FH := fun g => bif Nat.beq g 166 then some ⟨ps166, rs166, f166⟩ else none
theorem hH125 : ∀ g h, H125 g = some h → Con Tryz.prog envD g h := hH_cons con166 hH_nil
noncomputable def c125_12 : Code := inner (at' code125 12)
noncomputable def p125_12 : Pc := ⟨12, sh125_12, outs125_12, loopF f125_12⟩
theorem occ125_12 : occ code125 12 = [.loop c125_12] := by kernel_rfl
theorem ok125_12 : PcOk Tryz.prog envD 0 23 p125_12 (.loop c125_12) :=
 loop_ok (T := []) (H := H125) envOkD hH125 (ok_nil) (by kernel_rfl) (fun x => by kernel_rfl)
theorem con125 : Con Tryz.prog envD 125 ⟨ps125, rs125, f125⟩ :=
 con_of (T := [p125_12]) (H := H125) (n := 23) (c := code125) envOkD hH125 Tryz.func125 (by kernel_rfl) (by kernel_rfl) (by kernel_rfl) (by kernel_rfl)
  (ok_of (ok_one occ125_12 ok125_12 ok_end)) (by kernel_rfl) (fun x => by kernel_rfl)
noncomputable def code66 : Code := Tryz.f66.body.getD .skip
noncomputable def H66 : Nat → Option FH := fun g => bif Nat.beq g 122 then some ⟨ps122, rs122, f122⟩ else bif Nat.beq g 123 then some ⟨ps123, rs123, f123⟩ else bif Nat.beq g 124 then some ⟨ps124, rs124, f124⟩ else bif Nat.beq g 125 then some ⟨ps125, rs125, f125⟩ else none
theorem hH66 : ∀ g h, H66 g = some h → Con Tryz.prog envD g h := hH_cons con122 (hH_cons con123 (hH_cons con124 (hH_cons con125 hH_nil)))
theorem con66 : Con Tryz.prog envD 66 ⟨ps66, rs66, f66⟩ :=
 con_of (T := []) (H := H66) (n := 36) (c := code66) envOkD hH66 Tryz.func66 (by kernel_rfl) (by kernel_rfl) (by kernel_rfl) (by kernel_rfl)
  (ok_nil) (by kernel_rfl) (fun x => by kernel_rfl)
noncomputable def code26 : Code := Tryz.f26.body.getD .skip
noncomputable def H26 : Nat → Option FH := fun g => bif Nat.beq g 66 then some ⟨ps66, rs66, f66⟩ else none
theorem hH26 : ∀ g h, H26 g = some h → Con Tryz.prog envD g h := hH_cons con66 hH_nil
noncomputable def c26_12 : Code := inner (at' code26 12)
noncomputable def p26_12 : Pc := ⟨12, sh26_12, outs26_12, loopF f26_12⟩
theorem occ26_12 : occ code26 12 = [.loop c26_12] := by kernel_rfl
theorem ok26_12 : PcOk Tryz.prog envD 0 23 p26_12 (.loop c26_12) :=
 loop_ok (T := []) (H := H26) envOkD hH26 (ok_nil) (by kernel_rfl) (fun x => by kernel_rfl)
theorem con26 : Con Tryz.prog envD 26 ⟨ps26, rs26, f26⟩ :=
 con_of (T := [p26_12]) (H := H26) (n := 23) (c := code26) envOkD hH26 Tryz.func26 (by kernel_rfl) (by kernel_rfl) (by kernel_rfl) (by kernel_rfl)
  (ok_of (ok_one occ26_12 ok26_12 ok_end)) (by kernel_rfl) (fun x => by kernel_rfl)
noncomputable def code7 : Code := Tryz.f7.body.getD .skip
noncomputable def H7 : Nat → Option FH := fun g => bif Nat.beq g 26 then some ⟨ps26, rs26, f26⟩ else none
theorem hH7 : ∀ g h, H7 g = some h → Con Tryz.prog envD g h := hH_cons con26 hH_nil
theorem con7 : Con Tryz.prog envD 7 ⟨ps7, rs7, f7⟩ :=
 con_of (T := []) (H := H7) (n := 9) (c := code7) envOkD hH7 Tryz.func7 (by kernel_rfl) (by kernel_rfl) (by kernel_rfl) (by kernel_rfl)
  (ok_nil) (by kernel_rfl) (fun x => by kernel_rfl)
noncomputable def code126 : Code := Tryz.f126.body.getD .skip
def H126 : Nat → Option FH := fun _ => none
theorem hH126 : ∀ g h, H126 g = some h → Con Tryz.prog env g h := fun g h hh => by cases hh
theorem con126 : Con Tryz.prog env 126 ⟨ps126, rs126, f126⟩ :=
 con_of (T := []) (H := H126) (n := 15) (c := code126) envOk hH126 Tryz.func126 (by kernel_rfl) (by kernel_rfl) (by kernel_rfl) (by kernel_rfl)
  (ok_nil) (by kernel_rfl) (fun x => by kernel_rfl)
noncomputable def code167 : Code := Tryz.f167.body.getD .skip
def H167 : Nat → Option FH := fun _ => none
theorem hH167 : ∀ g h, H167 g = some h → Con Tryz.prog env g h := fun g h hh => by cases hh
theorem con167 : Con Tryz.prog env 167 ⟨ps167, rs167, f167⟩ :=
 con_of (T := []) (H := H167) (n := 41) (c := code167) envOk hH167 Tryz.func167 (by kernel_rfl) (by kernel_rfl) (by kernel_rfl) (by kernel_rfl)
  (ok_nil) (by kernel_rfl) (fun x => by kernel_rfl)
noncomputable def code127 : Code := Tryz.f127.body.getD .skip
noncomputable def H127 : Nat → Option FH := fun g => bif Nat.beq g 167 then some ⟨ps167, rs167, f167⟩ else none
theorem hH127 : ∀ g h, H127 g = some h → Con Tryz.prog env g h := hH_cons con167 hH_nil
theorem con127 : Con Tryz.prog env 127 ⟨ps127, rs127, f127⟩ :=
 con_of (T := []) (H := H127) (n := 66) (c := code127) envOk hH127 Tryz.func127 (by kernel_rfl) (by kernel_rfl) (by kernel_rfl) (by kernel_rfl)
  (ok_nil) (by kernel_rfl) (fun x => by kernel_rfl)
noncomputable def code128 : Code := Tryz.f128.body.getD .skip
def H128 : Nat → Option FH := fun _ => none
theorem hH128 : ∀ g h, H128 g = some h → Con Tryz.prog env g h := fun g h hh => by cases hh
theorem con128 : Con Tryz.prog env 128 ⟨ps128, rs128, f128⟩ :=
 con_of (T := []) (H := H128) (n := 6) (c := code128) envOk hH128 Tryz.func128 (by kernel_rfl) (by kernel_rfl) (by kernel_rfl) (by kernel_rfl)
  (ok_nil) (by kernel_rfl) (fun x => by kernel_rfl)
noncomputable def code169 : Code := Tryz.f169.body.getD .skip
def H169 : Nat → Option FH := fun _ => none
theorem hH169 : ∀ g h, H169 g = some h → Con Tryz.prog env g h := fun g h hh => by cases hh
theorem con169 : Con Tryz.prog env 169 ⟨ps169, rs169, f169⟩ :=
 con_of (T := []) (H := H169) (n := 12) (c := code169) envOk hH169 Tryz.func169 (by kernel_rfl) (by kernel_rfl) (by kernel_rfl) (by kernel_rfl)
  (ok_nil) (by kernel_rfl) (fun x => by kernel_rfl)
noncomputable def code170 : Code := Tryz.f170.body.getD .skip
noncomputable def H170 : Nat → Option FH := fun g => bif Nat.beq g 126 then some ⟨ps126, rs126, f126⟩ else none
theorem hH170 : ∀ g h, H170 g = some h → Con Tryz.prog env g h := hH_cons con126 hH_nil
theorem con170 : Con Tryz.prog env 170 ⟨ps170, rs170, f170⟩ :=
 con_of (T := []) (H := H170) (n := 114) (c := code170) envOk hH170 Tryz.func170 (by kernel_rfl) (by kernel_rfl) (by kernel_rfl) (by kernel_rfl)
  (ok_nil) (by kernel_rfl) (fun x => by kernel_rfl)
noncomputable def code130 : Code := Tryz.f130.body.getD .skip
noncomputable def H130 : Nat → Option FH := fun g => bif Nat.beq g 169 then some ⟨ps169, rs169, f169⟩ else bif Nat.beq g 170 then some ⟨ps170, rs170, f170⟩ else none
theorem hH130 : ∀ g h, H130 g = some h → Con Tryz.prog env g h := hH_cons con169 (hH_cons con170 hH_nil)
noncomputable def c130_20 : Code := inner (at' code130 20)
noncomputable def p130_20 : Pc := ⟨20, sh130_20, outs130_20, loopF f130_20⟩
theorem occ130_20 : occ code130 20 = [.loop c130_20] := by kernel_rfl
theorem ok130_20 : PcOk Tryz.prog env 0 35 p130_20 (.loop c130_20) :=
 loop_ok (T := []) (H := H130) envOk hH130 (ok_nil) (by kernel_rfl) (fun x => by kernel_rfl)
theorem con130 : Con Tryz.prog env 130 ⟨ps130, rs130, f130⟩ :=
 con_of (T := [p130_20]) (H := H130) (n := 35) (c := code130) envOk hH130 Tryz.func130 (by kernel_rfl) (by kernel_rfl) (by kernel_rfl) (by kernel_rfl)
  (ok_of (ok_one occ130_20 ok130_20 ok_end)) (by kernel_rfl) (fun x => by kernel_rfl)
noncomputable def code67 : Code := Tryz.f67.body.getD .skip
noncomputable def H67 : Nat → Option FH := fun g => bif Nat.beq g 126 then some ⟨ps126, rs126, f126⟩ else bif Nat.beq g 127 then some ⟨ps127, rs127, f127⟩ else bif Nat.beq g 128 then some ⟨ps128, rs128, f128⟩ else bif Nat.beq g 129 then some ⟨ps129, rs129, f129⟩ else bif Nat.beq g 130 then some ⟨ps130, rs130, f130⟩ else none
theorem hH67 : ∀ g h, H67 g = some h → Con Tryz.prog env g h := hH_cons con126 (hH_cons con127 (hH_cons con128 (hH_cons con129 (hH_cons con130 hH_nil))))
noncomputable def c67_284 : Code := inner (at' code67 284)
noncomputable def c67_208 : Code := inner (at' code67 208)
noncomputable def c67_220 : Code := inner (at' c67_208 220)
noncomputable def c67_244 : Code := inner (at' c67_220 244)
noncomputable def c67_156 : Code := inner (at' code67 156)
noncomputable def c67_176 : Code := inner (at' c67_156 176)
noncomputable def c67_116 : Code := inner (at' code67 116)
noncomputable def c67_128 : Code := inner (at' c67_116 128)
noncomputable def c67_76 : Code := inner (at' code67 76)
noncomputable def c67_88 : Code := inner (at' c67_76 88)
noncomputable def c67_40 : Code := inner (at' code67 40)
noncomputable def c67_12 : Code := inner (at' code67 12)
noncomputable def p67_12 : Pc := ⟨12, sh67_12, outs67_12, loopF f67_12⟩
theorem occ67_12 : occ code67 12 = [.loop c67_12] := by kernel_rfl
theorem ok67_12 : PcOk Tryz.prog env 0 405 p67_12 (.loop c67_12) :=
 loop_ok (T := []) (H := H67) envOk hH67 (ok_nil) (by kernel_rfl) (fun x => by kernel_rfl)
noncomputable def p67_40 : Pc := ⟨40, sh67_40, outs67_40, loopF f67_40⟩
theorem occ67_40 : occ code67 40 = [.loop c67_40] := by kernel_rfl
theorem ok67_40 : PcOk Tryz.prog env 0 405 p67_40 (.loop c67_40) :=
 loop_ok (T := []) (H := H67) envOk hH67 (ok_nil) (by kernel_rfl) (fun x => by kernel_rfl)
noncomputable def p67_88 : Pc := ⟨88, sh67_88, outs67_88, loopF f67_88⟩
theorem occ67_88 : occ c67_76 88 = [.loop c67_88] := by kernel_rfl
theorem ok67_88 : PcOk Tryz.prog env 0 405 p67_88 (.loop c67_88) :=
 loop_ok (T := []) (H := H67) envOk hH67 (ok_nil) (by kernel_rfl) (fun x => by kernel_rfl)
noncomputable def p67_76 : Pc := ⟨76, sh67_76, outs67_76, loopF f67_76⟩
theorem occ67_76 : occ code67 76 = [.loop c67_76] := by kernel_rfl
theorem ok67_76 : PcOk Tryz.prog env 0 405 p67_76 (.loop c67_76) :=
 loop_ok (T := [p67_88]) (H := H67) envOk hH67 (ok_of (ok_one occ67_88 ok67_88 ok_end)) (by kernel_rfl) (fun x => by kernel_rfl)
noncomputable def p67_128 : Pc := ⟨128, sh67_128, outs67_128, loopF f67_128⟩
theorem occ67_128 : occ c67_116 128 = [.loop c67_128] := by kernel_rfl
theorem ok67_128 : PcOk Tryz.prog env 0 405 p67_128 (.loop c67_128) :=
 loop_ok (T := []) (H := H67) envOk hH67 (ok_nil) (by kernel_rfl) (fun x => by kernel_rfl)
noncomputable def p67_116 : Pc := ⟨116, sh67_116, outs67_116, loopF f67_116⟩
theorem occ67_116 : occ code67 116 = [.loop c67_116] := by kernel_rfl
theorem ok67_116 : PcOk Tryz.prog env 0 405 p67_116 (.loop c67_116) :=
 loop_ok (T := [p67_128]) (H := H67) envOk hH67 (ok_of (ok_one occ67_128 ok67_128 ok_end)) (by kernel_rfl) (fun x => by kernel_rfl)
noncomputable def p67_176 : Pc := ⟨176, sh67_176, outs67_176, loopF f67_176⟩
theorem occ67_176 : occ c67_156 176 = [.loop c67_176] := by kernel_rfl
theorem ok67_176 : PcOk Tryz.prog env 0 405 p67_176 (.loop c67_176) :=
 loop_ok (T := []) (H := H67) envOk hH67 (ok_nil) (by kernel_rfl) (fun x => by kernel_rfl)
noncomputable def p67_156 : Pc := ⟨156, sh67_156, outs67_156, loopF f67_156⟩
theorem occ67_156 : occ code67 156 = [.loop c67_156] := by kernel_rfl
theorem ok67_156 : PcOk Tryz.prog env 0 405 p67_156 (.loop c67_156) :=
 loop_ok (T := [p67_176]) (H := H67) envOk hH67 (ok_of (ok_one occ67_176 ok67_176 ok_end)) (by kernel_rfl) (fun x => by kernel_rfl)
noncomputable def p67_244 : Pc := ⟨244, sh67_244, outs67_244, loopF f67_244⟩
theorem occ67_244 : occ c67_220 244 = [.loop c67_244] := by kernel_rfl
theorem ok67_244 : PcOk Tryz.prog env 0 405 p67_244 (.loop c67_244) :=
 loop_ok (T := []) (H := H67) envOk hH67 (ok_nil) (by kernel_rfl) (fun x => by kernel_rfl)
noncomputable def p67_220 : Pc := ⟨220, sh67_220, outs67_220, loopF f67_220⟩
theorem occ67_220 : occ c67_208 220 = [.loop c67_220] := by kernel_rfl
theorem ok67_220 : PcOk Tryz.prog env 0 405 p67_220 (.loop c67_220) :=
 loop_ok (T := [p67_244]) (H := H67) envOk hH67 (ok_of (ok_one occ67_244 ok67_244 ok_end)) (by kernel_rfl) (fun x => by kernel_rfl)
noncomputable def p67_208 : Pc := ⟨208, sh67_208, outs67_208, loopF f67_208⟩
theorem occ67_208 : occ code67 208 = [.loop c67_208] := by kernel_rfl
theorem ok67_208 : PcOk Tryz.prog env 0 405 p67_208 (.loop c67_208) :=
 loop_ok (T := [p67_220]) (H := H67) envOk hH67 (ok_of (ok_one occ67_220 ok67_220 ok_end)) (by kernel_rfl) (fun x => by kernel_rfl)
noncomputable def p67_284 : Pc := ⟨284, sh67_284, outs67_284, loopF f67_284⟩
theorem occ67_284 : occ code67 284 = [.loop c67_284] := by kernel_rfl
theorem ok67_284 : PcOk Tryz.prog env 0 405 p67_284 (.loop c67_284) :=
 loop_ok (T := []) (H := H67) envOk hH67 (ok_nil) (by kernel_rfl) (fun x => by kernel_rfl)
theorem con67 : Con Tryz.prog env 67 ⟨ps67, rs67, f67⟩ :=
 con_of (T := [p67_12, p67_40, p67_76, p67_116, p67_156, p67_208, p67_284]) (H := H67) (n := 405) (c := code67) envOk hH67 Tryz.func67 (by kernel_rfl) (by kernel_rfl) (by kernel_rfl) (by kernel_rfl)
  (ok_of (ok_one occ67_12 ok67_12 (ok_one occ67_40 ok67_40 (ok_one occ67_76 ok67_76 (ok_one occ67_116 ok67_116 (ok_one occ67_156 ok67_156 (ok_one occ67_208 ok67_208 (ok_one occ67_284 ok67_284 ok_end)))))))) (by kernel_rfl) (fun x => by kernel_rfl)
end Go.Ev.L6
