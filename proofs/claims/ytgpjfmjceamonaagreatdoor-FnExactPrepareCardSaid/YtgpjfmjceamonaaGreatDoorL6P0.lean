/-
 Prepare: contracts (printed by g5.py).
-/
import Derived.Test.YtgpjfmjceamonaaGreatDoorL6E
namespace Go.Ev.L6
open Go.Proofs
noncomputable def code106 : Code := Tryz.f106.body.getD .skip
def H106 : Nat → Option FH := fun _ => none
theorem hH106 : ∀ g h, H106 g = some h → Con Tryz.prog env g h := fun g h hh => by cases hh
theorem con106 : Con Tryz.prog env 106 ⟨ps106, rs106, f106⟩ :=
 con_of (T := []) (H := H106) (n := 12) (c := code106) envOk hH106 Tryz.func106 (by kernel_rfl) (by kernel_rfl) (by kernel_rfl) (by kernel_rfl)
  (ok_nil) (by kernel_rfl) (fun x => by kernel_rfl)
noncomputable def code151 : Code := Tryz.f151.body.getD .skip
def H151 : Nat → Option FH := fun _ => none
theorem hH151 : ∀ g h, H151 g = some h → Con Tryz.prog env g h := fun g h hh => by cases hh
theorem con151 : Con Tryz.prog env 151 ⟨ps151, rs151, f151⟩ :=
 con_of (T := []) (H := H151) (n := 13) (c := code151) envOk hH151 Tryz.func151 (by kernel_rfl) (by kernel_rfl) (by kernel_rfl) (by kernel_rfl)
  (ok_nil) (by kernel_rfl) (fun x => by kernel_rfl)
noncomputable def code107 : Code := Tryz.f107.body.getD .skip
noncomputable def H107 : Nat → Option FH := fun g => bif Nat.beq g 151 then some ⟨ps151, rs151, f151⟩ else none
theorem hH107 : ∀ g h, H107 g = some h → Con Tryz.prog env g h := hH_cons con151 hH_nil
noncomputable def c107_20 : Code := inner (at' code107 20)
noncomputable def p107_20 : Pc := ⟨20, sh107_20, outs107_20, loopF f107_20⟩
theorem occ107_20 : occ code107 20 = [.loop c107_20] := by kernel_rfl
theorem ok107_20 : PcOk Tryz.prog env 0 27 p107_20 (.loop c107_20) :=
 loop_ok (T := []) (H := H107) envOk hH107 (ok_nil) (by kernel_rfl) (fun x => by kernel_rfl)
theorem con107 : Con Tryz.prog env 107 ⟨ps107, rs107, f107⟩ :=
 con_of (T := [p107_20]) (H := H107) (n := 27) (c := code107) envOk hH107 Tryz.func107 (by kernel_rfl) (by kernel_rfl) (by kernel_rfl) (by kernel_rfl)
  (ok_of (ok_one occ107_20 ok107_20 ok_end)) (by kernel_rfl) (fun x => by kernel_rfl)
noncomputable def code108 : Code := Tryz.f108.body.getD .skip
def H108 : Nat → Option FH := fun _ => none
theorem hH108 : ∀ g h, H108 g = some h → Con Tryz.prog env g h := fun g h hh => by cases hh
theorem con108 : Con Tryz.prog env 108 ⟨ps108, rs108, f108⟩ :=
 con_of (T := []) (H := H108) (n := 12) (c := code108) envOk hH108 Tryz.func108 (by kernel_rfl) (by kernel_rfl) (by kernel_rfl) (by kernel_rfl)
  (ok_nil) (by kernel_rfl) (fun x => by kernel_rfl)
noncomputable def code152 : Code := Tryz.f152.body.getD .skip
def H152 : Nat → Option FH := fun _ => none
theorem hH152 : ∀ g h, H152 g = some h → Con Tryz.prog env g h := fun g h hh => by cases hh
theorem con152 : Con Tryz.prog env 152 ⟨ps152, rs152, f152⟩ :=
 con_of (T := []) (H := H152) (n := 13) (c := code152) envOk hH152 Tryz.func152 (by kernel_rfl) (by kernel_rfl) (by kernel_rfl) (by kernel_rfl)
  (ok_nil) (by kernel_rfl) (fun x => by kernel_rfl)
noncomputable def code109 : Code := Tryz.f109.body.getD .skip
noncomputable def H109 : Nat → Option FH := fun g => bif Nat.beq g 152 then some ⟨ps152, rs152, f152⟩ else none
theorem hH109 : ∀ g h, H109 g = some h → Con Tryz.prog env g h := hH_cons con152 hH_nil
noncomputable def c109_20 : Code := inner (at' code109 20)
noncomputable def p109_20 : Pc := ⟨20, sh109_20, outs109_20, loopF f109_20⟩
theorem occ109_20 : occ code109 20 = [.loop c109_20] := by kernel_rfl
theorem ok109_20 : PcOk Tryz.prog env 0 27 p109_20 (.loop c109_20) :=
 loop_ok (T := []) (H := H109) envOk hH109 (ok_nil) (by kernel_rfl) (fun x => by kernel_rfl)
theorem con109 : Con Tryz.prog env 109 ⟨ps109, rs109, f109⟩ :=
 con_of (T := [p109_20]) (H := H109) (n := 27) (c := code109) envOk hH109 Tryz.func109 (by kernel_rfl) (by kernel_rfl) (by kernel_rfl) (by kernel_rfl)
  (ok_of (ok_one occ109_20 ok109_20 ok_end)) (by kernel_rfl) (fun x => by kernel_rfl)
noncomputable def code61 : Code := Tryz.f61.body.getD .skip
noncomputable def H61 : Nat → Option FH := fun g => bif Nat.beq g 106 then some ⟨ps106, rs106, f106⟩ else bif Nat.beq g 107 then some ⟨ps107, rs107, f107⟩ else bif Nat.beq g 108 then some ⟨ps108, rs108, f108⟩ else bif Nat.beq g 109 then some ⟨ps109, rs109, f109⟩ else none
theorem hH61 : ∀ g h, H61 g = some h → Con Tryz.prog env g h := hH_cons con106 (hH_cons con107 (hH_cons con108 (hH_cons con109 hH_nil)))
theorem con61 : Con Tryz.prog env 61 ⟨ps61, rs61, f61⟩ :=
 con_of (T := []) (H := H61) (n := 37) (c := code61) envOk hH61 Tryz.func61 (by kernel_rfl) (by kernel_rfl) (by kernel_rfl) (by kernel_rfl)
  (ok_nil) (by kernel_rfl) (fun x => by kernel_rfl)
noncomputable def code23 : Code := Tryz.f23.body.getD .skip
noncomputable def H23 : Nat → Option FH := fun g => bif Nat.beq g 61 then some ⟨ps61, rs61, f61⟩ else none
theorem hH23 : ∀ g h, H23 g = some h → Con Tryz.prog env g h := hH_cons con61 hH_nil
noncomputable def c23_20 : Code := inner (at' code23 20)
noncomputable def p23_20 : Pc := ⟨20, sh23_20, outs23_20, loopF f23_20⟩
theorem occ23_20 : occ code23 20 = [.loop c23_20] := by kernel_rfl
theorem ok23_20 : PcOk Tryz.prog env 0 27 p23_20 (.loop c23_20) :=
 loop_ok (T := []) (H := H23) envOk hH23 (ok_nil) (by kernel_rfl) (fun x => by kernel_rfl)
theorem con23 : Con Tryz.prog env 23 ⟨ps23, rs23, f23⟩ :=
 con_of (T := [p23_20]) (H := H23) (n := 27) (c := code23) envOk hH23 Tryz.func23 (by kernel_rfl) (by kernel_rfl) (by kernel_rfl) (by kernel_rfl)
  (ok_of (ok_one occ23_20 ok23_20 ok_end)) (by kernel_rfl) (fun x => by kernel_rfl)
noncomputable def code5 : Code := Tryz.f5.body.getD .skip
noncomputable def H5 : Nat → Option FH := fun g => bif Nat.beq g 23 then some ⟨ps23, rs23, f23⟩ else none
theorem hH5 : ∀ g h, H5 g = some h → Con Tryz.prog env g h := hH_cons con23 hH_nil
theorem con5 : Con Tryz.prog env 5 ⟨ps5, rs5, f5⟩ :=
 con_of (T := []) (H := H5) (n := 12) (c := code5) envOk hH5 Tryz.func5 (by kernel_rfl) (by kernel_rfl) (by kernel_rfl) (by kernel_rfl)
  (ok_nil) (by kernel_rfl) (fun x => by kernel_rfl)
noncomputable def code112 : Code := Tryz.f112.body.getD .skip
def H112 : Nat → Option FH := fun _ => none
theorem hH112 : ∀ g h, H112 g = some h → Con Tryz.prog env g h := fun g h hh => by cases hh
theorem con112 : Con Tryz.prog env 112 ⟨ps112, rs112, f112⟩ :=
 con_of (T := []) (H := H112) (n := 11) (c := code112) envOk hH112 Tryz.func112 (by kernel_rfl) (by kernel_rfl) (by kernel_rfl) (by kernel_rfl)
  (ok_nil) (by kernel_rfl) (fun x => by kernel_rfl)
noncomputable def code157 : Code := Tryz.f157.body.getD .skip
def H157 : Nat → Option FH := fun _ => none
theorem hH157 : ∀ g h, H157 g = some h → Con Tryz.prog env g h := fun g h hh => by cases hh
theorem con157 : Con Tryz.prog env 157 ⟨ps157, rs157, f157⟩ :=
 con_of (T := []) (H := H157) (n := 15) (c := code157) envOk hH157 Tryz.func157 (by kernel_rfl) (by kernel_rfl) (by kernel_rfl) (by kernel_rfl)
  (ok_nil) (by kernel_rfl) (fun x => by kernel_rfl)
noncomputable def code153 : Code := Tryz.f153.body.getD .skip
noncomputable def H153 : Nat → Option FH := fun g => bif Nat.beq g 157 then some ⟨ps157, rs157, f157⟩ else none
theorem hH153 : ∀ g h, H153 g = some h → Con Tryz.prog env g h := hH_cons con157 hH_nil
theorem con153 : Con Tryz.prog env 153 ⟨ps153, rs153, f153⟩ :=
 con_of (T := []) (H := H153) (n := 67) (c := code153) envOk hH153 Tryz.func153 (by kernel_rfl) (by kernel_rfl) (by kernel_rfl) (by kernel_rfl)
  (ok_nil) (by kernel_rfl) (fun x => by kernel_rfl)
noncomputable def code188 : Code := Tryz.f188.body.getD .skip
def H188 : Nat → Option FH := fun _ => none
theorem hH188 : ∀ g h, H188 g = some h → Con Tryz.prog env g h := fun g h hh => by cases hh
theorem con188 : Con Tryz.prog env 188 ⟨ps188, rs188, f188⟩ :=
 con_of (T := []) (H := H188) (n := 41) (c := code188) envOk hH188 Tryz.func188 (by kernel_rfl) (by kernel_rfl) (by kernel_rfl) (by kernel_rfl)
  (ok_nil) (by kernel_rfl) (fun x => by kernel_rfl)
noncomputable def code183 : Code := Tryz.f183.body.getD .skip
noncomputable def H183 : Nat → Option FH := fun g => bif Nat.beq g 188 then some ⟨ps188, rs188, f188⟩ else none
theorem hH183 : ∀ g h, H183 g = some h → Con Tryz.prog env g h := hH_cons con188 hH_nil
theorem con183 : Con Tryz.prog env 183 ⟨ps183, rs183, f183⟩ :=
 con_of (T := []) (H := H183) (n := 66) (c := code183) envOk hH183 Tryz.func183 (by kernel_rfl) (by kernel_rfl) (by kernel_rfl) (by kernel_rfl)
  (ok_nil) (by kernel_rfl) (fun x => by kernel_rfl)
noncomputable def code154 : Code := Tryz.f154.body.getD .skip
noncomputable def H154 : Nat → Option FH := fun g => bif Nat.beq g 183 then some ⟨ps183, rs183, f183⟩ else none
theorem hH154 : ∀ g h, H154 g = some h → Con Tryz.prog env g h := hH_cons con183 hH_nil
theorem con154 : Con Tryz.prog env 154 ⟨ps154, rs154, f154⟩ :=
 con_of (T := []) (H := H154) (n := 38) (c := code154) envOk hH154 Tryz.func154 (by kernel_rfl) (by kernel_rfl) (by kernel_rfl) (by kernel_rfl)
  (ok_nil) (by kernel_rfl) (fun x => by kernel_rfl)
noncomputable def code155 : Code := Tryz.f155.body.getD .skip
noncomputable def H155 : Nat → Option FH := fun g => bif Nat.beq g 157 then some ⟨ps157, rs157, f157⟩ else none
theorem hH155 : ∀ g h, H155 g = some h → Con Tryz.prog env g h := hH_cons con157 hH_nil
theorem con155 : Con Tryz.prog env 155 ⟨ps155, rs155, f155⟩ :=
 con_of (T := []) (H := H155) (n := 47) (c := code155) envOk hH155 Tryz.func155 (by kernel_rfl) (by kernel_rfl) (by kernel_rfl) (by kernel_rfl)
  (ok_nil) (by kernel_rfl) (fun x => by kernel_rfl)
noncomputable def code159 : Code := Tryz.f159.body.getD .skip
def H159 : Nat → Option FH := fun _ => none
theorem hH159 : ∀ g h, H159 g = some h → Con Tryz.prog env g h := fun g h hh => by cases hh
theorem con159 : Con Tryz.prog env 159 ⟨ps159, rs159, f159⟩ :=
 con_of (T := []) (H := H159) (n := 116) (c := code159) envOk hH159 Tryz.func159 (by kernel_rfl) (by kernel_rfl) (by kernel_rfl) (by kernel_rfl)
  (ok_nil) (by kernel_rfl) (fun x => by kernel_rfl)
noncomputable def code160 : Code := Tryz.f160.body.getD .skip
def H160 : Nat → Option FH := fun _ => none
theorem hH160 : ∀ g h, H160 g = some h → Con Tryz.prog env g h := fun g h hh => by cases hh
theorem con160 : Con Tryz.prog env 160 ⟨ps160, rs160, f160⟩ :=
 con_of (T := []) (H := H160) (n := 12) (c := code160) envOk hH160 Tryz.func160 (by kernel_rfl) (by kernel_rfl) (by kernel_rfl) (by kernel_rfl)
  (ok_nil) (by kernel_rfl) (fun x => by kernel_rfl)
noncomputable def code184 : Code := Tryz.f184.body.getD .skip
noncomputable def H184 : Nat → Option FH := fun g => bif Nat.beq g 157 then some ⟨ps157, rs157, f157⟩ else none
theorem hH184 : ∀ g h, H184 g = some h → Con Tryz.prog env g h := hH_cons con157 hH_nil
theorem con184 : Con Tryz.prog env 184 ⟨ps184, rs184, f184⟩ :=
 con_of (T := []) (H := H184) (n := 119) (c := code184) envOk hH184 Tryz.func184 (by kernel_rfl) (by kernel_rfl) (by kernel_rfl) (by kernel_rfl)
  (ok_nil) (by kernel_rfl) (fun x => by kernel_rfl)
noncomputable def code156 : Code := Tryz.f156.body.getD .skip
noncomputable def H156 : Nat → Option FH := fun g => bif Nat.beq g 159 then some ⟨ps159, rs159, f159⟩ else bif Nat.beq g 160 then some ⟨ps160, rs160, f160⟩ else bif Nat.beq g 184 then some ⟨ps184, rs184, f184⟩ else none
theorem hH156 : ∀ g h, H156 g = some h → Con Tryz.prog env g h := hH_cons con159 (hH_cons con160 (hH_cons con184 hH_nil))
noncomputable def c156_24 : Code := inner (at' code156 24)
noncomputable def p156_24 : Pc := ⟨24, sh156_24, outs156_24, loopF f156_24⟩
theorem occ156_24 : occ code156 24 = [.loop c156_24] := by kernel_rfl
theorem ok156_24 : PcOk Tryz.prog env 0 72 p156_24 (.loop c156_24) :=
 loop_ok (T := []) (H := H156) envOk hH156 (ok_nil) (by kernel_rfl) (fun x => by kernel_rfl)
theorem con156 : Con Tryz.prog env 156 ⟨ps156, rs156, f156⟩ :=
 con_of (T := [p156_24]) (H := H156) (n := 72) (c := code156) envOk hH156 Tryz.func156 (by kernel_rfl) (by kernel_rfl) (by kernel_rfl) (by kernel_rfl)
  (ok_of (ok_one occ156_24 ok156_24 ok_end)) (by kernel_rfl) (fun x => by kernel_rfl)
noncomputable def code110 : Code := Tryz.f110.body.getD .skip
noncomputable def H110 : Nat → Option FH := fun g => bif Nat.beq g 112 then some ⟨ps112, rs112, f112⟩ else bif Nat.beq g 153 then some ⟨ps153, rs153, f153⟩ else bif Nat.beq g 154 then some ⟨ps154, rs154, f154⟩ else bif Nat.beq g 155 then some ⟨ps155, rs155, f155⟩ else bif Nat.beq g 156 then some ⟨ps156, rs156, f156⟩ else none
theorem hH110 : ∀ g h, H110 g = some h → Con Tryz.prog env g h := hH_cons con112 (hH_cons con153 (hH_cons con154 (hH_cons con155 (hH_cons con156 hH_nil))))
noncomputable def c110_144 : Code := inner (at' code110 144)
noncomputable def c110_164 : Code := inner (at' c110_144 164)
noncomputable def c110_104 : Code := inner (at' code110 104)
noncomputable def c110_116 : Code := inner (at' c110_104 116)
noncomputable def c110_64 : Code := inner (at' code110 64)
noncomputable def c110_76 : Code := inner (at' c110_64 76)
noncomputable def c110_40 : Code := inner (at' code110 40)
noncomputable def c110_12 : Code := inner (at' code110 12)
noncomputable def p110_12 : Pc := ⟨12, sh110_12, outs110_12, loopF f110_12⟩
theorem occ110_12 : occ code110 12 = [.loop c110_12] := by kernel_rfl
theorem ok110_12 : PcOk Tryz.prog env 0 136 p110_12 (.loop c110_12) :=
 loop_ok (T := []) (H := H110) envOk hH110 (ok_nil) (by kernel_rfl) (fun x => by kernel_rfl)
noncomputable def p110_40 : Pc := ⟨40, sh110_40, outs110_40, loopF f110_40⟩
theorem occ110_40 : occ code110 40 = [.loop c110_40] := by kernel_rfl
theorem ok110_40 : PcOk Tryz.prog env 0 136 p110_40 (.loop c110_40) :=
 loop_ok (T := []) (H := H110) envOk hH110 (ok_nil) (by kernel_rfl) (fun x => by kernel_rfl)
noncomputable def p110_76 : Pc := ⟨76, sh110_76, outs110_76, loopF f110_76⟩
theorem occ110_76 : occ c110_64 76 = [.loop c110_76] := by kernel_rfl
theorem ok110_76 : PcOk Tryz.prog env 0 136 p110_76 (.loop c110_76) :=
 loop_ok (T := []) (H := H110) envOk hH110 (ok_nil) (by kernel_rfl) (fun x => by kernel_rfl)
noncomputable def p110_64 : Pc := ⟨64, sh110_64, outs110_64, loopF f110_64⟩
theorem occ110_64 : occ code110 64 = [.loop c110_64] := by kernel_rfl
theorem ok110_64 : PcOk Tryz.prog env 0 136 p110_64 (.loop c110_64) :=
 loop_ok (T := [p110_76]) (H := H110) envOk hH110 (ok_of (ok_one occ110_76 ok110_76 ok_end)) (by kernel_rfl) (fun x => by kernel_rfl)
noncomputable def p110_116 : Pc := ⟨116, sh110_116, outs110_116, loopF f110_116⟩
theorem occ110_116 : occ c110_104 116 = [.loop c110_116] := by kernel_rfl
theorem ok110_116 : PcOk Tryz.prog env 0 136 p110_116 (.loop c110_116) :=
 loop_ok (T := []) (H := H110) envOk hH110 (ok_nil) (by kernel_rfl) (fun x => by kernel_rfl)
noncomputable def p110_104 : Pc := ⟨104, sh110_104, outs110_104, loopF f110_104⟩
theorem occ110_104 : occ code110 104 = [.loop c110_104] := by kernel_rfl
theorem ok110_104 : PcOk Tryz.prog env 0 136 p110_104 (.loop c110_104) :=
 loop_ok (T := [p110_116]) (H := H110) envOk hH110 (ok_of (ok_one occ110_116 ok110_116 ok_end)) (by kernel_rfl) (fun x => by kernel_rfl)
noncomputable def p110_164 : Pc := ⟨164, sh110_164, outs110_164, loopF f110_164⟩
theorem occ110_164 : occ c110_144 164 = [.loop c110_164] := by kernel_rfl
theorem ok110_164 : PcOk Tryz.prog env 0 136 p110_164 (.loop c110_164) :=
 loop_ok (T := []) (H := H110) envOk hH110 (ok_nil) (by kernel_rfl) (fun x => by kernel_rfl)
noncomputable def p110_144 : Pc := ⟨144, sh110_144, outs110_144, loopF f110_144⟩
theorem occ110_144 : occ code110 144 = [.loop c110_144] := by kernel_rfl
theorem ok110_144 : PcOk Tryz.prog env 0 136 p110_144 (.loop c110_144) :=
 loop_ok (T := [p110_164]) (H := H110) envOk hH110 (ok_of (ok_one occ110_164 ok110_164 ok_end)) (by kernel_rfl) (fun x => by kernel_rfl)
theorem con110 : Con Tryz.prog env 110 ⟨ps110, rs110, f110⟩ :=
 con_of (T := [p110_12, p110_40, p110_64, p110_104, p110_144]) (H := H110) (n := 136) (c := code110) envOk hH110 Tryz.func110 (by kernel_rfl) (by kernel_rfl) (by kernel_rfl) (by kernel_rfl)
  (ok_of (ok_one occ110_12 ok110_12 (ok_one occ110_40 ok110_40 (ok_one occ110_64 ok110_64 (ok_one occ110_104 ok110_104 (ok_one occ110_144 ok110_144 ok_end)))))) (by kernel_rfl) (fun x => by kernel_rfl)
end Go.Ev.L6
