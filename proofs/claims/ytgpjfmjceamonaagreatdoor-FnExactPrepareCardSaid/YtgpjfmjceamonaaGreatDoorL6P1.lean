/-
 Prepare: contracts (printed by g5.py).
-/
import Derived.Test.YtgpjfmjceamonaaGreatDoorL6P0
namespace Go.Ev.L6
open Go.Proofs
noncomputable def code111 : Code := Tryz.f111.body.getD .skip
noncomputable def H111 : Nat → Option FH := fun g => bif Nat.beq g 157 then some ⟨ps157, rs157, f157⟩ else none
theorem hH111 : ∀ g h, H111 g = some h → Con Tryz.prog env g h := hH_cons con157 hH_nil
noncomputable def c111_8 : Code := inner (at' code111 8)
noncomputable def p111_8 : Pc := ⟨8, sh111_8, outs111_8, loopF f111_8⟩
theorem occ111_8 : occ code111 8 = [.loop c111_8] := by kernel_rfl
theorem ok111_8 : PcOk Tryz.prog env 0 55 p111_8 (.loop c111_8) :=
 loop_ok (T := []) (H := H111) envOk hH111 (ok_nil) (by kernel_rfl) (fun x => by kernel_rfl)
theorem con111 : Con Tryz.prog env 111 ⟨ps111, rs111, f111⟩ :=
 con_of (T := [p111_8]) (H := H111) (n := 55) (c := code111) envOk hH111 Tryz.func111 (by kernel_rfl) (by kernel_rfl) (by kernel_rfl) (by kernel_rfl)
  (ok_of (ok_one occ111_8 ok111_8 ok_end)) (by kernel_rfl) (fun x => by kernel_rfl)
noncomputable def code62 : Code := Tryz.f62.body.getD .skip
noncomputable def H62 : Nat → Option FH := fun g => bif Nat.beq g 110 then some ⟨ps110, rs110, f110⟩ else bif Nat.beq g 111 then some ⟨ps111, rs111, f111⟩ else bif Nat.beq g 112 then some ⟨ps112, rs112, f112⟩ else none
theorem hH62 : ∀ g h, H62 g = some h → Con Tryz.prog env g h := hH_cons con110 (hH_cons con111 (hH_cons con112 hH_nil))
noncomputable def c62_72 : Code := inner (at' code62 72)
noncomputable def c62_24 : Code := inner (at' code62 24)
noncomputable def c62_36 : Code := inner (at' c62_24 36)
noncomputable def p62_36 : Pc := ⟨36, sh62_36, outs62_36, loopF f62_36⟩
theorem occ62_36 : occ c62_24 36 = [.loop c62_36] := by kernel_rfl
theorem ok62_36 : PcOk Tryz.prog env 0 82 p62_36 (.loop c62_36) :=
 loop_ok (T := []) (H := H62) envOk hH62 (ok_nil) (by kernel_rfl) (fun x => by kernel_rfl)
noncomputable def p62_24 : Pc := ⟨24, sh62_24, outs62_24, loopF f62_24⟩
theorem occ62_24 : occ code62 24 = [.loop c62_24] := by kernel_rfl
theorem ok62_24 : PcOk Tryz.prog env 0 82 p62_24 (.loop c62_24) :=
 loop_ok (T := [p62_36]) (H := H62) envOk hH62 (ok_of (ok_one occ62_36 ok62_36 ok_end)) (by kernel_rfl) (fun x => by kernel_rfl)
noncomputable def p62_72 : Pc := ⟨72, sh62_72, outs62_72, loopF f62_72⟩
theorem occ62_72 : occ code62 72 = [.loop c62_72] := by kernel_rfl
theorem ok62_72 : PcOk Tryz.prog env 0 82 p62_72 (.loop c62_72) :=
 loop_ok (T := []) (H := H62) envOk hH62 (ok_nil) (by kernel_rfl) (fun x => by kernel_rfl)
theorem con62 : Con Tryz.prog env 62 ⟨ps62, rs62, f62⟩ :=
 con_of (T := [p62_24, p62_72]) (H := H62) (n := 82) (c := code62) envOk hH62 Tryz.func62 (by kernel_rfl) (by kernel_rfl) (by kernel_rfl) (by kernel_rfl)
  (ok_of (ok_one occ62_24 ok62_24 (ok_one occ62_72 ok62_72 ok_end))) (by kernel_rfl) (fun x => by kernel_rfl)
noncomputable def code158 : Code := Tryz.f158.body.getD .skip
def H158 : Nat → Option FH := fun _ => none
theorem hH158 : ∀ g h, H158 g = some h → Con Tryz.prog env g h := fun g h hh => by cases hh
theorem con158 : Con Tryz.prog env 158 ⟨ps158, rs158, f158⟩ :=
 con_of (T := []) (H := H158) (n := 61) (c := code158) envOk hH158 Tryz.func158 (by kernel_rfl) (by kernel_rfl) (by kernel_rfl) (by kernel_rfl)
  (ok_nil) (by kernel_rfl) (fun x => by kernel_rfl)
noncomputable def code113 : Code := Tryz.f113.body.getD .skip
noncomputable def H113 : Nat → Option FH := fun g => bif Nat.beq g 158 then some ⟨ps158, rs158, f158⟩ else none
theorem hH113 : ∀ g h, H113 g = some h → Con Tryz.prog env g h := hH_cons con158 hH_nil
noncomputable def c113_16 : Code := inner (at' code113 16)
noncomputable def c113_48 : Code := inner (at' c113_16 48)
noncomputable def p113_48 : Pc := ⟨48, sh113_48, outs113_48, loopF f113_48⟩
theorem occ113_48 : occ c113_16 48 = [.loop c113_48] := by kernel_rfl
theorem ok113_48 : PcOk Tryz.prog env 0 52 p113_48 (.loop c113_48) :=
 loop_ok (T := []) (H := H113) envOk hH113 (ok_nil) (by kernel_rfl) (fun x => by kernel_rfl)
noncomputable def p113_16 : Pc := ⟨16, sh113_16, outs113_16, loopF f113_16⟩
theorem occ113_16 : occ code113 16 = [.loop c113_16] := by kernel_rfl
theorem ok113_16 : PcOk Tryz.prog env 0 52 p113_16 (.loop c113_16) :=
 loop_ok (T := [p113_48]) (H := H113) envOk hH113 (ok_of (ok_one occ113_48 ok113_48 ok_end)) (by kernel_rfl) (fun x => by kernel_rfl)
theorem con113 : Con Tryz.prog env 113 ⟨ps113, rs113, f113⟩ :=
 con_of (T := [p113_16]) (H := H113) (n := 52) (c := code113) envOk hH113 Tryz.func113 (by kernel_rfl) (by kernel_rfl) (by kernel_rfl) (by kernel_rfl)
  (ok_of (ok_one occ113_16 ok113_16 ok_end)) (by kernel_rfl) (fun x => by kernel_rfl)
noncomputable def code114 : Code := Tryz.f114.body.getD .skip
def H114 : Nat → Option FH := fun _ => none
theorem hH114 : ∀ g h, H114 g = some h → Con Tryz.prog env g h := fun g h hh => by cases hh
noncomputable def c114_12 : Code := inner (at' code114 12)
noncomputable def p114_12 : Pc := ⟨12, sh114_12, outs114_12, loopF f114_12⟩
theorem occ114_12 : occ code114 12 = [.loop c114_12] := by kernel_rfl
theorem ok114_12 : PcOk Tryz.prog env 0 18 p114_12 (.loop c114_12) :=
 loop_ok (T := []) (H := H114) envOk hH114 (ok_nil) (by kernel_rfl) (fun x => by kernel_rfl)
theorem con114 : Con Tryz.prog env 114 ⟨ps114, rs114, f114⟩ :=
 con_of (T := [p114_12]) (H := H114) (n := 18) (c := code114) envOk hH114 Tryz.func114 (by kernel_rfl) (by kernel_rfl) (by kernel_rfl) (by kernel_rfl)
  (ok_of (ok_one occ114_12 ok114_12 ok_end)) (by kernel_rfl) (fun x => by kernel_rfl)
noncomputable def code161 : Code := Tryz.f161.body.getD .skip
def H161 : Nat → Option FH := fun _ => none
theorem hH161 : ∀ g h, H161 g = some h → Con Tryz.prog env g h := fun g h hh => by cases hh
theorem con161 : Con Tryz.prog env 161 ⟨ps161, rs161, f161⟩ :=
 con_of (T := []) (H := H161) (n := 18) (c := code161) envOk hH161 Tryz.func161 (by kernel_rfl) (by kernel_rfl) (by kernel_rfl) (by kernel_rfl)
  (ok_nil) (by kernel_rfl) (fun x => by kernel_rfl)
noncomputable def code115 : Code := Tryz.f115.body.getD .skip
noncomputable def H115 : Nat → Option FH := fun g => bif Nat.beq g 159 then some ⟨ps159, rs159, f159⟩ else bif Nat.beq g 160 then some ⟨ps160, rs160, f160⟩ else bif Nat.beq g 161 then some ⟨ps161, rs161, f161⟩ else none
theorem hH115 : ∀ g h, H115 g = some h → Con Tryz.prog env g h := hH_cons con159 (hH_cons con160 (hH_cons con161 hH_nil))
noncomputable def c115_168 : Code := inner (at' code115 168)
noncomputable def c115_20 : Code := inner (at' code115 20)
noncomputable def c115_124 : Code := inner (at' c115_20 124)
noncomputable def c115_64 : Code := inner (at' c115_20 64)
noncomputable def p115_64 : Pc := ⟨64, sh115_64, outs115_64, loopF f115_64⟩
theorem occ115_64 : occ c115_20 64 = [.loop c115_64] := by kernel_rfl
theorem ok115_64 : PcOk Tryz.prog env 4 152 p115_64 (.loop c115_64) :=
 loop_ok (T := []) (H := H115) envOk hH115 (ok_nil) (by kernel_rfl) (fun x => by kernel_rfl)
noncomputable def p115_124 : Pc := ⟨124, sh115_124, outs115_124, loopF f115_124⟩
theorem occ115_124 : occ c115_20 124 = [.loop c115_124] := by kernel_rfl
theorem ok115_124 : PcOk Tryz.prog env 4 152 p115_124 (.loop c115_124) :=
 loop_ok (T := []) (H := H115) envOk hH115 (ok_nil) (by kernel_rfl) (fun x => by kernel_rfl)
noncomputable def p115_20 : Pc := ⟨20, sh115_20, outs115_20, loopF f115_20⟩
theorem occ115_20 : occ code115 20 = [.loop c115_20] := by kernel_rfl
theorem ok115_20 : PcOk Tryz.prog env 4 152 p115_20 (.loop c115_20) :=
 loop_ok (T := [p115_64, p115_124]) (H := H115) envOk hH115 (ok_of (ok_one occ115_64 ok115_64 (ok_one occ115_124 ok115_124 ok_end))) (by kernel_rfl) (fun x => by kernel_rfl)
noncomputable def p115_168 : Pc := ⟨168, sh115_168, outs115_168, loopF f115_168⟩
theorem occ115_168 : occ code115 168 = [.loop c115_168] := by kernel_rfl
theorem ok115_168 : PcOk Tryz.prog env 4 152 p115_168 (.loop c115_168) :=
 loop_ok (T := []) (H := H115) envOk hH115 (ok_nil) (by kernel_rfl) (fun x => by kernel_rfl)
theorem con115 : Con Tryz.prog env 115 ⟨ps115, rs115, f115⟩ :=
 con_of (T := [p115_20, p115_168]) (H := H115) (n := 152) (c := code115) envOk hH115 Tryz.func115 (by kernel_rfl) (by kernel_rfl) (by kernel_rfl) (by kernel_rfl)
  (ok_of (ok_one occ115_20 ok115_20 (ok_one occ115_168 ok115_168 ok_end))) (by kernel_rfl) (fun x => by kernel_rfl)
noncomputable def code120 : Code := Tryz.f120.body.getD .skip
def H120 : Nat → Option FH := fun _ => none
theorem hH120 : ∀ g h, H120 g = some h → Con Tryz.prog env g h := fun g h hh => by cases hh
noncomputable def c120_12 : Code := inner (at' code120 12)
noncomputable def p120_12 : Pc := ⟨12, sh120_12, outs120_12, loopF f120_12⟩
theorem occ120_12 : occ code120 12 = [.loop c120_12] := by kernel_rfl
theorem ok120_12 : PcOk Tryz.prog env 0 18 p120_12 (.loop c120_12) :=
 loop_ok (T := []) (H := H120) envOk hH120 (ok_nil) (by kernel_rfl) (fun x => by kernel_rfl)
theorem con120 : Con Tryz.prog env 120 ⟨ps120, rs120, f120⟩ :=
 con_of (T := [p120_12]) (H := H120) (n := 18) (c := code120) envOk hH120 Tryz.func120 (by kernel_rfl) (by kernel_rfl) (by kernel_rfl) (by kernel_rfl)
  (ok_of (ok_one occ120_12 ok120_12 ok_end)) (by kernel_rfl) (fun x => by kernel_rfl)
noncomputable def code162 : Code := Tryz.f162.body.getD .skip
def H162 : Nat → Option FH := fun _ => none
theorem hH162 : ∀ g h, H162 g = some h → Con Tryz.prog env g h := fun g h hh => by cases hh
noncomputable def c162_8 : Code := inner (at' code162 8)
noncomputable def p162_8 : Pc := ⟨8, sh162_8, outs162_8, loopF f162_8⟩
theorem occ162_8 : occ code162 8 = [.loop c162_8] := by kernel_rfl
theorem ok162_8 : PcOk Tryz.prog env 0 22 p162_8 (.loop c162_8) :=
 loop_ok (T := []) (H := H162) envOk hH162 (ok_nil) (by kernel_rfl) (fun x => by kernel_rfl)
theorem con162 : Con Tryz.prog env 162 ⟨ps162, rs162, f162⟩ :=
 con_of (T := [p162_8]) (H := H162) (n := 22) (c := code162) envOk hH162 Tryz.func162 (by kernel_rfl) (by kernel_rfl) (by kernel_rfl) (by kernel_rfl)
  (ok_of (ok_one occ162_8 ok162_8 ok_end)) (by kernel_rfl) (fun x => by kernel_rfl)
noncomputable def code116 : Code := Tryz.f116.body.getD .skip
noncomputable def H116 : Nat → Option FH := fun g => bif Nat.beq g 120 then some ⟨ps120, rs120, f120⟩ else bif Nat.beq g 162 then some ⟨ps162, rs162, f162⟩ else none
theorem hH116 : ∀ g h, H116 g = some h → Con Tryz.prog env g h := hH_cons con120 (hH_cons con162 hH_nil)
theorem con116 : Con Tryz.prog env 116 ⟨ps116, rs116, f116⟩ :=
 con_of (T := []) (H := H116) (n := 109) (c := code116) envOk hH116 Tryz.func116 (by kernel_rfl) (by kernel_rfl) (by kernel_rfl) (by kernel_rfl)
  (ok_nil) (by kernel_rfl) (fun x => by kernel_rfl)
noncomputable def code117 : Code := Tryz.f117.body.getD .skip
noncomputable def H117 : Nat → Option FH := fun g => bif Nat.beq g 159 then some ⟨ps159, rs159, f159⟩ else none
theorem hH117 : ∀ g h, H117 g = some h → Con Tryz.prog env g h := hH_cons con159 hH_nil
theorem con117 : Con Tryz.prog env 117 ⟨ps117, rs117, f117⟩ :=
 con_of (T := []) (H := H117) (n := 51) (c := code117) envOk hH117 Tryz.func117 (by kernel_rfl) (by kernel_rfl) (by kernel_rfl) (by kernel_rfl)
  (ok_nil) (by kernel_rfl) (fun x => by kernel_rfl)
noncomputable def code118 : Code := Tryz.f118.body.getD .skip
def H118 : Nat → Option FH := fun _ => none
theorem hH118 : ∀ g h, H118 g = some h → Con Tryz.prog env g h := fun g h hh => by cases hh
noncomputable def c118_8 : Code := inner (at' code118 8)
noncomputable def c118_52 : Code := inner (at' c118_8 52)
noncomputable def c118_24 : Code := inner (at' c118_8 24)
noncomputable def p118_24 : Pc := ⟨24, sh118_24, outs118_24, loopF f118_24⟩
theorem occ118_24 : occ c118_8 24 = [.loop c118_24] := by kernel_rfl
theorem ok118_24 : PcOk Tryz.prog env 0 63 p118_24 (.loop c118_24) :=
 loop_ok (T := []) (H := H118) envOk hH118 (ok_nil) (by kernel_rfl) (fun x => by kernel_rfl)
noncomputable def p118_52 : Pc := ⟨52, sh118_52, outs118_52, loopF f118_52⟩
theorem occ118_52 : occ c118_8 52 = [.loop c118_52] := by kernel_rfl
theorem ok118_52 : PcOk Tryz.prog env 0 63 p118_52 (.loop c118_52) :=
 loop_ok (T := []) (H := H118) envOk hH118 (ok_nil) (by kernel_rfl) (fun x => by kernel_rfl)
noncomputable def p118_8 : Pc := ⟨8, sh118_8, outs118_8, loopF f118_8⟩
theorem occ118_8 : occ code118 8 = [.loop c118_8] := by kernel_rfl
theorem ok118_8 : PcOk Tryz.prog env 0 63 p118_8 (.loop c118_8) :=
 loop_ok (T := [p118_24, p118_52]) (H := H118) envOk hH118 (ok_of (ok_one occ118_24 ok118_24 (ok_one occ118_52 ok118_52 ok_end))) (by kernel_rfl) (fun x => by kernel_rfl)
theorem con118 : Con Tryz.prog env 118 ⟨ps118, rs118, f118⟩ :=
 con_of (T := [p118_8]) (H := H118) (n := 63) (c := code118) envOk hH118 Tryz.func118 (by kernel_rfl) (by kernel_rfl) (by kernel_rfl) (by kernel_rfl)
  (ok_of (ok_one occ118_8 ok118_8 ok_end)) (by kernel_rfl) (fun x => by kernel_rfl)
end Go.Ev.L6
