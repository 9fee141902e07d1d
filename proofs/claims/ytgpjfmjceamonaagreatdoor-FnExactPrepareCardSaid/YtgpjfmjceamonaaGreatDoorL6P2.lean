/-
 Prepare: contracts (printed by g5.py).
-/
import Derived.Test.YtgpjfmjceamonaaGreatDoorL6P1
namespace Go.Ev.L6
open Go.Proofs
noncomputable def code119 : Code := Tryz.f119.body.getD .skip
noncomputable def H119 : Nat → Option FH := fun g => bif Nat.beq g 114 then some ⟨ps114, rs114, f114⟩ else none
theorem hH119 : ∀ g h, H119 g = some h → Con Tryz.prog env g h := hH_cons con114 hH_nil
noncomputable def c119_84 : Code := inner (at' code119 84)
noncomputable def p119_84 : Pc := ⟨84, sh119_84, outs119_84, loopF f119_84⟩
theorem occ119_84 : occ code119 84 = [.loop c119_84] := by kernel_rfl
theorem ok119_84 : PcOk Tryz.prog env 0 127 p119_84 (.loop c119_84) :=
 loop_ok (T := []) (H := H119) envOk hH119 (ok_nil) (by kernel_rfl) (fun x => by kernel_rfl)
theorem con119 : Con Tryz.prog env 119 ⟨ps119, rs119, f119⟩ :=
 con_of (T := [p119_84]) (H := H119) (n := 127) (c := code119) envOk hH119 Tryz.func119 (by kernel_rfl) (by kernel_rfl) (by kernel_rfl) (by kernel_rfl)
  (ok_of (ok_one occ119_84 ok119_84 ok_end)) (by kernel_rfl) (fun x => by kernel_rfl)
noncomputable def code121 : Code := Tryz.f121.body.getD .skip
def H121 : Nat → Option FH := fun _ => none
theorem hH121 : ∀ g h, H121 g = some h → Con Tryz.prog env g h := fun g h hh => by cases hh
noncomputable def c121_40 : Code := inner (at' code121 40)
noncomputable def c121_16 : Code := inner (at' code121 16)
noncomputable def p121_16 : Pc := ⟨16, sh121_16, outs121_16, loopF f121_16⟩
theorem occ121_16 : occ code121 16 = [.loop c121_16] := by kernel_rfl
theorem ok121_16 : PcOk Tryz.prog env 0 59 p121_16 (.loop c121_16) :=
 loop_ok (T := []) (H := H121) envOk hH121 (ok_nil) (by kernel_rfl) (fun x => by kernel_rfl)
noncomputable def p121_40 : Pc := ⟨40, sh121_40, outs121_40, loopF f121_40⟩
theorem occ121_40 : occ code121 40 = [.loop c121_40] := by kernel_rfl
theorem ok121_40 : PcOk Tryz.prog env 0 59 p121_40 (.loop c121_40) :=
 loop_ok (T := []) (H := H121) envOk hH121 (ok_nil) (by kernel_rfl) (fun x => by kernel_rfl)
theorem con121 : Con Tryz.prog env 121 ⟨ps121, rs121, f121⟩ :=
 con_of (T := [p121_16, p121_40]) (H := H121) (n := 59) (c := code121) envOk hH121 Tryz.func121 (by kernel_rfl) (by kernel_rfl) (by kernel_rfl) (by kernel_rfl)
  (ok_of (ok_one occ121_16 ok121_16 (ok_one occ121_40 ok121_40 ok_end))) (by kernel_rfl) (fun x => by kernel_rfl)
noncomputable def code63 : Code := Tryz.f63.body.getD .skip
noncomputable def H63 : Nat → Option FH := fun g => bif Nat.beq g 112 then some ⟨ps112, rs112, f112⟩ else bif Nat.beq g 113 then some ⟨ps113, rs113, f113⟩ else bif Nat.beq g 114 then some ⟨ps114, rs114, f114⟩ else bif Nat.beq g 115 then some ⟨ps115, rs115, f115⟩ else bif Nat.beq g 116 then some ⟨ps116, rs116, f116⟩ else bif Nat.beq g 117 then some ⟨ps117, rs117, f117⟩ else bif Nat.beq g 118 then some ⟨ps118, rs118, f118⟩ else bif Nat.beq g 119 then some ⟨ps119, rs119, f119⟩ else bif Nat.beq g 120 then some ⟨ps120, rs120, f120⟩ else bif Nat.beq g 121 then some ⟨ps121, rs121, f121⟩ else none
theorem hH63 : ∀ g h, H63 g = some h → Con Tryz.prog env g h := hH_cons con112 (hH_cons con113 (hH_cons con114 (hH_cons con115 (hH_cons con116 (hH_cons con117 (hH_cons con118 (hH_cons con119 (hH_cons con120 (hH_cons con121 hH_nil)))))))))
noncomputable def c63_52 : Code := inner (at' code63 52)
noncomputable def c63_148 : Code := inner (at' c63_52 148)
noncomputable def c63_72 : Code := inner (at' c63_52 72)
noncomputable def c63_56 : Code := inner (at' c63_52 56)
noncomputable def c63_24 : Code := inner (at' code63 24)
noncomputable def p63_24 : Pc := ⟨24, sh63_24, outs63_24, loopF f63_24⟩
theorem occ63_24 : occ code63 24 = [.loop c63_24] := by kernel_rfl
theorem ok63_24 : PcOk Tryz.prog env 0 210 p63_24 (.loop c63_24) :=
 loop_ok (T := []) (H := H63) envOk hH63 (ok_nil) (by kernel_rfl) (fun x => by kernel_rfl)
noncomputable def p63_56 : Pc := ⟨56, sh63_56, outs63_56, loopF f63_56⟩
theorem occ63_56 : occ c63_52 56 = [.loop c63_56] := by kernel_rfl
theorem ok63_56 : PcOk Tryz.prog env 0 210 p63_56 (.loop c63_56) :=
 loop_ok (T := []) (H := H63) envOk hH63 (ok_nil) (by kernel_rfl) (fun x => by kernel_rfl)
noncomputable def p63_72 : Pc := ⟨72, sh63_72, outs63_72, loopF f63_72⟩
theorem occ63_72 : occ c63_52 72 = [.loop c63_72] := by kernel_rfl
theorem ok63_72 : PcOk Tryz.prog env 0 210 p63_72 (.loop c63_72) :=
 loop_ok (T := []) (H := H63) envOk hH63 (ok_nil) (by kernel_rfl) (fun x => by kernel_rfl)
noncomputable def p63_148 : Pc := ⟨148, sh63_148, outs63_148, loopF f63_148⟩
theorem occ63_148 : occ c63_52 148 = [.loop c63_148] := by kernel_rfl
theorem ok63_148 : PcOk Tryz.prog env 0 210 p63_148 (.loop c63_148) :=
 loop_ok (T := []) (H := H63) envOk hH63 (ok_nil) (by kernel_rfl) (fun x => by kernel_rfl)
noncomputable def p63_52 : Pc := ⟨52, sh63_52, outs63_52, loopF f63_52⟩
theorem occ63_52 : occ code63 52 = [.loop c63_52] := by kernel_rfl
theorem ok63_52 : PcOk Tryz.prog env 0 210 p63_52 (.loop c63_52) :=
 loop_ok (T := [p63_56, p63_72, p63_148]) (H := H63) envOk hH63 (ok_of (ok_one occ63_56 ok63_56 (ok_one occ63_72 ok63_72 (ok_one occ63_148 ok63_148 ok_end)))) (by kernel_rfl) (fun x => by kernel_rfl)
theorem con63 : Con Tryz.prog env 63 ⟨ps63, rs63, f63⟩ :=
 con_of (T := [p63_24, p63_52]) (H := H63) (n := 210) (c := code63) envOk hH63 Tryz.func63 (by kernel_rfl) (by kernel_rfl) (by kernel_rfl) (by kernel_rfl)
  (ok_of (ok_one occ63_24 ok63_24 (ok_one occ63_52 ok63_52 ok_end))) (by kernel_rfl) (fun x => by kernel_rfl)
noncomputable def code24 : Code := Tryz.f24.body.getD .skip
noncomputable def H24 : Nat → Option FH := fun g => bif Nat.beq g 62 then some ⟨ps62, rs62, f62⟩ else bif Nat.beq g 63 then some ⟨ps63, rs63, f63⟩ else none
theorem hH24 : ∀ g h, H24 g = some h → Con Tryz.prog env g h := hH_cons con62 (hH_cons con63 hH_nil)
noncomputable def c24_20 : Code := inner (at' code24 20)
noncomputable def p24_20 : Pc := ⟨20, sh24_20, outs24_20, loopF f24_20⟩
theorem occ24_20 : occ code24 20 = [.loop c24_20] := by kernel_rfl
theorem ok24_20 : PcOk Tryz.prog env 0 31 p24_20 (.loop c24_20) :=
 loop_ok (T := []) (H := H24) envOk hH24 (ok_nil) (by kernel_rfl) (fun x => by kernel_rfl)
theorem con24 : Con Tryz.prog env 24 ⟨ps24, rs24, f24⟩ :=
 con_of (T := [p24_20]) (H := H24) (n := 31) (c := code24) envOk hH24 Tryz.func24 (by kernel_rfl) (by kernel_rfl) (by kernel_rfl) (by kernel_rfl)
  (ok_of (ok_one occ24_20 ok24_20 ok_end)) (by kernel_rfl) (fun x => by kernel_rfl)
noncomputable def code64 : Code := Tryz.f64.body.getD .skip
def H64 : Nat → Option FH := fun _ => none
theorem hH64 : ∀ g h, H64 g = some h → Con Tryz.prog env g h := fun g h hh => by cases hh
noncomputable def c64_8 : Code := inner (at' code64 8)
noncomputable def p64_8 : Pc := ⟨8, sh64_8, outs64_8, loopF f64_8⟩
theorem occ64_8 : occ code64 8 = [.loop c64_8] := by kernel_rfl
theorem ok64_8 : PcOk Tryz.prog env 0 46 p64_8 (.loop c64_8) :=
 loop_ok (T := []) (H := H64) envOk hH64 (ok_nil) (by kernel_rfl) (fun x => by kernel_rfl)
theorem con64 : Con Tryz.prog env 64 ⟨ps64, rs64, f64⟩ :=
 con_of (T := [p64_8]) (H := H64) (n := 46) (c := code64) envOk hH64 Tryz.func64 (by kernel_rfl) (by kernel_rfl) (by kernel_rfl) (by kernel_rfl)
  (ok_of (ok_one occ64_8 ok64_8 ok_end)) (by kernel_rfl) (fun x => by kernel_rfl)
noncomputable def code65 : Code := Tryz.f65.body.getD .skip
def H65 : Nat → Option FH := fun _ => none
theorem hH65 : ∀ g h, H65 g = some h → Con Tryz.prog env g h := fun g h hh => by cases hh
theorem con65 : Con Tryz.prog env 65 ⟨ps65, rs65, f65⟩ :=
 con_of (T := []) (H := H65) (n := 185) (c := code65) envOk hH65 Tryz.func65 (by kernel_rfl) (by kernel_rfl) (by kernel_rfl) (by kernel_rfl)
  (ok_nil) (by kernel_rfl) (fun x => by kernel_rfl)
noncomputable def code25 : Code := Tryz.f25.body.getD .skip
noncomputable def H25 : Nat → Option FH := fun g => bif Nat.beq g 64 then some ⟨ps64, rs64, f64⟩ else bif Nat.beq g 65 then some ⟨ps65, rs65, f65⟩ else none
theorem hH25 : ∀ g h, H25 g = some h → Con Tryz.prog env g h := hH_cons con64 (hH_cons con65 hH_nil)
noncomputable def c25_12 : Code := inner (at' code25 12)
noncomputable def c25_28 : Code := inner (at' c25_12 28)
noncomputable def p25_28 : Pc := ⟨28, sh25_28, outs25_28, loopF f25_28⟩
theorem occ25_28 : occ c25_12 28 = [.loop c25_28] := by kernel_rfl
theorem ok25_28 : PcOk Tryz.prog env 0 80 p25_28 (.loop c25_28) :=
 loop_ok (T := []) (H := H25) envOk hH25 (ok_nil) (by kernel_rfl) (fun x => by kernel_rfl)
noncomputable def p25_12 : Pc := ⟨12, sh25_12, outs25_12, loopF f25_12⟩
theorem occ25_12 : occ code25 12 = [.loop c25_12] := by kernel_rfl
theorem ok25_12 : PcOk Tryz.prog env 0 80 p25_12 (.loop c25_12) :=
 loop_ok (T := [p25_28]) (H := H25) envOk hH25 (ok_of (ok_one occ25_28 ok25_28 ok_end)) (by kernel_rfl) (fun x => by kernel_rfl)
theorem con25 : Con Tryz.prog env 25 ⟨ps25, rs25, f25⟩ :=
 con_of (T := [p25_12]) (H := H25) (n := 80) (c := code25) envOk hH25 Tryz.func25 (by kernel_rfl) (by kernel_rfl) (by kernel_rfl) (by kernel_rfl)
  (ok_of (ok_one occ25_12 ok25_12 ok_end)) (by kernel_rfl) (fun x => by kernel_rfl)
noncomputable def code6 : Code := Tryz.f6.body.getD .skip
noncomputable def H6 : Nat → Option FH := fun g => bif Nat.beq g 24 then some ⟨ps24, rs24, f24⟩ else bif Nat.beq g 25 then some ⟨ps25, rs25, f25⟩ else none
theorem hH6 : ∀ g h, H6 g = some h → Con Tryz.prog env g h := hH_cons con24 (hH_cons con25 hH_nil)
theorem con6 : Con Tryz.prog env 6 ⟨ps6, rs6, f6⟩ :=
 con_of (T := []) (H := H6) (n := 12) (c := code6) envOk hH6 Tryz.func6 (by kernel_rfl) (by kernel_rfl) (by kernel_rfl) (by kernel_rfl)
  (ok_nil) (by kernel_rfl) (fun x => by kernel_rfl)
noncomputable def code163 : Code := Tryz.f163.body.getD .skip
def H163 : Nat → Option FH := fun _ => none
theorem hH163 : ∀ g h, H163 g = some h → Con Tryz.prog envD g h := fun g h hh => by cases hh
theorem con163 : Con Tryz.prog envD 163 ⟨ps163, rs163, f163⟩ :=
 con_of (T := []) (H := H163) (n := 11) (c := code163) envOkD hH163 Tryz.func163 (by kernel_rfl) (by kernel_rfl) (by kernel_rfl) (by kernel_rfl)
  (ok_nil) (by kernel_rfl) (fun x => by kernel_rfl)
noncomputable def code122 : Code := Tryz.f122.body.getD .skip
noncomputable def H122 : Nat → Option FH := fun g => bif Nat.beq g 163 then some ⟨ps163, rs163, f163⟩ else none
theorem hH122 : ∀ g h, H122 g = some h → Con Tryz.prog envD g h := hH_cons con163 hH_nil
noncomputable def c122_12 : Code := inner (at' code122 12)
noncomputable def p122_12 : Pc := ⟨12, sh122_12, outs122_12, loopF f122_12⟩
theorem occ122_12 : occ code122 12 = [.loop c122_12] := by kernel_rfl
theorem ok122_12 : PcOk Tryz.prog envD 0 23 p122_12 (.loop c122_12) :=
 loop_ok (T := []) (H := H122) envOkD hH122 (ok_nil) (by kernel_rfl) (fun x => by kernel_rfl)
theorem con122 : Con Tryz.prog envD 122 ⟨ps122, rs122, f122⟩ :=
 con_of (T := [p122_12]) (H := H122) (n := 23) (c := code122) envOkD hH122 Tryz.func122 (by kernel_rfl) (by kernel_rfl) (by kernel_rfl) (by kernel_rfl)
  (ok_of (ok_one occ122_12 ok122_12 ok_end)) (by kernel_rfl) (fun x => by kernel_rfl)
noncomputable def code164 : Code := Tryz.f164.body.getD .skip
def H164 : Nat → Option FH := fun _ => none
theorem hH164 : ∀ g h, H164 g = some h → Con Tryz.prog envD g h := fun g h hh => by cases hh
theorem con164 : Con Tryz.prog envD 164 ⟨ps164, rs164, f164⟩ :=
 con_of (T := []) (H := H164) (n := 20) (c := code164) envOkD hH164 Tryz.func164 (by kernel_rfl) (by kernel_rfl) (by kernel_rfl) (by kernel_rfl)
  (ok_nil) (by kernel_rfl) (fun x => by kernel_rfl)
noncomputable def code123 : Code := Tryz.f123.body.getD .skip
noncomputable def H123 : Nat → Option FH := fun g => bif Nat.beq g 164 then some ⟨ps164, rs164, f164⟩ else none
theorem hH123 : ∀ g h, H123 g = some h → Con Tryz.prog envD g h := hH_cons con164 hH_nil
noncomputable def c123_12 : Code := inner (at' code123 12)
noncomputable def p123_12 : Pc := ⟨12, sh123_12, outs123_12, loopF f123_12⟩
theorem occ123_12 : occ code123 12 = [.loop c123_12] := by kernel_rfl
theorem ok123_12 : PcOk Tryz.prog envD 0 23 p123_12 (.loop c123_12) :=
 loop_ok (T := []) (H := H123) envOkD hH123 (ok_nil) (by kernel_rfl) (fun x => by kernel_rfl)
theorem con123 : Con Tryz.prog envD 123 ⟨ps123, rs123, f123⟩ :=
 con_of (T := [p123_12]) (H := H123) (n := 23) (c := code123) envOkD hH123 Tryz.func123 (by kernel_rfl) (by kernel_rfl) (by kernel_rfl) (by kernel_rfl)
  (ok_of (ok_one occ123_12 ok123_12 ok_end)) (by kernel_rfl) (fun x => by kernel_rfl)
end Go.Ev.L6
