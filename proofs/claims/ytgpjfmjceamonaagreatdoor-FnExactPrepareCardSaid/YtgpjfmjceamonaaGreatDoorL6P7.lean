/-
 Prepare: contracts (printed by g5.py).
-/
import Derived.Test.YtgpjfmjceamonaaGreatDoorL6P6
namespace Go.Ev.L6
open Go.Proofs
noncomputable def code74 : Code := Tryz.f74.body.getD .skip
def H74 : Nat → Option FH := fun _ => none
theorem hH74 : ∀ g h, H74 g = some h → Con Tryz.prog envD g h := fun g h hh => by cases hh
noncomputable def c74_8 : Code := inner (at' code74 8)
noncomputable def p74_8 : Pc := ⟨8, sh74_8, outs74_8, loopF f74_8⟩
theorem occ74_8 : occ code74 8 = [.loop c74_8] := by kernel_rfl
theorem ok74_8 : PcOk Tryz.prog envD 1 48 p74_8 (.loop c74_8) :=
 loop_ok (T := []) (H := H74) envOkD hH74 (ok_nil) (by kernel_rfl) (fun x => by kernel_rfl)
theorem con74 : Con Tryz.prog envD 74 ⟨ps74, rs74, f74⟩ :=
 con_of (T := [p74_8]) (H := H74) (n := 48) (c := code74) envOkD hH74 Tryz.func74 (by kernel_rfl) (by kernel_rfl) (by kernel_rfl) (by kernel_rfl)
  (ok_of (ok_one occ74_8 ok74_8 ok_end)) (by kernel_rfl) (fun x => by kernel_rfl)
noncomputable def code75 : Code := Tryz.f75.body.getD .skip
noncomputable def H75 : Nat → Option FH := fun g => bif Nat.beq g 72 then some ⟨ps72, rs72, f72⟩ else none
theorem hH75 : ∀ g h, H75 g = some h → Con Tryz.prog envD g h := hH_cons con72 hH_nil
noncomputable def c75_8 : Code := inner (at' code75 8)
noncomputable def p75_8 : Pc := ⟨8, sh75_8, outs75_8, loopF f75_8⟩
theorem occ75_8 : occ code75 8 = [.loop c75_8] := by kernel_rfl
theorem ok75_8 : PcOk Tryz.prog envD 1 42 p75_8 (.loop c75_8) :=
 loop_ok (T := []) (H := H75) envOkD hH75 (ok_nil) (by kernel_rfl) (fun x => by kernel_rfl)
theorem con75 : Con Tryz.prog envD 75 ⟨ps75, rs75, f75⟩ :=
 con_of (T := [p75_8]) (H := H75) (n := 42) (c := code75) envOkD hH75 Tryz.func75 (by kernel_rfl) (by kernel_rfl) (by kernel_rfl) (by kernel_rfl)
  (ok_of (ok_one occ75_8 ok75_8 ok_end)) (by kernel_rfl) (fun x => by kernel_rfl)
noncomputable def code31 : Code := Tryz.f31.body.getD .skip
noncomputable def H31 : Nat → Option FH := fun g => bif Nat.beq g 52 then some ⟨ps52, rs52, f52⟩ else bif Nat.beq g 72 then some ⟨ps72, rs72, f72⟩ else bif Nat.beq g 73 then some ⟨ps73, rs73, f73⟩ else bif Nat.beq g 74 then some ⟨ps74, rs74, f74⟩ else bif Nat.beq g 75 then some ⟨ps75, rs75, f75⟩ else none
theorem hH31 : ∀ g h, H31 g = some h → Con Tryz.prog envD g h := hH_cons con52 (hH_cons con72 (hH_cons con73 (hH_cons con74 (hH_cons con75 hH_nil))))
noncomputable def c31_8 : Code := inner (at' code31 8)
noncomputable def p31_8 : Pc := ⟨8, sh31_8, outs31_8, loopF f31_8⟩
theorem occ31_8 : occ code31 8 = [.loop c31_8] := by kernel_rfl
theorem ok31_8 : PcOk Tryz.prog envD 1 79 p31_8 (.loop c31_8) :=
 loop_ok (T := []) (H := H31) envOkD hH31 (ok_nil) (by kernel_rfl) (fun x => by kernel_rfl)
theorem con31 : Con Tryz.prog envD 31 ⟨ps31, rs31, f31⟩ :=
 con_of (T := [p31_8]) (H := H31) (n := 79) (c := code31) envOkD hH31 Tryz.func31 (by kernel_rfl) (by kernel_rfl) (by kernel_rfl) (by kernel_rfl)
  (ok_of (ok_one occ31_8 ok31_8 ok_end)) (by kernel_rfl) (fun x => by kernel_rfl)
noncomputable def code11 : Code := Tryz.f11.body.getD .skip
noncomputable def H11 : Nat → Option FH := fun g => bif Nat.beq g 31 then some ⟨ps31, rs31, f31⟩ else none
theorem hH11 : ∀ g h, H11 g = some h → Con Tryz.prog envD g h := hH_cons con31 hH_nil
theorem con11 : Con Tryz.prog envD 11 ⟨ps11, rs11, f11⟩ :=
 con_of (T := []) (H := H11) (n := 10) (c := code11) envOkD hH11 Tryz.func11 (by kernel_rfl) (by kernel_rfl) (by kernel_rfl) (by kernel_rfl)
  (ok_nil) (by kernel_rfl) (fun x => by kernel_rfl)
noncomputable def code76 : Code := Tryz.f76.body.getD .skip
def H76 : Nat → Option FH := fun _ => none
theorem hH76 : ∀ g h, H76 g = some h → Con Tryz.prog envD g h := fun g h hh => by cases hh
noncomputable def c76_8 : Code := inner (at' code76 8)
noncomputable def p76_8 : Pc := ⟨8, sh76_8, outs76_8, loopF f76_8⟩
theorem occ76_8 : occ code76 8 = [.loop c76_8] := by kernel_rfl
theorem ok76_8 : PcOk Tryz.prog envD 1 62 p76_8 (.loop c76_8) :=
 loop_ok (T := []) (H := H76) envOkD hH76 (ok_nil) (by kernel_rfl) (fun x => by kernel_rfl)
theorem con76 : Con Tryz.prog envD 76 ⟨ps76, rs76, f76⟩ :=
 con_of (T := [p76_8]) (H := H76) (n := 62) (c := code76) envOkD hH76 Tryz.func76 (by kernel_rfl) (by kernel_rfl) (by kernel_rfl) (by kernel_rfl)
  (ok_of (ok_one occ76_8 ok76_8 ok_end)) (by kernel_rfl) (fun x => by kernel_rfl)
noncomputable def code32 : Code := Tryz.f32.body.getD .skip
noncomputable def H32 : Nat → Option FH := fun g => bif Nat.beq g 76 then some ⟨ps76, rs76, f76⟩ else none
theorem hH32 : ∀ g h, H32 g = some h → Con Tryz.prog envD g h := hH_cons con76 hH_nil
noncomputable def c32_8 : Code := inner (at' code32 8)
noncomputable def p32_8 : Pc := ⟨8, sh32_8, outs32_8, loopF f32_8⟩
theorem occ32_8 : occ code32 8 = [.loop c32_8] := by kernel_rfl
theorem ok32_8 : PcOk Tryz.prog envD 1 20 p32_8 (.loop c32_8) :=
 loop_ok (T := []) (H := H32) envOkD hH32 (ok_nil) (by kernel_rfl) (fun x => by kernel_rfl)
theorem con32 : Con Tryz.prog envD 32 ⟨ps32, rs32, f32⟩ :=
 con_of (T := [p32_8]) (H := H32) (n := 20) (c := code32) envOkD hH32 Tryz.func32 (by kernel_rfl) (by kernel_rfl) (by kernel_rfl) (by kernel_rfl)
  (ok_of (ok_one occ32_8 ok32_8 ok_end)) (by kernel_rfl) (fun x => by kernel_rfl)
noncomputable def code12 : Code := Tryz.f12.body.getD .skip
noncomputable def H12 : Nat → Option FH := fun g => bif Nat.beq g 32 then some ⟨ps32, rs32, f32⟩ else none
theorem hH12 : ∀ g h, H12 g = some h → Con Tryz.prog envD g h := hH_cons con32 hH_nil
theorem con12 : Con Tryz.prog envD 12 ⟨ps12, rs12, f12⟩ :=
 con_of (T := []) (H := H12) (n := 10) (c := code12) envOkD hH12 Tryz.func12 (by kernel_rfl) (by kernel_rfl) (by kernel_rfl) (by kernel_rfl)
  (ok_nil) (by kernel_rfl) (fun x => by kernel_rfl)
noncomputable def code77 : Code := Tryz.f77.body.getD .skip
def H77 : Nat → Option FH := fun _ => none
theorem hH77 : ∀ g h, H77 g = some h → Con Tryz.prog env g h := fun g h hh => by cases hh
noncomputable def c77_8 : Code := inner (at' code77 8)
noncomputable def p77_8 : Pc := ⟨8, sh77_8, outs77_8, loopF f77_8⟩
theorem occ77_8 : occ code77 8 = [.loop c77_8] := by kernel_rfl
theorem ok77_8 : PcOk Tryz.prog env 0 76 p77_8 (.loop c77_8) :=
 loop_ok (T := []) (H := H77) envOk hH77 (ok_nil) (by kernel_rfl) (fun x => by kernel_rfl)
theorem con77 : Con Tryz.prog env 77 ⟨ps77, rs77, f77⟩ :=
 con_of (T := [p77_8]) (H := H77) (n := 76) (c := code77) envOk hH77 Tryz.func77 (by kernel_rfl) (by kernel_rfl) (by kernel_rfl) (by kernel_rfl)
  (ok_of (ok_one occ77_8 ok77_8 ok_end)) (by kernel_rfl) (fun x => by kernel_rfl)
noncomputable def code33 : Code := Tryz.f33.body.getD .skip
noncomputable def H33 : Nat → Option FH := fun g => bif Nat.beq g 77 then some ⟨ps77, rs77, f77⟩ else none
theorem hH33 : ∀ g h, H33 g = some h → Con Tryz.prog env g h := hH_cons con77 hH_nil
noncomputable def c33_8 : Code := inner (at' code33 8)
noncomputable def p33_8 : Pc := ⟨8, sh33_8, outs33_8, loopF f33_8⟩
theorem occ33_8 : occ code33 8 = [.loop c33_8] := by kernel_rfl
theorem ok33_8 : PcOk Tryz.prog env 0 22 p33_8 (.loop c33_8) :=
 loop_ok (T := []) (H := H33) envOk hH33 (ok_nil) (by kernel_rfl) (fun x => by kernel_rfl)
theorem con33 : Con Tryz.prog env 33 ⟨ps33, rs33, f33⟩ :=
 con_of (T := [p33_8]) (H := H33) (n := 22) (c := code33) envOk hH33 Tryz.func33 (by kernel_rfl) (by kernel_rfl) (by kernel_rfl) (by kernel_rfl)
  (ok_of (ok_one occ33_8 ok33_8 ok_end)) (by kernel_rfl) (fun x => by kernel_rfl)
noncomputable def code13 : Code := Tryz.f13.body.getD .skip
noncomputable def H13 : Nat → Option FH := fun g => bif Nat.beq g 33 then some ⟨ps33, rs33, f33⟩ else none
theorem hH13 : ∀ g h, H13 g = some h → Con Tryz.prog env g h := hH_cons con33 hH_nil
theorem con13 : Con Tryz.prog env 13 ⟨ps13, rs13, f13⟩ :=
 con_of (T := []) (H := H13) (n := 12) (c := code13) envOk hH13 Tryz.func13 (by kernel_rfl) (by kernel_rfl) (by kernel_rfl) (by kernel_rfl)
  (ok_nil) (by kernel_rfl) (fun x => by kernel_rfl)
noncomputable def code3 : Code := Tryz.f3.body.getD .skip
noncomputable def H3 : Nat → Option FH := fun g => bif Nat.beq g 5 then some ⟨ps5, rs5, f5⟩ else bif Nat.beq g 6 then some ⟨ps6, rs6, f6⟩ else bif Nat.beq g 7 then some ⟨ps7, rs7, f7⟩ else bif Nat.beq g 8 then some ⟨ps8, rs8, f8⟩ else bif Nat.beq g 9 then some ⟨ps9, rs9, f9⟩ else bif Nat.beq g 10 then some ⟨ps10, rs10, f10⟩ else bif Nat.beq g 11 then some ⟨ps11, rs11, f11⟩ else bif Nat.beq g 12 then some ⟨ps12, rs12, f12⟩ else bif Nat.beq g 13 then some ⟨ps13, rs13, f13⟩ else none
theorem hH3 : ∀ g h, H3 g = some h → Con Tryz.prog envD g h := hH_cons con5 (hH_cons con6 (hH_cons con7 (hH_cons con8 (hH_cons con9 (hH_cons con10 (hH_cons con11 (hH_cons con12 (hH_cons con13 hH_nil))))))))
theorem con3 : Con Tryz.prog envD 3 ⟨ps3, rs3, f3⟩ :=
 con_of (T := []) (H := H3) (n := 69) (c := code3) envOkD hH3 Tryz.func3 (by kernel_rfl) (by kernel_rfl) (by kernel_rfl) (by kernel_rfl)
  (ok_nil) (by kernel_rfl) (fun x => by kernel_rfl)
end Go.Ev.L6
