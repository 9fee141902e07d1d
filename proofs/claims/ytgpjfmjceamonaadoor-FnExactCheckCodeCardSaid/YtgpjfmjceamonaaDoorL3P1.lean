import Derived.Test.YtgpjfmjceamonaaDoorL3P0
namespace Go.Ev.L3
open Go.Proofs
noncomputable def code22 : Code := Tryd.f22.body.getD .skip
def H22 : Nat → Option FH := fun _ => none
theorem hH22 : ∀ g h, H22 g = some h → Con Tryd.prog env g h := fun g h hh => by cases hh
noncomputable def c22_12 : Code := inner (at' code22 12)
noncomputable def p22_12 : Pc := ⟨12, sh22_12, outs22_12, loopF f22_12⟩
theorem occ22_12 : occ code22 12 = [.loop c22_12] := by kernel_rfl
theorem ok22_12 : PcOk Tryd.prog env 0 18 p22_12 (.loop c22_12) :=
  loop_ok (T := []) (H := H22) envOk hH22 (ok_nil) (by kernel_rfl) (fun x => by kernel_rfl)
theorem con22 : Con Tryd.prog env 22 ⟨ps22, rs22, f22⟩ :=
  con_of (T := [p22_12]) (H := H22) (n := 18) (c := code22) envOk hH22 Tryd.func22 (by kernel_rfl) (by kernel_rfl) (by kernel_rfl) (by kernel_rfl)
    (ok_of (ok_one occ22_12 ok22_12 ok_end)) (by kernel_rfl) (fun x => by kernel_rfl)
noncomputable def code53 : Code := Tryd.f53.body.getD .skip
def H53 : Nat → Option FH := fun _ => none
theorem hH53 : ∀ g h, H53 g = some h → Con Tryd.prog env g h := fun g h hh => by cases hh
theorem con53 : Con Tryd.prog env 53 ⟨ps53, rs53, f53⟩ :=
  con_of (T := []) (H := H53) (n := 18) (c := code53) envOk hH53 Tryd.func53 (by kernel_rfl) (by kernel_rfl) (by kernel_rfl) (by kernel_rfl)
    (ok_nil) (by kernel_rfl) (fun x => by kernel_rfl)
noncomputable def code23 : Code := Tryd.f23.body.getD .skip
noncomputable def H23 : Nat → Option FH := fun g => bif Nat.beq g 51 then some ⟨ps51, rs51, f51⟩ else bif Nat.beq g 52 then some ⟨ps52, rs52, f52⟩ else bif Nat.beq g 53 then some ⟨ps53, rs53, f53⟩ else none
theorem hH23 : ∀ g h, H23 g = some h → Con Tryd.prog env g h := hH_cons con51 (hH_cons con52 (hH_cons con53 hH_nil))
noncomputable def c23_168 : Code := inner (at' code23 168)
noncomputable def c23_20 : Code := inner (at' code23 20)
noncomputable def c23_124 : Code := inner (at' c23_20 124)
noncomputable def c23_64 : Code := inner (at' c23_20 64)
noncomputable def p23_64 : Pc := ⟨64, sh23_64, outs23_64, loopF f23_64⟩
theorem occ23_64 : occ c23_20 64 = [.loop c23_64] := by kernel_rfl
theorem ok23_64 : PcOk Tryd.prog env 4 152 p23_64 (.loop c23_64) :=
  loop_ok (T := []) (H := H23) envOk hH23 (ok_nil) (by kernel_rfl) (fun x => by kernel_rfl)
noncomputable def p23_124 : Pc := ⟨124, sh23_124, outs23_124, loopF f23_124⟩
theorem occ23_124 : occ c23_20 124 = [.loop c23_124] := by kernel_rfl
theorem ok23_124 : PcOk Tryd.prog env 4 152 p23_124 (.loop c23_124) :=
  loop_ok (T := []) (H := H23) envOk hH23 (ok_nil) (by kernel_rfl) (fun x => by kernel_rfl)
noncomputable def p23_20 : Pc := ⟨20, sh23_20, outs23_20, loopF f23_20⟩
theorem occ23_20 : occ code23 20 = [.loop c23_20] := by kernel_rfl
theorem ok23_20 : PcOk Tryd.prog env 4 152 p23_20 (.loop c23_20) :=
  loop_ok (T := [p23_64, p23_124]) (H := H23) envOk hH23 (ok_of (ok_one occ23_64 ok23_64 (ok_one occ23_124 ok23_124 ok_end))) (by kernel_rfl) (fun x => by kernel_rfl)
noncomputable def p23_168 : Pc := ⟨168, sh23_168, outs23_168, loopF f23_168⟩
theorem occ23_168 : occ code23 168 = [.loop c23_168] := by kernel_rfl
theorem ok23_168 : PcOk Tryd.prog env 4 152 p23_168 (.loop c23_168) :=
  loop_ok (T := []) (H := H23) envOk hH23 (ok_nil) (by kernel_rfl) (fun x => by kernel_rfl)
theorem con23 : Con Tryd.prog env 23 ⟨ps23, rs23, f23⟩ :=
  con_of (T := [p23_20, p23_168]) (H := H23) (n := 152) (c := code23) envOk hH23 Tryd.func23 (by kernel_rfl) (by kernel_rfl) (by kernel_rfl) (by kernel_rfl)
    (ok_of (ok_one occ23_20 ok23_20 (ok_one occ23_168 ok23_168 ok_end))) (by kernel_rfl) (fun x => by kernel_rfl)
noncomputable def code28 : Code := Tryd.f28.body.getD .skip
def H28 : Nat → Option FH := fun _ => none
theorem hH28 : ∀ g h, H28 g = some h → Con Tryd.prog env g h := fun g h hh => by cases hh
noncomputable def c28_12 : Code := inner (at' code28 12)
noncomputable def p28_12 : Pc := ⟨12, sh28_12, outs28_12, loopF f28_12⟩
theorem occ28_12 : occ code28 12 = [.loop c28_12] := by kernel_rfl
theorem ok28_12 : PcOk Tryd.prog env 0 18 p28_12 (.loop c28_12) :=
  loop_ok (T := []) (H := H28) envOk hH28 (ok_nil) (by kernel_rfl) (fun x => by kernel_rfl)
theorem con28 : Con Tryd.prog env 28 ⟨ps28, rs28, f28⟩ :=
  con_of (T := [p28_12]) (H := H28) (n := 18) (c := code28) envOk hH28 Tryd.func28 (by kernel_rfl) (by kernel_rfl) (by kernel_rfl) (by kernel_rfl)
    (ok_of (ok_one occ28_12 ok28_12 ok_end)) (by kernel_rfl) (fun x => by kernel_rfl)
noncomputable def code54 : Code := Tryd.f54.body.getD .skip
def H54 : Nat → Option FH := fun _ => none
theorem hH54 : ∀ g h, H54 g = some h → Con Tryd.prog env g h := fun g h hh => by cases hh
noncomputable def c54_8 : Code := inner (at' code54 8)
noncomputable def p54_8 : Pc := ⟨8, sh54_8, outs54_8, loopF f54_8⟩
theorem occ54_8 : occ code54 8 = [.loop c54_8] := by kernel_rfl
theorem ok54_8 : PcOk Tryd.prog env 0 22 p54_8 (.loop c54_8) :=
  loop_ok (T := []) (H := H54) envOk hH54 (ok_nil) (by kernel_rfl) (fun x => by kernel_rfl)
theorem con54 : Con Tryd.prog env 54 ⟨ps54, rs54, f54⟩ :=
  con_of (T := [p54_8]) (H := H54) (n := 22) (c := code54) envOk hH54 Tryd.func54 (by kernel_rfl) (by kernel_rfl) (by kernel_rfl) (by kernel_rfl)
    (ok_of (ok_one occ54_8 ok54_8 ok_end)) (by kernel_rfl) (fun x => by kernel_rfl)
noncomputable def code24 : Code := Tryd.f24.body.getD .skip
noncomputable def H24 : Nat → Option FH := fun g => bif Nat.beq g 28 then some ⟨ps28, rs28, f28⟩ else bif Nat.beq g 54 then some ⟨ps54, rs54, f54⟩ else none
theorem hH24 : ∀ g h, H24 g = some h → Con Tryd.prog env g h := hH_cons con28 (hH_cons con54 hH_nil)
theorem con24 : Con Tryd.prog env 24 ⟨ps24, rs24, f24⟩ :=
  con_of (T := []) (H := H24) (n := 109) (c := code24) envOk hH24 Tryd.func24 (by kernel_rfl) (by kernel_rfl) (by kernel_rfl) (by kernel_rfl)
    (ok_nil) (by kernel_rfl) (fun x => by kernel_rfl)
noncomputable def code25 : Code := Tryd.f25.body.getD .skip
noncomputable def H25 : Nat → Option FH := fun g => bif Nat.beq g 51 then some ⟨ps51, rs51, f51⟩ else none
theorem hH25 : ∀ g h, H25 g = some h → Con Tryd.prog env g h := hH_cons con51 hH_nil
theorem con25 : Con Tryd.prog env 25 ⟨ps25, rs25, f25⟩ :=
  con_of (T := []) (H := H25) (n := 51) (c := code25) envOk hH25 Tryd.func25 (by kernel_rfl) (by kernel_rfl) (by kernel_rfl) (by kernel_rfl)
    (ok_nil) (by kernel_rfl) (fun x => by kernel_rfl)
noncomputable def code26 : Code := Tryd.f26.body.getD .skip
def H26 : Nat → Option FH := fun _ => none
theorem hH26 : ∀ g h, H26 g = some h → Con Tryd.prog env g h := fun g h hh => by cases hh
noncomputable def c26_8 : Code := inner (at' code26 8)
noncomputable def c26_52 : Code := inner (at' c26_8 52)
noncomputable def c26_24 : Code := inner (at' c26_8 24)
noncomputable def p26_24 : Pc := ⟨24, sh26_24, outs26_24, loopF f26_24⟩
theorem occ26_24 : occ c26_8 24 = [.loop c26_24] := by kernel_rfl
theorem ok26_24 : PcOk Tryd.prog env 0 63 p26_24 (.loop c26_24) :=
  loop_ok (T := []) (H := H26) envOk hH26 (ok_nil) (by kernel_rfl) (fun x => by kernel_rfl)
noncomputable def p26_52 : Pc := ⟨52, sh26_52, outs26_52, loopF f26_52⟩
theorem occ26_52 : occ c26_8 52 = [.loop c26_52] := by kernel_rfl
theorem ok26_52 : PcOk Tryd.prog env 0 63 p26_52 (.loop c26_52) :=
  loop_ok (T := []) (H := H26) envOk hH26 (ok_nil) (by kernel_rfl) (fun x => by kernel_rfl)
noncomputable def p26_8 : Pc := ⟨8, sh26_8, outs26_8, loopF f26_8⟩
theorem occ26_8 : occ code26 8 = [.loop c26_8] := by kernel_rfl
theorem ok26_8 : PcOk Tryd.prog env 0 63 p26_8 (.loop c26_8) :=
  loop_ok (T := [p26_24, p26_52]) (H := H26) envOk hH26 (ok_of (ok_one occ26_24 ok26_24 (ok_one occ26_52 ok26_52 ok_end))) (by kernel_rfl) (fun x => by kernel_rfl)
theorem con26 : Con Tryd.prog env 26 ⟨ps26, rs26, f26⟩ :=
  con_of (T := [p26_8]) (H := H26) (n := 63) (c := code26) envOk hH26 Tryd.func26 (by kernel_rfl) (by kernel_rfl) (by kernel_rfl) (by kernel_rfl)
    (ok_of (ok_one occ26_8 ok26_8 ok_end)) (by kernel_rfl) (fun x => by kernel_rfl)
noncomputable def code27 : Code := Tryd.f27.body.getD .skip
noncomputable def H27 : Nat → Option FH := fun g => bif Nat.beq g 22 then some ⟨ps22, rs22, f22⟩ else none
theorem hH27 : ∀ g h, H27 g = some h → Con Tryd.prog env g h := hH_cons con22 hH_nil
noncomputable def c27_84 : Code := inner (at' code27 84)
noncomputable def p27_84 : Pc := ⟨84, sh27_84, outs27_84, loopF f27_84⟩
theorem occ27_84 : occ code27 84 = [.loop c27_84] := by kernel_rfl
theorem ok27_84 : PcOk Tryd.prog env 0 127 p27_84 (.loop c27_84) :=
  loop_ok (T := []) (H := H27) envOk hH27 (ok_nil) (by kernel_rfl) (fun x => by kernel_rfl)
theorem con27 : Con Tryd.prog env 27 ⟨ps27, rs27, f27⟩ :=
  con_of (T := [p27_84]) (H := H27) (n := 127) (c := code27) envOk hH27 Tryd.func27 (by kernel_rfl) (by kernel_rfl) (by kernel_rfl) (by kernel_rfl)
    (ok_of (ok_one occ27_84 ok27_84 ok_end)) (by kernel_rfl) (fun x => by kernel_rfl)
noncomputable def code29 : Code := Tryd.f29.body.getD .skip
def H29 : Nat → Option FH := fun _ => none
theorem hH29 : ∀ g h, H29 g = some h → Con Tryd.prog env g h := fun g h hh => by cases hh
noncomputable def c29_40 : Code := inner (at' code29 40)
noncomputable def c29_16 : Code := inner (at' code29 16)
noncomputable def p29_16 : Pc := ⟨16, sh29_16, outs29_16, loopF f29_16⟩
theorem occ29_16 : occ code29 16 = [.loop c29_16] := by kernel_rfl
theorem ok29_16 : PcOk Tryd.prog env 0 59 p29_16 (.loop c29_16) :=
  loop_ok (T := []) (H := H29) envOk hH29 (ok_nil) (by kernel_rfl) (fun x => by kernel_rfl)
noncomputable def p29_40 : Pc := ⟨40, sh29_40, outs29_40, loopF f29_40⟩
theorem occ29_40 : occ code29 40 = [.loop c29_40] := by kernel_rfl
theorem ok29_40 : PcOk Tryd.prog env 0 59 p29_40 (.loop c29_40) :=
  loop_ok (T := []) (H := H29) envOk hH29 (ok_nil) (by kernel_rfl) (fun x => by kernel_rfl)
theorem con29 : Con Tryd.prog env 29 ⟨ps29, rs29, f29⟩ :=
  con_of (T := [p29_16, p29_40]) (H := H29) (n := 59) (c := code29) envOk hH29 Tryd.func29 (by kernel_rfl) (by kernel_rfl) (by kernel_rfl) (by kernel_rfl)
    (ok_of (ok_one occ29_16 ok29_16 (ok_one occ29_40 ok29_40 ok_end))) (by kernel_rfl) (fun x => by kernel_rfl)
noncomputable def code12 : Code := Tryd.f12.body.getD .skip
noncomputable def H12 : Nat → Option FH := fun g => bif Nat.beq g 20 then some ⟨ps20, rs20, f20⟩ else bif Nat.beq g 21 then some ⟨ps21, rs21, f21⟩ else bif Nat.beq g 22 then some ⟨ps22, rs22, f22⟩ else bif Nat.beq g 23 then some ⟨ps23, rs23, f23⟩ else bif Nat.beq g 24 then some ⟨ps24, rs24, f24⟩ else bif Nat.beq g 25 then some ⟨ps25, rs25, f25⟩ else bif Nat.beq g 26 then some ⟨ps26, rs26, f26⟩ else bif Nat.beq g 27 then some ⟨ps27, rs27, f27⟩ else bif Nat.beq g 28 then some ⟨ps28, rs28, f28⟩ else bif Nat.beq g 29 then some ⟨ps29, rs29, f29⟩ else none
theorem hH12 : ∀ g h, H12 g = some h → Con Tryd.prog env g h := hH_cons con20 (hH_cons con21 (hH_cons con22 (hH_cons con23 (hH_cons con24 (hH_cons con25 (hH_cons con26 (hH_cons con27 (hH_cons con28 (hH_cons con29 hH_nil)))))))))
noncomputable def c12_52 : Code := inner (at' code12 52)
noncomputable def c12_148 : Code := inner (at' c12_52 148)
noncomputable def c12_72 : Code := inner (at' c12_52 72)
noncomputable def c12_56 : Code := inner (at' c12_52 56)
noncomputable def c12_24 : Code := inner (at' code12 24)
noncomputable def p12_24 : Pc := ⟨24, sh12_24, outs12_24, loopF f12_24⟩
theorem occ12_24 : occ code12 24 = [.loop c12_24] := by kernel_rfl
theorem ok12_24 : PcOk Tryd.prog env 0 210 p12_24 (.loop c12_24) :=
  loop_ok (T := []) (H := H12) envOk hH12 (ok_nil) (by kernel_rfl) (fun x => by kernel_rfl)
noncomputable def p12_56 : Pc := ⟨56, sh12_56, outs12_56, loopF f12_56⟩
theorem occ12_56 : occ c12_52 56 = [.loop c12_56] := by kernel_rfl
theorem ok12_56 : PcOk Tryd.prog env 0 210 p12_56 (.loop c12_56) :=
  loop_ok (T := []) (H := H12) envOk hH12 (ok_nil) (by kernel_rfl) (fun x => by kernel_rfl)
noncomputable def p12_72 : Pc := ⟨72, sh12_72, outs12_72, loopF f12_72⟩
theorem occ12_72 : occ c12_52 72 = [.loop c12_72] := by kernel_rfl
theorem ok12_72 : PcOk Tryd.prog env 0 210 p12_72 (.loop c12_72) :=
  loop_ok (T := []) (H := H12) envOk hH12 (ok_nil) (by kernel_rfl) (fun x => by kernel_rfl)
noncomputable def p12_148 : Pc := ⟨148, sh12_148, outs12_148, loopF f12_148⟩
theorem occ12_148 : occ c12_52 148 = [.loop c12_148] := by kernel_rfl
theorem ok12_148 : PcOk Tryd.prog env 0 210 p12_148 (.loop c12_148) :=
  loop_ok (T := []) (H := H12) envOk hH12 (ok_nil) (by kernel_rfl) (fun x => by kernel_rfl)
noncomputable def p12_52 : Pc := ⟨52, sh12_52, outs12_52, loopF f12_52⟩
theorem occ12_52 : occ code12 52 = [.loop c12_52] := by kernel_rfl
theorem ok12_52 : PcOk Tryd.prog env 0 210 p12_52 (.loop c12_52) :=
  loop_ok (T := [p12_56, p12_72, p12_148]) (H := H12) envOk hH12 (ok_of (ok_one occ12_56 ok12_56 (ok_one occ12_72 ok12_72 (ok_one occ12_148 ok12_148 ok_end)))) (by kernel_rfl) (fun x => by kernel_rfl)
theorem con12 : Con Tryd.prog env 12 ⟨ps12, rs12, f12⟩ :=
  con_of (T := [p12_24, p12_52]) (H := H12) (n := 210) (c := code12) envOk hH12 Tryd.func12 (by kernel_rfl) (by kernel_rfl) (by kernel_rfl) (by kernel_rfl)
    (ok_of (ok_one occ12_24 ok12_24 (ok_one occ12_52 ok12_52 ok_end))) (by kernel_rfl) (fun x => by kernel_rfl)
noncomputable def code5 : Code := Tryd.f5.body.getD .skip
noncomputable def H5 : Nat → Option FH := fun g => bif Nat.beq g 11 then some ⟨ps11, rs11, f11⟩ else bif Nat.beq g 12 then some ⟨ps12, rs12, f12⟩ else none
theorem hH5 : ∀ g h, H5 g = some h → Con Tryd.prog env g h := hH_cons con11 (hH_cons con12 hH_nil)
noncomputable def c5_20 : Code := inner (at' code5 20)
noncomputable def p5_20 : Pc := ⟨20, sh5_20, outs5_20, loopF f5_20⟩
theorem occ5_20 : occ code5 20 = [.loop c5_20] := by kernel_rfl
theorem ok5_20 : PcOk Tryd.prog env 0 31 p5_20 (.loop c5_20) :=
  loop_ok (T := []) (H := H5) envOk hH5 (ok_nil) (by kernel_rfl) (fun x => by kernel_rfl)
theorem con5 : Con Tryd.prog env 5 ⟨ps5, rs5, f5⟩ :=
  con_of (T := [p5_20]) (H := H5) (n := 31) (c := code5) envOk hH5 Tryd.func5 (by kernel_rfl) (by kernel_rfl) (by kernel_rfl) (by kernel_rfl)
    (ok_of (ok_one occ5_20 ok5_20 ok_end)) (by kernel_rfl) (fun x => by kernel_rfl)
noncomputable def code75 : Code := Tryd.f75.body.getD .skip
def H75 : Nat → Option FH := fun _ => none
theorem hH75 : ∀ g h, H75 g = some h → Con Tryd.prog env g h := fun g h hh => by cases hh
theorem con75 : Con Tryd.prog env 75 ⟨ps75, rs75, f75⟩ :=
  con_of (T := []) (H := H75) (n := 11) (c := code75) envOk hH75 Tryd.func75 (by kernel_rfl) (by kernel_rfl) (by kernel_rfl) (by kernel_rfl)
    (ok_nil) (by kernel_rfl) (fun x => by kernel_rfl)
noncomputable def code55 : Code := Tryd.f55.body.getD .skip
noncomputable def H55 : Nat → Option FH := fun g => bif Nat.beq g 75 then some ⟨ps75, rs75, f75⟩ else none
theorem hH55 : ∀ g h, H55 g = some h → Con Tryd.prog env g h := hH_cons con75 hH_nil
noncomputable def c55_12 : Code := inner (at' code55 12)
noncomputable def p55_12 : Pc := ⟨12, sh55_12, outs55_12, loopF f55_12⟩
theorem occ55_12 : occ code55 12 = [.loop c55_12] := by kernel_rfl
theorem ok55_12 : PcOk Tryd.prog env 0 23 p55_12 (.loop c55_12) :=
  loop_ok (T := []) (H := H55) envOk hH55 (ok_nil) (by kernel_rfl) (fun x => by kernel_rfl)
theorem con55 : Con Tryd.prog env 55 ⟨ps55, rs55, f55⟩ :=
  con_of (T := [p55_12]) (H := H55) (n := 23) (c := code55) envOk hH55 Tryd.func55 (by kernel_rfl) (by kernel_rfl) (by kernel_rfl) (by kernel_rfl)
    (ok_of (ok_one occ55_12 ok55_12 ok_end)) (by kernel_rfl) (fun x => by kernel_rfl)
noncomputable def code76 : Code := Tryd.f76.body.getD .skip
def H76 : Nat → Option FH := fun _ => none
theorem hH76 : ∀ g h, H76 g = some h → Con Tryd.prog env g h := fun g h hh => by cases hh
theorem con76 : Con Tryd.prog env 76 ⟨ps76, rs76, f76⟩ :=
  con_of (T := []) (H := H76) (n := 20) (c := code76) envOk hH76 Tryd.func76 (by kernel_rfl) (by kernel_rfl) (by kernel_rfl) (by kernel_rfl)
    (ok_nil) (by kernel_rfl) (fun x => by kernel_rfl)
noncomputable def code56 : Code := Tryd.f56.body.getD .skip
noncomputable def H56 : Nat → Option FH := fun g => bif Nat.beq g 76 then some ⟨ps76, rs76, f76⟩ else none
theorem hH56 : ∀ g h, H56 g = some h → Con Tryd.prog env g h := hH_cons con76 hH_nil
noncomputable def c56_12 : Code := inner (at' code56 12)
noncomputable def p56_12 : Pc := ⟨12, sh56_12, outs56_12, loopF f56_12⟩
theorem occ56_12 : occ code56 12 = [.loop c56_12] := by kernel_rfl
theorem ok56_12 : PcOk Tryd.prog env 0 23 p56_12 (.loop c56_12) :=
  loop_ok (T := []) (H := H56) envOk hH56 (ok_nil) (by kernel_rfl) (fun x => by kernel_rfl)
theorem con56 : Con Tryd.prog env 56 ⟨ps56, rs56, f56⟩ :=
  con_of (T := [p56_12]) (H := H56) (n := 23) (c := code56) envOk hH56 Tryd.func56 (by kernel_rfl) (by kernel_rfl) (by kernel_rfl) (by kernel_rfl)
    (ok_of (ok_one occ56_12 ok56_12 ok_end)) (by kernel_rfl) (fun x => by kernel_rfl)
noncomputable def code77 : Code := Tryd.f77.body.getD .skip
def H77 : Nat → Option FH := fun _ => none
theorem hH77 : ∀ g h, H77 g = some h → Con Tryd.prog env g h := fun g h hh => by cases hh
theorem con77 : Con Tryd.prog env 77 ⟨ps77, rs77, f77⟩ :=
  con_of (T := []) (H := H77) (n := 20) (c := code77) envOk hH77 Tryd.func77 (by kernel_rfl) (by kernel_rfl) (by kernel_rfl) (by kernel_rfl)
    (ok_nil) (by kernel_rfl) (fun x => by kernel_rfl)
noncomputable def code57 : Code := Tryd.f57.body.getD .skip
noncomputable def H57 : Nat → Option FH := fun g => bif Nat.beq g 77 then some ⟨ps77, rs77, f77⟩ else none
theorem hH57 : ∀ g h, H57 g = some h → Con Tryd.prog env g h := hH_cons con77 hH_nil
noncomputable def c57_12 : Code := inner (at' code57 12)
noncomputable def p57_12 : Pc := ⟨12, sh57_12, outs57_12, loopF f57_12⟩
theorem occ57_12 : occ code57 12 = [.loop c57_12] := by kernel_rfl
theorem ok57_12 : PcOk Tryd.prog env 0 23 p57_12 (.loop c57_12) :=
  loop_ok (T := []) (H := H57) envOk hH57 (ok_nil) (by kernel_rfl) (fun x => by kernel_rfl)
theorem con57 : Con Tryd.prog env 57 ⟨ps57, rs57, f57⟩ :=
  con_of (T := [p57_12]) (H := H57) (n := 23) (c := code57) envOk hH57 Tryd.func57 (by kernel_rfl) (by kernel_rfl) (by kernel_rfl) (by kernel_rfl)
    (ok_of (ok_one occ57_12 ok57_12 ok_end)) (by kernel_rfl) (fun x => by kernel_rfl)
noncomputable def code78 : Code := Tryd.f78.body.getD .skip
def H78 : Nat → Option FH := fun _ => none
theorem hH78 : ∀ g h, H78 g = some h → Con Tryd.prog env g h := fun g h hh => by cases hh
theorem con78 : Con Tryd.prog env 78 ⟨ps78, rs78, f78⟩ :=
  con_of (T := []) (H := H78) (n := 17) (c := code78) envOk hH78 Tryd.func78 (by kernel_rfl) (by kernel_rfl) (by kernel_rfl) (by kernel_rfl)
    (ok_nil) (by kernel_rfl) (fun x => by kernel_rfl)
noncomputable def code58 : Code := Tryd.f58.body.getD .skip
noncomputable def H58 : Nat → Option FH := fun g => bif Nat.beq g 78 then some ⟨ps78, rs78, f78⟩ else none
theorem hH58 : ∀ g h, H58 g = some h → Con Tryd.prog env g h := hH_cons con78 hH_nil
noncomputable def c58_12 : Code := inner (at' code58 12)
noncomputable def p58_12 : Pc := ⟨12, sh58_12, outs58_12, loopF f58_12⟩
theorem occ58_12 : occ code58 12 = [.loop c58_12] := by kernel_rfl
theorem ok58_12 : PcOk Tryd.prog env 0 23 p58_12 (.loop c58_12) :=
  loop_ok (T := []) (H := H58) envOk hH58 (ok_nil) (by kernel_rfl) (fun x => by kernel_rfl)
theorem con58 : Con Tryd.prog env 58 ⟨ps58, rs58, f58⟩ :=
  con_of (T := [p58_12]) (H := H58) (n := 23) (c := code58) envOk hH58 Tryd.func58 (by kernel_rfl) (by kernel_rfl) (by kernel_rfl) (by kernel_rfl)
    (ok_of (ok_one occ58_12 ok58_12 ok_end)) (by kernel_rfl) (fun x => by kernel_rfl)
noncomputable def code30 : Code := Tryd.f30.body.getD .skip
noncomputable def H30 : Nat → Option FH := fun g => bif Nat.beq g 55 then some ⟨ps55, rs55, f55⟩ else bif Nat.beq g 56 then some ⟨ps56, rs56, f56⟩ else bif Nat.beq g 57 then some ⟨ps57, rs57, f57⟩ else bif Nat.beq g 58 then some ⟨ps58, rs58, f58⟩ else none
theorem hH30 : ∀ g h, H30 g = some h → Con Tryd.prog env g h := hH_cons con55 (hH_cons con56 (hH_cons con57 (hH_cons con58 hH_nil)))
theorem con30 : Con Tryd.prog env 30 ⟨ps30, rs30, f30⟩ :=
  con_of (T := []) (H := H30) (n := 36) (c := code30) envOk hH30 Tryd.func30 (by kernel_rfl) (by kernel_rfl) (by kernel_rfl) (by kernel_rfl)
    (ok_nil) (by kernel_rfl) (fun x => by kernel_rfl)
end Go.Ev.L3
