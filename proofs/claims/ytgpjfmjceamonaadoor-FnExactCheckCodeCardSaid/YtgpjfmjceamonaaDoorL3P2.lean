import Derived.Test.YtgpjfmjceamonaaDoorL3P1
namespace Go.Ev.L3
open Go.Proofs
noncomputable def code13 : Code := Tryd.f13.body.getD .skip
noncomputable def H13 : Nat → Option FH := fun g => bif Nat.beq g 30 then some ⟨ps30, rs30, f30⟩ else none
theorem hH13 : ∀ g h, H13 g = some h → Con Tryd.prog env g h := hH_cons con30 hH_nil
noncomputable def c13_12 : Code := inner (at' code13 12)
noncomputable def p13_12 : Pc := ⟨12, sh13_12, outs13_12, loopF f13_12⟩
theorem occ13_12 : occ code13 12 = [.loop c13_12] := by kernel_rfl
theorem ok13_12 : PcOk Tryd.prog env 0 23 p13_12 (.loop c13_12) :=
  loop_ok (T := []) (H := H13) envOk hH13 (ok_nil) (by kernel_rfl) (fun x => by kernel_rfl)
theorem con13 : Con Tryd.prog env 13 ⟨ps13, rs13, f13⟩ :=
  con_of (T := [p13_12]) (H := H13) (n := 23) (c := code13) envOk hH13 Tryd.func13 (by kernel_rfl) (by kernel_rfl) (by kernel_rfl) (by kernel_rfl)
    (ok_of (ok_one occ13_12 ok13_12 ok_end)) (by kernel_rfl) (fun x => by kernel_rfl)
noncomputable def code6 : Code := Tryd.f6.body.getD .skip
noncomputable def H6 : Nat → Option FH := fun g => bif Nat.beq g 13 then some ⟨ps13, rs13, f13⟩ else none
theorem hH6 : ∀ g h, H6 g = some h → Con Tryd.prog env g h := hH_cons con13 hH_nil
theorem con6 : Con Tryd.prog env 6 ⟨ps6, rs6, f6⟩ :=
  con_of (T := []) (H := H6) (n := 9) (c := code6) envOk hH6 Tryd.func6 (by kernel_rfl) (by kernel_rfl) (by kernel_rfl) (by kernel_rfl)
    (ok_nil) (by kernel_rfl) (fun x => by kernel_rfl)
noncomputable def code31 : Code := Tryd.f31.body.getD .skip
def H31 : Nat → Option FH := fun _ => none
theorem hH31 : ∀ g h, H31 g = some h → Con Tryd.prog env g h := fun g h hh => by cases hh
theorem con31 : Con Tryd.prog env 31 ⟨ps31, rs31, f31⟩ :=
  con_of (T := []) (H := H31) (n := 15) (c := code31) envOk hH31 Tryd.func31 (by kernel_rfl) (by kernel_rfl) (by kernel_rfl) (by kernel_rfl)
    (ok_nil) (by kernel_rfl) (fun x => by kernel_rfl)
noncomputable def code59 : Code := Tryd.f59.body.getD .skip
def H59 : Nat → Option FH := fun _ => none
theorem hH59 : ∀ g h, H59 g = some h → Con Tryd.prog env g h := fun g h hh => by cases hh
theorem con59 : Con Tryd.prog env 59 ⟨ps59, rs59, f59⟩ :=
  con_of (T := []) (H := H59) (n := 41) (c := code59) envOk hH59 Tryd.func59 (by kernel_rfl) (by kernel_rfl) (by kernel_rfl) (by kernel_rfl)
    (ok_nil) (by kernel_rfl) (fun x => by kernel_rfl)
noncomputable def code32 : Code := Tryd.f32.body.getD .skip
noncomputable def H32 : Nat → Option FH := fun g => bif Nat.beq g 59 then some ⟨ps59, rs59, f59⟩ else none
theorem hH32 : ∀ g h, H32 g = some h → Con Tryd.prog env g h := hH_cons con59 hH_nil
theorem con32 : Con Tryd.prog env 32 ⟨ps32, rs32, f32⟩ :=
  con_of (T := []) (H := H32) (n := 66) (c := code32) envOk hH32 Tryd.func32 (by kernel_rfl) (by kernel_rfl) (by kernel_rfl) (by kernel_rfl)
    (ok_nil) (by kernel_rfl) (fun x => by kernel_rfl)
noncomputable def code33 : Code := Tryd.f33.body.getD .skip
def H33 : Nat → Option FH := fun _ => none
theorem hH33 : ∀ g h, H33 g = some h → Con Tryd.prog env g h := fun g h hh => by cases hh
theorem con33 : Con Tryd.prog env 33 ⟨ps33, rs33, f33⟩ :=
  con_of (T := []) (H := H33) (n := 6) (c := code33) envOk hH33 Tryd.func33 (by kernel_rfl) (by kernel_rfl) (by kernel_rfl) (by kernel_rfl)
    (ok_nil) (by kernel_rfl) (fun x => by kernel_rfl)
noncomputable def code61 : Code := Tryd.f61.body.getD .skip
def H61 : Nat → Option FH := fun _ => none
theorem hH61 : ∀ g h, H61 g = some h → Con Tryd.prog env g h := fun g h hh => by cases hh
theorem con61 : Con Tryd.prog env 61 ⟨ps61, rs61, f61⟩ :=
  con_of (T := []) (H := H61) (n := 12) (c := code61) envOk hH61 Tryd.func61 (by kernel_rfl) (by kernel_rfl) (by kernel_rfl) (by kernel_rfl)
    (ok_nil) (by kernel_rfl) (fun x => by kernel_rfl)
noncomputable def code62 : Code := Tryd.f62.body.getD .skip
noncomputable def H62 : Nat → Option FH := fun g => bif Nat.beq g 31 then some ⟨ps31, rs31, f31⟩ else none
theorem hH62 : ∀ g h, H62 g = some h → Con Tryd.prog env g h := hH_cons con31 hH_nil
theorem con62 : Con Tryd.prog env 62 ⟨ps62, rs62, f62⟩ :=
  con_of (T := []) (H := H62) (n := 114) (c := code62) envOk hH62 Tryd.func62 (by kernel_rfl) (by kernel_rfl) (by kernel_rfl) (by kernel_rfl)
    (ok_nil) (by kernel_rfl) (fun x => by kernel_rfl)
noncomputable def code35 : Code := Tryd.f35.body.getD .skip
noncomputable def H35 : Nat → Option FH := fun g => bif Nat.beq g 61 then some ⟨ps61, rs61, f61⟩ else bif Nat.beq g 62 then some ⟨ps62, rs62, f62⟩ else none
theorem hH35 : ∀ g h, H35 g = some h → Con Tryd.prog env g h := hH_cons con61 (hH_cons con62 hH_nil)
noncomputable def c35_20 : Code := inner (at' code35 20)
noncomputable def p35_20 : Pc := ⟨20, sh35_20, outs35_20, loopF f35_20⟩
theorem occ35_20 : occ code35 20 = [.loop c35_20] := by kernel_rfl
theorem ok35_20 : PcOk Tryd.prog env 0 35 p35_20 (.loop c35_20) :=
  loop_ok (T := []) (H := H35) envOk hH35 (ok_nil) (by kernel_rfl) (fun x => by kernel_rfl)
theorem con35 : Con Tryd.prog env 35 ⟨ps35, rs35, f35⟩ :=
  con_of (T := [p35_20]) (H := H35) (n := 35) (c := code35) envOk hH35 Tryd.func35 (by kernel_rfl) (by kernel_rfl) (by kernel_rfl) (by kernel_rfl)
    (ok_of (ok_one occ35_20 ok35_20 ok_end)) (by kernel_rfl) (fun x => by kernel_rfl)
noncomputable def code14 : Code := Tryd.f14.body.getD .skip
noncomputable def H14 : Nat → Option FH := fun g => bif Nat.beq g 31 then some ⟨ps31, rs31, f31⟩ else bif Nat.beq g 32 then some ⟨ps32, rs32, f32⟩ else bif Nat.beq g 33 then some ⟨ps33, rs33, f33⟩ else bif Nat.beq g 34 then some ⟨ps34, rs34, f34⟩ else bif Nat.beq g 35 then some ⟨ps35, rs35, f35⟩ else none
theorem hH14 : ∀ g h, H14 g = some h → Con Tryd.prog env g h := hH_cons con31 (hH_cons con32 (hH_cons con33 (hH_cons con34 (hH_cons con35 hH_nil))))
noncomputable def c14_284 : Code := inner (at' code14 284)
noncomputable def c14_208 : Code := inner (at' code14 208)
noncomputable def c14_220 : Code := inner (at' c14_208 220)
noncomputable def c14_244 : Code := inner (at' c14_220 244)
noncomputable def c14_156 : Code := inner (at' code14 156)
noncomputable def c14_176 : Code := inner (at' c14_156 176)
noncomputable def c14_116 : Code := inner (at' code14 116)
noncomputable def c14_128 : Code := inner (at' c14_116 128)
noncomputable def c14_76 : Code := inner (at' code14 76)
noncomputable def c14_88 : Code := inner (at' c14_76 88)
noncomputable def c14_40 : Code := inner (at' code14 40)
noncomputable def c14_12 : Code := inner (at' code14 12)
noncomputable def p14_12 : Pc := ⟨12, sh14_12, outs14_12, loopF f14_12⟩
theorem occ14_12 : occ code14 12 = [.loop c14_12] := by kernel_rfl
theorem ok14_12 : PcOk Tryd.prog env 0 405 p14_12 (.loop c14_12) :=
  loop_ok (T := []) (H := H14) envOk hH14 (ok_nil) (by kernel_rfl) (fun x => by kernel_rfl)
noncomputable def p14_40 : Pc := ⟨40, sh14_40, outs14_40, loopF f14_40⟩
theorem occ14_40 : occ code14 40 = [.loop c14_40] := by kernel_rfl
theorem ok14_40 : PcOk Tryd.prog env 0 405 p14_40 (.loop c14_40) :=
  loop_ok (T := []) (H := H14) envOk hH14 (ok_nil) (by kernel_rfl) (fun x => by kernel_rfl)
noncomputable def p14_88 : Pc := ⟨88, sh14_88, outs14_88, loopF f14_88⟩
theorem occ14_88 : occ c14_76 88 = [.loop c14_88] := by kernel_rfl
theorem ok14_88 : PcOk Tryd.prog env 0 405 p14_88 (.loop c14_88) :=
  loop_ok (T := []) (H := H14) envOk hH14 (ok_nil) (by kernel_rfl) (fun x => by kernel_rfl)
noncomputable def p14_76 : Pc := ⟨76, sh14_76, outs14_76, loopF f14_76⟩
theorem occ14_76 : occ code14 76 = [.loop c14_76] := by kernel_rfl
theorem ok14_76 : PcOk Tryd.prog env 0 405 p14_76 (.loop c14_76) :=
  loop_ok (T := [p14_88]) (H := H14) envOk hH14 (ok_of (ok_one occ14_88 ok14_88 ok_end)) (by kernel_rfl) (fun x => by kernel_rfl)
noncomputable def p14_128 : Pc := ⟨128, sh14_128, outs14_128, loopF f14_128⟩
theorem occ14_128 : occ c14_116 128 = [.loop c14_128] := by kernel_rfl
theorem ok14_128 : PcOk Tryd.prog env 0 405 p14_128 (.loop c14_128) :=
  loop_ok (T := []) (H := H14) envOk hH14 (ok_nil) (by kernel_rfl) (fun x => by kernel_rfl)
noncomputable def p14_116 : Pc := ⟨116, sh14_116, outs14_116, loopF f14_116⟩
theorem occ14_116 : occ code14 116 = [.loop c14_116] := by kernel_rfl
theorem ok14_116 : PcOk Tryd.prog env 0 405 p14_116 (.loop c14_116) :=
  loop_ok (T := [p14_128]) (H := H14) envOk hH14 (ok_of (ok_one occ14_128 ok14_128 ok_end)) (by kernel_rfl) (fun x => by kernel_rfl)
noncomputable def p14_176 : Pc := ⟨176, sh14_176, outs14_176, loopF f14_176⟩
theorem occ14_176 : occ c14_156 176 = [.loop c14_176] := by kernel_rfl
theorem ok14_176 : PcOk Tryd.prog env 0 405 p14_176 (.loop c14_176) :=
  loop_ok (T := []) (H := H14) envOk hH14 (ok_nil) (by kernel_rfl) (fun x => by kernel_rfl)
noncomputable def p14_156 : Pc := ⟨156, sh14_156, outs14_156, loopF f14_156⟩
theorem occ14_156 : occ code14 156 = [.loop c14_156] := by kernel_rfl
theorem ok14_156 : PcOk Tryd.prog env 0 405 p14_156 (.loop c14_156) :=
  loop_ok (T := [p14_176]) (H := H14) envOk hH14 (ok_of (ok_one occ14_176 ok14_176 ok_end)) (by kernel_rfl) (fun x => by kernel_rfl)
noncomputable def p14_244 : Pc := ⟨244, sh14_244, outs14_244, loopF f14_244⟩
theorem occ14_244 : occ c14_220 244 = [.loop c14_244] := by kernel_rfl
theorem ok14_244 : PcOk Tryd.prog env 0 405 p14_244 (.loop c14_244) :=
  loop_ok (T := []) (H := H14) envOk hH14 (ok_nil) (by kernel_rfl) (fun x => by kernel_rfl)
noncomputable def p14_220 : Pc := ⟨220, sh14_220, outs14_220, loopF f14_220⟩
theorem occ14_220 : occ c14_208 220 = [.loop c14_220] := by kernel_rfl
theorem ok14_220 : PcOk Tryd.prog env 0 405 p14_220 (.loop c14_220) :=
  loop_ok (T := [p14_244]) (H := H14) envOk hH14 (ok_of (ok_one occ14_244 ok14_244 ok_end)) (by kernel_rfl) (fun x => by kernel_rfl)
noncomputable def p14_208 : Pc := ⟨208, sh14_208, outs14_208, loopF f14_208⟩
theorem occ14_208 : occ code14 208 = [.loop c14_208] := by kernel_rfl
theorem ok14_208 : PcOk Tryd.prog env 0 405 p14_208 (.loop c14_208) :=
  loop_ok (T := [p14_220]) (H := H14) envOk hH14 (ok_of (ok_one occ14_220 ok14_220 ok_end)) (by kernel_rfl) (fun x => by kernel_rfl)
noncomputable def p14_284 : Pc := ⟨284, sh14_284, outs14_284, loopF f14_284⟩
theorem occ14_284 : occ code14 284 = [.loop c14_284] := by kernel_rfl
theorem ok14_284 : PcOk Tryd.prog env 0 405 p14_284 (.loop c14_284) :=
  loop_ok (T := []) (H := H14) envOk hH14 (ok_nil) (by kernel_rfl) (fun x => by kernel_rfl)
theorem con14 : Con Tryd.prog env 14 ⟨ps14, rs14, f14⟩ :=
  con_of (T := [p14_12, p14_40, p14_76, p14_116, p14_156, p14_208, p14_284]) (H := H14) (n := 405) (c := code14) envOk hH14 Tryd.func14 (by kernel_rfl) (by kernel_rfl) (by kernel_rfl) (by kernel_rfl)
    (ok_of (ok_one occ14_12 ok14_12 (ok_one occ14_40 ok14_40 (ok_one occ14_76 ok14_76 (ok_one occ14_116 ok14_116 (ok_one occ14_156 ok14_156 (ok_one occ14_208 ok14_208 (ok_one occ14_284 ok14_284 ok_end)))))))) (by kernel_rfl) (fun x => by kernel_rfl)
noncomputable def code37 : Code := Tryd.f37.body.getD .skip
def H37 : Nat → Option FH := fun _ => none
theorem hH37 : ∀ g h, H37 g = some h → Con Tryd.prog env g h := fun g h hh => by cases hh
theorem con37 : Con Tryd.prog env 37 ⟨ps37, rs37, f37⟩ :=
  con_of (T := []) (H := H37) (n := 12) (c := code37) envOk hH37 Tryd.func37 (by kernel_rfl) (by kernel_rfl) (by kernel_rfl) (by kernel_rfl)
    (ok_nil) (by kernel_rfl) (fun x => by kernel_rfl)
noncomputable def code63 : Code := Tryd.f63.body.getD .skip
def H63 : Nat → Option FH := fun _ => none
theorem hH63 : ∀ g h, H63 g = some h → Con Tryd.prog env g h := fun g h hh => by cases hh
theorem con63 : Con Tryd.prog env 63 ⟨ps63, rs63, f63⟩ :=
  con_of (T := []) (H := H63) (n := 5) (c := code63) envOk hH63 Tryd.func63 (by kernel_rfl) (by kernel_rfl) (by kernel_rfl) (by kernel_rfl)
    (ok_nil) (by kernel_rfl) (fun x => by kernel_rfl)
noncomputable def code65 : Code := Tryd.f65.body.getD .skip
def H65 : Nat → Option FH := fun _ => none
theorem hH65 : ∀ g h, H65 g = some h → Con Tryd.prog env g h := fun g h hh => by cases hh
theorem con65 : Con Tryd.prog env 65 ⟨ps65, rs65, f65⟩ :=
  con_of (T := []) (H := H65) (n := 12) (c := code65) envOk hH65 Tryd.func65 (by kernel_rfl) (by kernel_rfl) (by kernel_rfl) (by kernel_rfl)
    (ok_nil) (by kernel_rfl) (fun x => by kernel_rfl)
noncomputable def code36 : Code := Tryd.f36.body.getD .skip
noncomputable def H36 : Nat → Option FH := fun g => bif Nat.beq g 37 then some ⟨ps37, rs37, f37⟩ else bif Nat.beq g 61 then some ⟨ps61, rs61, f61⟩ else bif Nat.beq g 63 then some ⟨ps63, rs63, f63⟩ else bif Nat.beq g 64 then some ⟨ps64, rs64, f64⟩ else bif Nat.beq g 65 then some ⟨ps65, rs65, f65⟩ else none
theorem hH36 : ∀ g h, H36 g = some h → Con Tryd.prog env g h := hH_cons con37 (hH_cons con61 (hH_cons con63 (hH_cons con64 (hH_cons con65 hH_nil))))
noncomputable def c36_528 : Code := inner (at' code36 528)
noncomputable def c36_473 : Code := (at' code36 473)
noncomputable def c36_437 : Code := (at' code36 437)
noncomputable def c36_356 : Code := inner (at' code36 356)
noncomputable def c36_396 : Code := inner (at' c36_356 396)
noncomputable def c36_372 : Code := inner (at' c36_356 372)
noncomputable def c36_349 : Code := (at' code36 349)
noncomputable def c36_316 : Code := inner (at' code36 316)
noncomputable def c36_302 : Code := (at' code36 302)
noncomputable def c36_257 : Code := (at' code36 257)
noncomputable def c36_237 : Code := (at' code36 237)
noncomputable def c36_221 : Code := (at' code36 221)
noncomputable def c36_20 : Code := inner (at' code36 20)
noncomputable def c36_172 : Code := inner (at' c36_20 172)
noncomputable def c36_195 : Code := (at' c36_20 195)
noncomputable def c36_88 : Code := inner (at' c36_20 88)
noncomputable def p36_88 : Pc := ⟨88, sh36_88, outs36_88, loopF f36_88⟩
theorem occ36_88 : occ c36_20 88 = [.loop c36_88] := by kernel_rfl
theorem ok36_88 : PcOk Tryd.prog env 0 493 p36_88 (.loop c36_88) :=
  loop_ok (T := []) (H := H36) envOk hH36 (ok_nil) (by kernel_rfl) (fun x => by kernel_rfl)
noncomputable def p36_195 : Pc := ⟨195, sh36_195, outs36_195, f36_195⟩
-- ok36_195 BY HAND
theorem occ36_195 : occ c36_20 195 = [c36_195] := by kernel_rfl
noncomputable def rg (c : Code) (k : Nat) (i : Nat) : Oper := match occ c k with
  | [.region _ ops _] => ops.getD i default
  | _ => default
noncomputable def lb36 : Code := inner (at' c36_195 196)
noncomputable def B36 : Code := at' lb36 207
abbrev ks36 : List Nat := [2, 4, 7, 10, 11, 12, 51, 52]
abbrev vs36 : List VS := [.val (.int .i64), .box 31 [.sc Y5], .box 65 [.sc Y8], .box 59 [.sc Y2], .box 65 [.sc .bool, .own 3 (.int .i64), .own 111 Y7], .own 3 (.int .i64), .val Y10, .val (.int .i64)]
abbrev shR36 : Sh := (outs36_195.getD 1 (.ret, ⟨[], [], []⟩)).2
abbrev Y36 := Int × (S8 × Unit) × (S6 × Unit) × (S2 × Unit) × (Bool × (List Int) × (List S4) × Unit) × (List Int) × S10 × Int × Unit
def g36 (r : Nat) (k v : Int) (y : Y36) : Option ((Y36 × Nat) ⊕ (Int × (List S5) × Unit)) :=
  bif inR k (y.2.2.2.2.1.2.1.length : Int) then (bif bne (y.2.2.2.2.1.2.1.getD k.toNat 0) v then some (.inr (10, [], ())) else some (.inl (y, r))) else none
theorem code36_195 : c36_195 = rangeCode 48 49 50 7 8 185 (rg c36_195 194 0) (rg c36_195 194 1) (rg lb36 198 0) (rg lb36 198 1) (rg lb36 202 0) (rg lb36 202 1) (rg lb36 202 2) (rg lb36 202 3) (rg lb36 202 4) B36 := by kernel_rfl
theorem jk36 (y : Y36) (d : Nat) (hd : d ∈ [183, 184, 185, 186, 187, 188, 23, 24]) : (mkSt 493 ⟨ks36, vs36, []⟩ y).get d = AV.junk := by
  simp only [List.mem_cons, List.not_mem_nil, or_false] at hd
  rcases hd with rfl | rfl | rfl | rfl | rfl | rfl | rfl | rfl <;> kernel_rfl
theorem fit36 : Fit Tryd.prog env H36 [] 0 493 ks36 vs36 [] shR36 183 184 185 186 187 188 23 24 (rg lb36 198 0) (rg lb36 198 1) (rg lb36 202 0) (rg lb36 202 1) (rg lb36 202 2) (rg lb36 202 3) (rg lb36 202 4) B36 g36 ((10 : Int), ([] : List S5), ()) :=
  { n0 := ⟨by kernel_rfl, by kernel_rfl, by kernel_rfl⟩
    n1 := ⟨by kernel_rfl, by kernel_rfl, by kernel_rfl⟩
    e0 := ⟨by kernel_rfl, by kernel_rfl, by kernel_rfl⟩
    e1 := ⟨by kernel_rfl, by kernel_rfl, by kernel_rfl⟩
    e2 := ⟨by kernel_rfl, by kernel_rfl, by kernel_rfl⟩
    e3 := ⟨by kernel_rfl, by kernel_rfl, by kernel_rfl⟩
    e4 := ⟨by kernel_rfl, by kernel_rfl, by kernel_rfl⟩
    okT := ok_nil
    wr := by kernel_rfl
    lt := fun d hd => by
      simp only [List.mem_cons, List.not_mem_nil, or_false] at hd
      omega
    ne := by decide
    jk := fun y d hd => jk36 y d hd
    B := fun r k v y => by kernel_rfl
    g1 := fun r k v y z h => by
      unfold g36 at h
      cases h1 : inR k (y.2.2.2.2.1.2.1.length : Int) <;> rw [h1] at h
      · cases h
      · cases h2 : bne (y.2.2.2.2.1.2.1.getD k.toNat 0) v <;> rw [h2] at h <;> cases h
        rfl
    g2 := fun r k v y q h => by
      unfold g36 at h
      cases h1 : inR k (y.2.2.2.2.1.2.1.length : Int) <;> rw [h1] at h
      · cases h
      · cases h2 : bne (y.2.2.2.2.1.2.1.getD k.toNat 0) v <;> rw [h2] at h <;> cases h
        rfl
    gu := fun r r2 k v y h => by
      unfold g36 at h ⊢
      cases h1 : inR k (y.2.2.2.2.1.2.1.length : Int) <;> rw [h1] at h
      · cases h
      · cases h2 : bne (y.2.2.2.2.1.2.1.getD k.toNat 0) v <;> rw [h2] at h <;> first | rfl | cases h }
theorem ok36_195 : PcOk Tryd.prog env 0 493 p36_195 c36_195 := by
  rw [code36_195]
  refine map_range_ok (ks := ks36) (vs := vs36) (al := []) (shR := shR36) (f := f36_195) (key := 195) (tm := 16) (t1 := 182) (M := 127) envOk hH36 fit36 ⟨by kernel_rfl, by kernel_rfl, by kernel_rfl⟩ ⟨by kernel_rfl, by kernel_rfl, by kernel_rfl⟩ ⟨3, 3, by kernel_rfl⟩ ⟨by omega, by omega⟩ (fun y => by kernel_rfl) fun m y z hz => ?_
  have hz' : (mapChk y.2.2.2.2.1.2.1 m).bind (fun b => bif b then some (.inl y) else some (.inr ((10 : Int), ([] : List S5), ()))) = some z := hz
  obtain ⟨b, hb, hz'⟩ := Option.bind_eq_some_iff.1 hz'
  unfold mapChk at hb
  cases hin : m.all (fun p => inR p.1 (y.2.2.2.2.1.2.1.length : Int)) with
  | false => rw [hin] at hb; cases hb
  | true =>
    rw [hin] at hb
    have hb := Option.some.inj hb
    have hi : ∀ p, p ∈ m → inR p.1 (y.2.2.2.2.1.2.1.length : Int) = true := fun p hp => List.all_eq_true.1 hin p hp
    refine ⟨fun p hp r => ?_, ?_⟩
    · unfold g36
      rw [hi p hp]
      cases bne (y.2.2.2.2.1.2.1.getD p.1.toNat 0) p.2 <;> exact fun hh => by cases hh
    · cases hbb : b with
      | true =>
        rw [hbb] at hz' hb
        cases hz'
        refine .inl ⟨rfl, fun p hp r => ?_⟩
        have he := List.all_eq_true.1 hb p hp
        unfold g36
        rw [hi p hp, beq_iff.1 he, bne_self]
        rfl
      | false =>
        rw [hbb] at hz' hb
        cases hz'
        obtain ⟨p, hp, hne⟩ := List.all_eq_false.1 hb
        refine .inr ⟨rfl, p, hp, fun r => ?_⟩
        have hbn : bne (y.2.2.2.2.1.2.1.getD p.1.toNat 0) p.2 = true := bne_iff.2 fun hh => hne (beq_iff.2 hh)
        unfold g36
        rw [hi p hp, hbn]
        rfl
noncomputable def p36_172 : Pc := ⟨172, sh36_172, outs36_172, loopF f36_172⟩
theorem occ36_172 : occ c36_20 172 = [.loop c36_172] := by kernel_rfl
theorem ok36_172 : PcOk Tryd.prog env 0 493 p36_172 (.loop c36_172) :=
  loop_ok (T := []) (H := H36) envOk hH36 (ok_nil) (by kernel_rfl) (fun x => by kernel_rfl)
noncomputable def p36_20 : Pc := ⟨20, sh36_20, outs36_20, loopF f36_20⟩
theorem occ36_20 : occ code36 20 = [.loop c36_20] := by kernel_rfl
theorem ok36_20 : PcOk Tryd.prog env 0 493 p36_20 (.loop c36_20) :=
  loop_ok (T := [p36_88, p36_195, p36_172]) (H := H36) envOk hH36 (ok_of (ok_one occ36_88 ok36_88 (ok_one occ36_195 ok36_195 (ok_one occ36_172 ok36_172 ok_end)))) (by kernel_rfl) (fun x => by kernel_rfl)
noncomputable def p36_221 : Pc := ⟨221, sh36_221, outs36_221, f36_221⟩
theorem occ36_221 : occ code36 221 = [c36_221] := by kernel_rfl
theorem ok36_221 : PcOk Tryd.prog env 0 493 p36_221 (c36_221) :=
  piece_ok (T := []) (H := H36) envOk hH36 (ok_nil) (by kernel_rfl) (fun x => by kernel_rfl)
noncomputable def p36_237 : Pc := ⟨237, sh36_237, outs36_237, f36_237⟩
theorem occ36_237 : occ code36 237 = [c36_237] := by kernel_rfl
theorem ok36_237 : PcOk Tryd.prog env 0 493 p36_237 (c36_237) :=
  piece_ok (T := []) (H := H36) envOk hH36 (ok_nil) (by kernel_rfl) (fun x => by kernel_rfl)
noncomputable def p36_257 : Pc := ⟨257, sh36_257, outs36_257, f36_257⟩
theorem occ36_257 : occ code36 257 = [c36_257] := by kernel_rfl
theorem ok36_257 : PcOk Tryd.prog env 0 493 p36_257 (c36_257) :=
  piece_ok (T := []) (H := H36) envOk hH36 (ok_nil) (by kernel_rfl) (fun x => by kernel_rfl)
noncomputable def p36_302 : Pc := ⟨302, sh36_302, outs36_302, f36_302⟩
theorem occ36_302 : occ code36 302 = [c36_302] := by kernel_rfl
theorem ok36_302 : PcOk Tryd.prog env 0 493 p36_302 (c36_302) :=
  piece_ok (T := []) (H := H36) envOk hH36 (ok_nil) (by kernel_rfl) (fun x => by kernel_rfl)
noncomputable def p36_316 : Pc := ⟨316, sh36_316, outs36_316, loopF f36_316⟩
theorem occ36_316 : occ code36 316 = [.loop c36_316] := by kernel_rfl
theorem ok36_316 : PcOk Tryd.prog env 0 493 p36_316 (.loop c36_316) :=
  loop_ok (T := []) (H := H36) envOk hH36 (ok_nil) (by kernel_rfl) (fun x => by kernel_rfl)
noncomputable def p36_349 : Pc := ⟨349, sh36_349, outs36_349, f36_349⟩
theorem occ36_349 : occ code36 349 = [c36_349] := by kernel_rfl
theorem ok36_349 : PcOk Tryd.prog env 0 493 p36_349 (c36_349) :=
  piece_ok (T := []) (H := H36) envOk hH36 (ok_nil) (by kernel_rfl) (fun x => by kernel_rfl)
noncomputable def p36_372 : Pc := ⟨372, sh36_372, outs36_372, loopF f36_372⟩
theorem occ36_372 : occ c36_356 372 = [.loop c36_372] := by kernel_rfl
theorem ok36_372 : PcOk Tryd.prog env 0 493 p36_372 (.loop c36_372) :=
  loop_ok (T := []) (H := H36) envOk hH36 (ok_nil) (by kernel_rfl) (fun x => by kernel_rfl)
noncomputable def p36_396 : Pc := ⟨396, sh36_396, outs36_396, loopF f36_396⟩
theorem occ36_396 : occ c36_356 396 = [.loop c36_396] := by kernel_rfl
theorem ok36_396 : PcOk Tryd.prog env 0 493 p36_396 (.loop c36_396) :=
  loop_ok (T := []) (H := H36) envOk hH36 (ok_nil) (by kernel_rfl) (fun x => by kernel_rfl)
noncomputable def p36_356 : Pc := ⟨356, sh36_356, outs36_356, loopF f36_356⟩
theorem occ36_356 : occ code36 356 = [.loop c36_356] := by kernel_rfl
theorem ok36_356 : PcOk Tryd.prog env 0 493 p36_356 (.loop c36_356) :=
  loop_ok (T := [p36_372, p36_396]) (H := H36) envOk hH36 (ok_of (ok_one occ36_372 ok36_372 (ok_one occ36_396 ok36_396 ok_end))) (by kernel_rfl) (fun x => by kernel_rfl)
noncomputable def p36_437 : Pc := ⟨437, sh36_437, outs36_437, f36_437⟩
theorem occ36_437 : occ code36 437 = [c36_437] := by kernel_rfl
theorem ok36_437 : PcOk Tryd.prog env 0 493 p36_437 (c36_437) :=
  piece_ok (T := []) (H := H36) envOk hH36 (ok_nil) (by kernel_rfl) (fun x => by kernel_rfl)
noncomputable def p36_473 : Pc := ⟨473, sh36_473, outs36_473, f36_473⟩
theorem occ36_473 : occ code36 473 = [c36_473] := by kernel_rfl
theorem ok36_473 : PcOk Tryd.prog env 0 493 p36_473 (c36_473) :=
  piece_ok (T := []) (H := H36) envOk hH36 (ok_nil) (by kernel_rfl) (fun x => by kernel_rfl)
noncomputable def p36_528 : Pc := ⟨528, sh36_528, outs36_528, loopF f36_528⟩
theorem occ36_528 : occ code36 528 = [.loop c36_528] := by kernel_rfl
theorem ok36_528 : PcOk Tryd.prog env 0 493 p36_528 (.loop c36_528) :=
  loop_ok (T := []) (H := H36) envOk hH36 (ok_nil) (by kernel_rfl) (fun x => by kernel_rfl)
theorem con36 : Con Tryd.prog env 36 ⟨ps36, rs36, f36⟩ :=
  con_of (T := [p36_20, p36_221, p36_237, p36_257, p36_302, p36_316, p36_349, p36_356, p36_437, p36_473, p36_528]) (H := H36) (n := 493) (c := code36) envOk hH36 Tryd.func36 (by kernel_rfl) (by kernel_rfl) (by kernel_rfl) (by kernel_rfl)
    (ok_of (ok_one occ36_20 ok36_20 (ok_one occ36_221 ok36_221 (ok_one occ36_237 ok36_237 (ok_one occ36_257 ok36_257 (ok_one occ36_302 ok36_302 (ok_one occ36_316 ok36_316 (ok_one occ36_349 ok36_349 (ok_one occ36_356 ok36_356 (ok_one occ36_437 ok36_437 (ok_one occ36_473 ok36_473 (ok_one occ36_528 ok36_528 ok_end)))))))))))) (by kernel_rfl) (fun x => by kernel_rfl)
end Go.Ev.L3
