/-
  Prepare: contracts.
-/
import Derived.Test.YtgpjfmjceamonaaGreatDoorL6P1
namespace Go.Ev.L6
open Go.Proofs
theorem o130_20 : PE 0 35 (bd Tryz.f130) ⟨20,⟨[3,4,7,21,22],[.box 32 [.sc Y5] 0,.box 71 [.sc Y4] 0,.box 290 [.sc Y33] 0,.val Y33,.val ti],[]⟩,[((.exit 0),⟨[],[],[]⟩),(.ret,⟨[6],[.val .bool],[]⟩)],aA f130_20⟩:=lE (hc con169 (hc con170 hn)) o0 (by kernel_rfl) fun _=>by kernel_rfl
theorem gL : CE 130 ⟨[.val Y5,.val Y4,.val Y2],[.val .bool],f130⟩:=cE (n:=35) (hc con169 (hc con170 hn)) Tryz.func130 (o1 o130_20 o0) (by kernel_rfl) fun _=>by kernel_rfl
theorem o67_12 : PE 0 405 (bd Tryz.f67) ⟨12,⟨[1,2,3,31,32,33],[.box 32 [.sc Y5] 0,.box 64 [.sc cQ] 0,.val ti,.val (.row Y4),.val ti,.val ti],[]⟩,[((.exit 0),⟨[1,2,3],[.box 32 [.sc Y5] 0,.box 64 [.sc cQ] 0,.val ti],[]⟩)],aA f67_12⟩:=lE (hc fY (hc gP (hc gO (hc gN (hc gL hn))))) o0 (by kernel_rfl) fun _=>by kernel_rfl
theorem o67_40 : PE 0 405 (bd Tryz.f67) ⟨40,⟨[1,2,59,60,61],[.box 32 [.sc Y5] 0,.box 64 [.sc cQ] 0,.val (.row Y4),.val ti,.val ti],[]⟩,[((.exit 2),⟨[1,2],[.box 32 [.sc Y5] 0,.box 64 [.sc cQ] 0],[]⟩),(.ret,⟨[2],[.box 64 [.sc cQ] 0],[]⟩)],aA f67_40⟩:=lE (hc fY (hc gP (hc gO (hc gN (hc gL hn))))) o0 (by kernel_rfl) fun _=>by kernel_rfl
theorem o67_88 : PE 0 405 (ia (bd Tryz.f67) 76) ⟨88,⟨[1,2,9,126,127,128,134,135,136],[.box 32 [.sc Y5] 0,.box 64 [.sc cQ] 0,.val ti,.val (.row Y4),.val ti,.val ti,.val (.row Y1),.val ti,.val ti],[]⟩,[((.exit 6),⟨[1,2,126,127,128],[.box 32 [.sc Y5] 0,.box 64 [.sc cQ] 0,.val (.row Y4),.val ti,.val ti],[]⟩),(.ret,⟨[2],[.box 64 [.sc cQ] 0],[]⟩)],aA f67_88⟩:=lE (hc fY (hc gP (hc gO (hc gN (hc gL hn))))) o0 (by kernel_rfl) fun _=>by kernel_rfl
theorem o67_76 : PE 0 405 (bd Tryz.f67) ⟨76,⟨[1,2,126,127,128],[.box 32 [.sc Y5] 0,.box 64 [.sc cQ] 0,.val (.row Y4),.val ti,.val ti],[]⟩,[((.exit 4),⟨[1,2],[.box 32 [.sc Y5] 0,.box 64 [.sc cQ] 0],[]⟩),(.ret,⟨[2],[.box 64 [.sc cQ] 0],[]⟩)],aA f67_76⟩:=lE (hc fY (hc gP (hc gO (hc gN (hc gL hn))))) (o1 o67_88 o0) (by kernel_rfl) fun _=>by kernel_rfl
theorem o67_128 : PE 0 405 (ia (bd Tryz.f67) 116) ⟨128,⟨[1,2,13,14,185,186,187,193,194,195],[.box 32 [.sc Y5] 0,.box 64 [.sc cQ] 0,.val ti,.box 71 [.sc Y4] 0,.val (.row Y4),.val ti,.val ti,.val (.row Y3),.val ti,.val ti],[]⟩,[((.exit 10),⟨[1,2,185,186,187],[.box 32 [.sc Y5] 0,.box 64 [.sc cQ] 0,.val (.row Y4),.val ti,.val ti],[]⟩),(.ret,⟨[2],[.box 64 [.sc cQ] 0],[]⟩)],aA f67_128⟩:=lE (hc fY (hc gP (hc gO (hc gN (hc gL hn))))) o0 (by kernel_rfl) fun _=>by kernel_rfl
theorem o67_116 : PE 0 405 (bd Tryz.f67) ⟨116,⟨[1,2,185,186,187],[.box 32 [.sc Y5] 0,.box 64 [.sc cQ] 0,.val (.row Y4),.val ti,.val ti],[]⟩,[((.exit 8),⟨[1,2],[.box 32 [.sc Y5] 0,.box 64 [.sc cQ] 0],[]⟩),(.ret,⟨[2],[.box 64 [.sc cQ] 0],[]⟩)],aA f67_116⟩:=lE (hc fY (hc gP (hc gO (hc gN (hc gL hn))))) (o1 o67_128 o0) (by kernel_rfl) fun _=>by kernel_rfl
theorem o67_176 : PE 0 405 (ia (bd Tryz.f67) 156) ⟨176,⟨[1,2,17,18,249,250,251,263,264,265],[.box 32 [.sc Y5] 0,.box 64 [.sc cQ] 0,.val ti,.box 71 [.sc Y4] 0,.val (.row Y4),.val ti,.val ti,.val (.row Y2),.val ti,.val ti],[]⟩,[((.exit 14),⟨[1,2,249,250,251],[.box 32 [.sc Y5] 0,.box 64 [.sc cQ] 0,.val (.row Y4),.val ti,.val ti],[]⟩),(.ret,⟨[2],[.box 64 [.sc cQ] 0],[]⟩)],aA f67_176⟩:=lE (hc fY (hc gP (hc gO (hc gN (hc gL hn))))) o0 (by kernel_rfl) fun _=>by kernel_rfl
theorem o67_156 : PE 0 405 (bd Tryz.f67) ⟨156,⟨[1,2,249,250,251],[.box 32 [.sc Y5] 0,.box 64 [.sc cQ] 0,.val (.row Y4),.val ti,.val ti],[]⟩,[((.exit 12),⟨[1,2],[.box 32 [.sc Y5] 0,.box 64 [.sc cQ] 0],[]⟩),(.ret,⟨[2],[.box 64 [.sc cQ] 0],[]⟩)],aA f67_156⟩:=lE (hc fY (hc gP (hc gO (hc gN (hc gL hn))))) (o1 o67_176 o0) (by kernel_rfl) fun _=>by kernel_rfl
theorem o67_244 : PE 0 405 (ia (ia (bd Tryz.f67) 208) 220) ⟨244,⟨[1,2,21,22,23,24,26,308,309,310,316,317,318,347,348,349],[.box 32 [.sc Y5] 0,.box 64 [.sc cQ] 0,.own 4 .bool,.val ti,.box 71 [.sc Y4] 0,.val ti,.val .bool,.val (.row Y4),.val ti,.val ti,.val (.row Y2),.val ti,.val ti,.val (.row Y0),.val ti,.val ti],[]⟩,[((.exit 20),⟨[1,2,21,22,23,24,26,308,309,310,316,317,318],[.box 32 [.sc Y5] 0,.box 64 [.sc cQ] 0,.own 4 .bool,.val ti,.box 71 [.sc Y4] 0,.val ti,.val .bool,.val (.row Y4),.val ti,.val ti,.val (.row Y2),.val ti,.val ti],[]⟩)],aA f67_244⟩:=lE (hc fY (hc gP (hc gO (hc gN (hc gL hn))))) o0 (by kernel_rfl) fun _=>by kernel_rfl
theorem o67_220 : PE 0 405 (ia (bd Tryz.f67) 208) ⟨220,⟨[1,2,21,22,23,308,309,310,316,317,318],[.box 32 [.sc Y5] 0,.box 64 [.sc cQ] 0,.own 4 .bool,.val ti,.box 71 [.sc Y4] 0,.val (.row Y4),.val ti,.val ti,.val (.row Y2),.val ti,.val ti],[]⟩,[((.exit 18),⟨[1,2,21,308,309,310],[.box 32 [.sc Y5] 0,.box 64 [.sc cQ] 0,.own 4 .bool,.val (.row Y4),.val ti,.val ti],[]⟩),(.ret,⟨[2],[.box 64 [.sc cQ] 0],[]⟩)],aA f67_220⟩:=lE (hc fY (hc gP (hc gO (hc gN (hc gL hn))))) (o1 o67_244 o0) (by kernel_rfl) fun _=>by kernel_rfl
theorem o67_208 : PE 0 405 (bd Tryz.f67) ⟨208,⟨[1,2,21,308,309,310],[.box 32 [.sc Y5] 0,.box 64 [.sc cQ] 0,.own 4 .bool,.val (.row Y4),.val ti,.val ti],[]⟩,[((.exit 16),⟨[1,2,21],[.box 32 [.sc Y5] 0,.box 64 [.sc cQ] 0,.own 4 .bool],[]⟩),(.ret,⟨[2],[.box 64 [.sc cQ] 0],[]⟩)],aA f67_208⟩:=lE (hc fY (hc gP (hc gO (hc gN (hc gL hn))))) (o1 o67_220 o0) (by kernel_rfl) fun _=>by kernel_rfl
theorem o67_284 : PE 0 405 (bd Tryz.f67) ⟨284,⟨[2,21,388,389],[.box 64 [.sc cQ] 0,.own 4 .bool,.val ti,.val ti],[]⟩,[((.exit 22),⟨[2],[.box 64 [.sc cQ] 0],[]⟩),(.ret,⟨[2],[.box 64 [.sc cQ] 0],[]⟩)],aA f67_284⟩:=lE (hc fY (hc gP (hc gO (hc gN (hc gL hn))))) o0 (by kernel_rfl) fun _=>by kernel_rfl
theorem con67 : CE 67 ⟨[.val Y5],[.val cQ],f67⟩:=cE (n:=405) (hc fY (hc gP (hc gO (hc gN (hc gL hn))))) Tryz.func67 (o1 o67_12 (o1 o67_40 (o1 o67_76 (o1 o67_116 (o1 o67_156 (o1 o67_208 (o1 o67_284 o0))))))) (by kernel_rfl) fun _=>by kernel_rfl
theorem con132 : CE 132 ⟨[.val cT],[.rc [.sc .bool,.own 3 ti,.own 278 cP]],f132⟩:=cE (n:=12) hn Tryz.func132 o0 (by kernel_rfl) fun _=>by kernel_rfl
theorem con171 : CE 171 ⟨[.val ti],[.own 3 ti],f171⟩:=cE (n:=5) hn Tryz.func171 o0 (by kernel_rfl) fun _=>by kernel_rfl
theorem con173 : CE 173 ⟨[.val ti],[.val ti],f173⟩:=cE (n:=12) hn Tryz.func173 o0 (by kernel_rfl) fun _=>by kernel_rfl
theorem o172_8 : PE 2 22 (bd Tryz.f172) ⟨8,⟨[0,1,7,8,9],[.val ti,.box 198 [.sc cT] 0,.val (.row cP),.val ti,.val ti],[]⟩,[((.exit 0),⟨[0,1],[.val ti,.box 198 [.sc cT] 0],[]⟩),(.ret,⟨[0,1,3],[.val ti,.box 198 [.sc cT] 0,.val .bool],[]⟩)],aA f172_8⟩:=lE hn o0 (by kernel_rfl) fun _=>by kernel_rfl
theorem con172 : CE 172 ⟨[.val ti,.box 198 [.sc cT] 0],[.val .bool],f172⟩:=cE (n:=22) hn Tryz.func172 (o1 o172_8 o0) (by kernel_rfl) fun _=>by kernel_rfl
noncomputable def bY : Code := Tryz.f131.body.getD .skip
noncomputable def H131 : Nat → Option FH := fun g => bif Nat.beq g 132 then some ⟨ps132, rs132, f132⟩ else bif Nat.beq g 169 then some ⟨ps169, rs169, f169⟩ else bif Nat.beq g 171 then some ⟨ps171, rs171, f171⟩ else bif Nat.beq g 172 then some ⟨ps172, rs172, f172⟩ else bif Nat.beq g 173 then some ⟨ps173, rs173, f173⟩ else none
theorem hY : ∀ g h, H131 g = some h → jY Tryz.prog env g h := hH_cons con132 (hH_cons con169 (hH_cons con171 (hH_cons con172 (hH_cons con173 hH_nil))))
noncomputable def c131_528 : Code := inner (jG bY 528)
noncomputable def c131_473 : Code := (jG bY 473)
noncomputable def c131_437 : Code := (jG bY 437)
noncomputable def kR : Code := inner (jG bY 356)
noncomputable def c131_396 : Code := inner (jG kR 396)
noncomputable def c131_372 : Code := inner (jG kR 372)
noncomputable def c131_349 : Code := (jG bY 349)
noncomputable def c131_316 : Code := inner (jG bY 316)
noncomputable def c131_302 : Code := (jG bY 302)
noncomputable def c131_257 : Code := (jG bY 257)
noncomputable def c131_237 : Code := (jG bY 237)
noncomputable def c131_221 : Code := (jG bY 221)
noncomputable def jV : Code := inner (jG bY 20)
noncomputable def c131_172 : Code := inner (jG jV 172)
noncomputable def kS : Code := (jG jV 195)
noncomputable def c131_88 : Code := inner (jG jV 88)
noncomputable def p131_88 : Pc := ⟨88, sh131_88, outs131_88, aA f131_88⟩
theorem occ131_88 : jK jV 88 = [.loop c131_88] := by kernel_rfl
theorem ok131_88 : gS Tryz.prog env 0 493 p131_88 (.loop c131_88) :=
  iH (T := []) (H := H131) eA hY (fU) (by kernel_rfl) (fun x => by kernel_rfl)
noncomputable def p131_195 : Pc := ⟨195, sh131_195, outs131_195, f131_195⟩
theorem occ131_195 : jK jV 195 = [kS] := by kernel_rfl
noncomputable def rg (c : Code) (k : Nat) (i : Nat) : Oper := match jK c k with
  | [.region _ ops _] => ops.getD i default
  | _ => default
noncomputable def iU : Code := inner (jG kS 196)
noncomputable def B131 : Code := jG iU 207
abbrev ks131 : List Nat := [2, 4, 7, 10, 11, 12, 51, 52]
abbrev vs131 : List VS := [.val ti, .box 32 [.sc Y5] 0, .box 198 [.sc cT] 0, .box 118 [.sc Y2] 0, .box 198 [.sc .bool, .own 3 ti, .own 278 cP] 0, .own 3 ti, .val Y33, .val ti]
abbrev shR131 : Sh := (outs131_195.getD 1 (.ret, ⟨[], [], []⟩)).2
abbrev Y131 := Int × (aN × Unit) × (S6 × Unit) × (S2 × Unit) × (Bool × (List Int) × (List S4) × Unit) × (List Int) × S28 × Int × Unit
def g131 (r : Nat) (k v : Int) (y : Y131) : Option ((Y131 × Nat) ⊕ (Int × (List S5) × Unit)) :=
  bif aE k (y.2.2.2.2.1.2.1.length : Int) then (bif bne (y.2.2.2.2.1.2.1.getD k.toNat 0) v then some (.inr (10, [], ())) else some (.inl (y, r))) else none
theorem code131_195 : kS = rangeCode 48 49 50 7 8 185 (rg kS 194 0) (rg kS 194 1) (rg iU 198 0) (rg iU 198 1) (rg iU 202 0) (rg iU 202 1) (rg iU 202 2) (rg iU 202 3) (rg iU 202 4) B131 := by kernel_rfl
theorem jk131 (y : Y131) (d : Nat) (hd : d ∈ [183, 184, 185, 186, 187, 188, 23, 24]) : (cG 493 ⟨ks131, vs131, []⟩ y).get d = AV.junk := by
  simp only [List.mem_cons, List.not_mem_nil, or_false] at hd
  rcases hd with rfl | rfl | rfl | rfl | rfl | rfl | rfl | rfl <;> kernel_rfl
theorem fit131 : Fit Tryz.prog env H131 [] 0 493 ks131 vs131 [] shR131 183 184 185 186 187 188 23 24 (rg iU 198 0) (rg iU 198 1) (rg iU 202 0) (rg iU 202 1) (rg iU 202 2) (rg iU 202 3) (rg iU 202 4) B131 g131 ((10 : Int), ([] : List S5), ()) :=
  { n0 := ⟨by kernel_rfl, by kernel_rfl, by kernel_rfl⟩
    n1 := ⟨by kernel_rfl, by kernel_rfl, by kernel_rfl⟩
    e0 := ⟨by kernel_rfl, by kernel_rfl, by kernel_rfl⟩
    e1 := ⟨by kernel_rfl, by kernel_rfl, by kernel_rfl⟩
    e2 := ⟨by kernel_rfl, by kernel_rfl, by kernel_rfl⟩
    e3 := ⟨by kernel_rfl, by kernel_rfl, by kernel_rfl⟩
    e4 := ⟨by kernel_rfl, by kernel_rfl, by kernel_rfl⟩
    okT := fU
    wr := by kernel_rfl
    lt := fun d hd => by
      simp only [List.mem_cons, List.not_mem_nil, or_false] at hd
      omega
    ne := by decide
    jk := fun y d hd => jk131 y d hd
    B := fun r k v y => by kernel_rfl
    g1 := fun r k v y z h => by
      unfold g131 at h
      cases h1 : aE k (y.2.2.2.2.1.2.1.length : Int) <;> rw [h1] at h
      · cases h
      · cases h2 : bne (y.2.2.2.2.1.2.1.getD k.toNat 0) v <;> rw [h2] at h <;> cases h
        rfl
    g2 := fun r k v y q h => by
      unfold g131 at h
      cases h1 : aE k (y.2.2.2.2.1.2.1.length : Int) <;> rw [h1] at h
      · cases h
      · cases h2 : bne (y.2.2.2.2.1.2.1.getD k.toNat 0) v <;> rw [h2] at h <;> cases h
        rfl
    gu := fun r r2 k v y h => by
      unfold g131 at h ⊢
      cases h1 : aE k (y.2.2.2.2.1.2.1.length : Int) <;> rw [h1] at h
      · cases h
      · cases h2 : bne (y.2.2.2.2.1.2.1.getD k.toNat 0) v <;> rw [h2] at h <;> first | rfl | cases h }
theorem ok131_195 : gS Tryz.prog env 0 493 p131_195 kS := by
  rw [code131_195]
  refine map_range_ok (ks := ks131) (vs := vs131) (al := []) (shR := shR131) (f := f131_195) (key := 195) (tm := 16) (t1 := 182) (M := 296) eA hY fit131 ⟨by kernel_rfl, by kernel_rfl, by kernel_rfl⟩ ⟨by kernel_rfl, by kernel_rfl, by kernel_rfl⟩ ⟨3, 3, by kernel_rfl⟩ ⟨by omega, by omega⟩ (fun y => by kernel_rfl) fun m y z hz => ?_
  have hz' : (kB y.2.2.2.2.1.2.1 m).bind (fun b => bif b then some (.inl y) else some (.inr ((10 : Int), ([] : List S5), ()))) = some z := hz
  obtain ⟨b, hb, hz'⟩ := Option.bind_eq_some_iff.1 hz'
  unfold kB at hb
  cases hin : m.all (fun p => aE p.1 (y.2.2.2.2.1.2.1.length : Int)) with
  | false => rw [hin] at hb; cases hb
  | true =>
    rw [hin] at hb
    have hb := Option.some.inj hb
    have hi : ∀ p, p ∈ m → aE p.1 (y.2.2.2.2.1.2.1.length : Int) = true := fun p hp => List.all_eq_true.1 hin p hp
    refine ⟨fun p hp r => ?_, ?_⟩
    · unfold g131
      rw [hi p hp]
      cases bne (y.2.2.2.2.1.2.1.getD p.1.toNat 0) p.2 <;> exact fun hh => by cases hh
    · cases hbb : b with
      | true =>
        rw [hbb] at hz' hb
        cases hz'
        refine .inl ⟨rfl, fun p hp r => ?_⟩
        have he := List.all_eq_true.1 hb p hp
        unfold g131
        rw [hi p hp, aL.1 he, aS]
        rfl
      | false =>
        rw [hbb] at hz' hb
        cases hz'
        obtain ⟨p, hp, hne⟩ := List.all_eq_false.1 hb
        refine .inr ⟨rfl, p, hp, fun r => ?_⟩
        have hbn : bne (y.2.2.2.2.1.2.1.getD p.1.toNat 0) p.2 = true := jW.2 fun hh => hne (aL.2 hh)
        unfold g131
        rw [hi p hp, hbn]
        rfl
noncomputable def p131_172 : Pc := ⟨172, sh131_172, outs131_172, aA f131_172⟩
theorem occ131_172 : jK jV 172 = [.loop c131_172] := by kernel_rfl
theorem ok131_172 : gS Tryz.prog env 0 493 p131_172 (.loop c131_172) :=
  iH (T := []) (H := H131) eA hY (fU) (by kernel_rfl) (fun x => by kernel_rfl)
noncomputable def p131_20 : Pc := ⟨20, sh131_20, outs131_20, aA f131_20⟩
theorem occ131_20 : jK bY 20 = [.loop jV] := by kernel_rfl
theorem ok131_20 : gS Tryz.prog env 0 493 p131_20 (.loop jV) :=
  iH (T := [p131_88, p131_195, p131_172]) (H := H131) eA hY (ok_of (eT occ131_88 ok131_88 (eT occ131_195 ok131_195 (eT occ131_172 ok131_172 ok_end)))) (by kernel_rfl) (fun x => by kernel_rfl)
noncomputable def p131_221 : Pc := ⟨221, sh131_221, outs131_221, f131_221⟩
theorem occ131_221 : jK bY 221 = [c131_221] := by kernel_rfl
theorem ok131_221 : gS Tryz.prog env 0 493 p131_221 (c131_221) :=
  gZ (T := []) (H := H131) eA hY (fU) (by kernel_rfl) (fun x => by kernel_rfl)
noncomputable def p131_237 : Pc := ⟨237, sh131_237, outs131_237, f131_237⟩
theorem occ131_237 : jK bY 237 = [c131_237] := by kernel_rfl
theorem ok131_237 : gS Tryz.prog env 0 493 p131_237 (c131_237) :=
  gZ (T := []) (H := H131) eA hY (fU) (by kernel_rfl) (fun x => by kernel_rfl)
noncomputable def p131_257 : Pc := ⟨257, sh131_257, outs131_257, f131_257⟩
theorem occ131_257 : jK bY 257 = [c131_257] := by kernel_rfl
theorem ok131_257 : gS Tryz.prog env 0 493 p131_257 (c131_257) :=
  gZ (T := []) (H := H131) eA hY (fU) (by kernel_rfl) (fun x => by kernel_rfl)
noncomputable def p131_302 : Pc := ⟨302, sh131_302, outs131_302, f131_302⟩
theorem occ131_302 : jK bY 302 = [c131_302] := by kernel_rfl
theorem ok131_302 : gS Tryz.prog env 0 493 p131_302 (c131_302) :=
  gZ (T := []) (H := H131) eA hY (fU) (by kernel_rfl) (fun x => by kernel_rfl)
noncomputable def p131_316 : Pc := ⟨316, sh131_316, outs131_316, aA f131_316⟩
theorem occ131_316 : jK bY 316 = [.loop c131_316] := by kernel_rfl
theorem ok131_316 : gS Tryz.prog env 0 493 p131_316 (.loop c131_316) :=
  iH (T := []) (H := H131) eA hY (fU) (by kernel_rfl) (fun x => by kernel_rfl)
noncomputable def p131_349 : Pc := ⟨349, sh131_349, outs131_349, f131_349⟩
theorem occ131_349 : jK bY 349 = [c131_349] := by kernel_rfl
theorem ok131_349 : gS Tryz.prog env 0 493 p131_349 (c131_349) :=
  gZ (T := []) (H := H131) eA hY (fU) (by kernel_rfl) (fun x => by kernel_rfl)
noncomputable def p131_372 : Pc := ⟨372, sh131_372, outs131_372, aA f131_372⟩
theorem occ131_372 : jK kR 372 = [.loop c131_372] := by kernel_rfl
theorem ok131_372 : gS Tryz.prog env 0 493 p131_372 (.loop c131_372) :=
  iH (T := []) (H := H131) eA hY (fU) (by kernel_rfl) (fun x => by kernel_rfl)
noncomputable def p131_396 : Pc := ⟨396, sh131_396, outs131_396, aA f131_396⟩
theorem occ131_396 : jK kR 396 = [.loop c131_396] := by kernel_rfl
theorem ok131_396 : gS Tryz.prog env 0 493 p131_396 (.loop c131_396) :=
  iH (T := []) (H := H131) eA hY (fU) (by kernel_rfl) (fun x => by kernel_rfl)
noncomputable def p131_356 : Pc := ⟨356, sh131_356, outs131_356, aA f131_356⟩
theorem occ131_356 : jK bY 356 = [.loop kR] := by kernel_rfl
theorem ok131_356 : gS Tryz.prog env 0 493 p131_356 (.loop kR) :=
  iH (T := [p131_372, p131_396]) (H := H131) eA hY (ok_of (eT occ131_372 ok131_372 (eT occ131_396 ok131_396 ok_end))) (by kernel_rfl) (fun x => by kernel_rfl)
noncomputable def p131_437 : Pc := ⟨437, sh131_437, outs131_437, f131_437⟩
theorem occ131_437 : jK bY 437 = [c131_437] := by kernel_rfl
theorem ok131_437 : gS Tryz.prog env 0 493 p131_437 (c131_437) :=
  gZ (T := []) (H := H131) eA hY (fU) (by kernel_rfl) (fun x => by kernel_rfl)
noncomputable def p131_473 : Pc := ⟨473, sh131_473, outs131_473, f131_473⟩
theorem occ131_473 : jK bY 473 = [c131_473] := by kernel_rfl
theorem ok131_473 : gS Tryz.prog env 0 493 p131_473 (c131_473) :=
  gZ (T := []) (H := H131) eA hY (fU) (by kernel_rfl) (fun x => by kernel_rfl)
noncomputable def p131_528 : Pc := ⟨528, sh131_528, outs131_528, aA f131_528⟩
theorem occ131_528 : jK bY 528 = [.loop c131_528] := by kernel_rfl
theorem ok131_528 : gS Tryz.prog env 0 493 p131_528 (.loop c131_528) :=
  iH (T := []) (H := H131) eA hY (fU) (by kernel_rfl) (fun x => by kernel_rfl)
theorem con131 : CE 131 ⟨ps131, rs131, f131⟩ :=
  show jY Tryz.prog env 131 _ from con_of (T := [p131_20, p131_221, p131_237, p131_257, p131_302, p131_316, p131_349, p131_356, p131_437, p131_473, p131_528]) (H := H131) (n := 493) (c := bY) eA hY Tryz.func131 (by kernel_rfl) (by kernel_rfl) (by kernel_rfl) (by kernel_rfl)
    (ok_of (eT occ131_20 ok131_20 (eT occ131_221 ok131_221 (eT occ131_237 ok131_237 (eT occ131_257 ok131_257 (eT occ131_302 ok131_302 (eT occ131_316 ok131_316 (eT occ131_349 ok131_349 (eT occ131_356 ok131_356 (eT occ131_437 ok131_437 (eT occ131_473 ok131_473 (eT occ131_528 ok131_528 ok_end)))))))))))) (by kernel_rfl) (fun x => by kernel_rfl)
end Go.Ev.L6
