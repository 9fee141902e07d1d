/-
  Prepare: contracts (printed by g5.py).
-/
import Derived.Test.YtgpjfmjceamonaaGreatDoorL6P3
namespace Go.Ev.L6
open Go.Proofs
noncomputable def code132 : Code := Tryz.f132.body.getD .skip
def H132 : Nat → Option FH := fun _ => none
theorem hH132 : ∀ g h, H132 g = some h → Con Tryz.prog env g h := fun g h hh => by cases hh
theorem con132 : Con Tryz.prog env 132 ⟨ps132, rs132, f132⟩ :=
  con_of (T := []) (H := H132) (n := 12) (c := code132) envOk hH132 Tryz.func132 (by kernel_rfl) (by kernel_rfl) (by kernel_rfl) (by kernel_rfl)
    (ok_nil) (by kernel_rfl) (fun x => by kernel_rfl)
noncomputable def code171 : Code := Tryz.f171.body.getD .skip
def H171 : Nat → Option FH := fun _ => none
theorem hH171 : ∀ g h, H171 g = some h → Con Tryz.prog env g h := fun g h hh => by cases hh
theorem con171 : Con Tryz.prog env 171 ⟨ps171, rs171, f171⟩ :=
  con_of (T := []) (H := H171) (n := 5) (c := code171) envOk hH171 Tryz.func171 (by kernel_rfl) (by kernel_rfl) (by kernel_rfl) (by kernel_rfl)
    (ok_nil) (by kernel_rfl) (fun x => by kernel_rfl)
noncomputable def code173 : Code := Tryz.f173.body.getD .skip
def H173 : Nat → Option FH := fun _ => none
theorem hH173 : ∀ g h, H173 g = some h → Con Tryz.prog env g h := fun g h hh => by cases hh
theorem con173 : Con Tryz.prog env 173 ⟨ps173, rs173, f173⟩ :=
  con_of (T := []) (H := H173) (n := 12) (c := code173) envOk hH173 Tryz.func173 (by kernel_rfl) (by kernel_rfl) (by kernel_rfl) (by kernel_rfl)
    (ok_nil) (by kernel_rfl) (fun x => by kernel_rfl)
noncomputable def code172 : Code := Tryz.f172.body.getD .skip
def H172 : Nat → Option FH := fun _ => none
theorem hH172 : ∀ g h, H172 g = some h → Con Tryz.prog env g h := fun g h hh => by cases hh
noncomputable def c172_8 : Code := inner (at' code172 8)
noncomputable def p172_8 : Pc := ⟨8, sh172_8, outs172_8, loopF f172_8⟩
theorem occ172_8 : occ code172 8 = [.loop c172_8] := by kernel_rfl
theorem ok172_8 : PcOk Tryz.prog env 2 22 p172_8 (.loop c172_8) :=
  loop_ok (T := []) (H := H172) envOk hH172 (ok_nil) (by kernel_rfl) (fun x => by kernel_rfl)
theorem con172 : Con Tryz.prog env 172 ⟨ps172, rs172, f172⟩ :=
  con_of (T := [p172_8]) (H := H172) (n := 22) (c := code172) envOk hH172 Tryz.func172 (by kernel_rfl) (by kernel_rfl) (by kernel_rfl) (by kernel_rfl)
    (ok_of (ok_one occ172_8 ok172_8 ok_end)) (by kernel_rfl) (fun x => by kernel_rfl)
noncomputable def code131 : Code := Tryz.f131.body.getD .skip
noncomputable def H131 : Nat → Option FH := fun g => bif Nat.beq g 132 then some ⟨ps132, rs132, f132⟩ else bif Nat.beq g 169 then some ⟨ps169, rs169, f169⟩ else bif Nat.beq g 171 then some ⟨ps171, rs171, f171⟩ else bif Nat.beq g 172 then some ⟨ps172, rs172, f172⟩ else bif Nat.beq g 173 then some ⟨ps173, rs173, f173⟩ else none
theorem hH131 : ∀ g h, H131 g = some h → Con Tryz.prog env g h := hH_cons con132 (hH_cons con169 (hH_cons con171 (hH_cons con172 (hH_cons con173 hH_nil))))
noncomputable def c131_528 : Code := inner (at' code131 528)
noncomputable def c131_473 : Code := (at' code131 473)
noncomputable def c131_437 : Code := (at' code131 437)
noncomputable def c131_356 : Code := inner (at' code131 356)
noncomputable def c131_396 : Code := inner (at' c131_356 396)
noncomputable def c131_372 : Code := inner (at' c131_356 372)
noncomputable def c131_349 : Code := (at' code131 349)
noncomputable def c131_316 : Code := inner (at' code131 316)
noncomputable def c131_302 : Code := (at' code131 302)
noncomputable def c131_257 : Code := (at' code131 257)
noncomputable def c131_237 : Code := (at' code131 237)
noncomputable def c131_221 : Code := (at' code131 221)
noncomputable def c131_20 : Code := inner (at' code131 20)
noncomputable def c131_172 : Code := inner (at' c131_20 172)
noncomputable def c131_195 : Code := (at' c131_20 195)
noncomputable def c131_88 : Code := inner (at' c131_20 88)
noncomputable def p131_88 : Pc := ⟨88, sh131_88, outs131_88, loopF f131_88⟩
theorem occ131_88 : occ c131_20 88 = [.loop c131_88] := by kernel_rfl
theorem ok131_88 : PcOk Tryz.prog env 0 493 p131_88 (.loop c131_88) :=
  loop_ok (T := []) (H := H131) envOk hH131 (ok_nil) (by kernel_rfl) (fun x => by kernel_rfl)
noncomputable def p131_195 : Pc := ⟨195, sh131_195, outs131_195, f131_195⟩
-- ok131_195 BY HAND
theorem occ131_195 : occ c131_20 195 = [c131_195] := by kernel_rfl
noncomputable def rg (c : Code) (k : Nat) (i : Nat) : Oper := match occ c k with
  | [.region _ ops _] => ops.getD i default
  | _ => default
noncomputable def lb131 : Code := inner (at' c131_195 196)
noncomputable def B131 : Code := at' lb131 207
abbrev ks131 : List Nat := [2, 4, 7, 10, 11, 12, 51, 52]
abbrev vs131 : List VS := [.val (.int .i64), .box 32 [.sc Y5] 0, .box 198 [.sc Y25] 0, .box 118 [.sc Y2] 0, .box 198 [.sc .bool, .own 3 (.int .i64), .own 278 Y24] 0, .own 3 (.int .i64), .val Y33, .val (.int .i64)]
abbrev shR131 : Sh := (outs131_195.getD 1 (.ret, ⟨[], [], []⟩)).2
abbrev Y131 := Int × (S25 × Unit) × (S6 × Unit) × (S2 × Unit) × (Bool × (List Int) × (List S4) × Unit) × (List Int) × S28 × Int × Unit
def g131 (r : Nat) (k v : Int) (y : Y131) : Option ((Y131 × Nat) ⊕ (Int × (List S5) × Unit)) :=
  bif inR k (y.2.2.2.2.1.2.1.length : Int) then (bif bne (y.2.2.2.2.1.2.1.getD k.toNat 0) v then some (.inr (10, [], ())) else some (.inl (y, r))) else none
theorem code131_195 : c131_195 = rangeCode 48 49 50 7 8 185 (rg c131_195 194 0) (rg c131_195 194 1) (rg lb131 198 0) (rg lb131 198 1) (rg lb131 202 0) (rg lb131 202 1) (rg lb131 202 2) (rg lb131 202 3) (rg lb131 202 4) B131 := by kernel_rfl
theorem jk131 (y : Y131) (d : Nat) (hd : d ∈ [183, 184, 185, 186, 187, 188, 23, 24]) : (mkSt 493 ⟨ks131, vs131, []⟩ y).get d = AV.junk := by
  simp only [List.mem_cons, List.not_mem_nil, or_false] at hd
  rcases hd with rfl | rfl | rfl | rfl | rfl | rfl | rfl | rfl <;> kernel_rfl
theorem fit131 : Fit Tryz.prog env H131 [] 0 493 ks131 vs131 [] shR131 183 184 185 186 187 188 23 24 (rg lb131 198 0) (rg lb131 198 1) (rg lb131 202 0) (rg lb131 202 1) (rg lb131 202 2) (rg lb131 202 3) (rg lb131 202 4) B131 g131 ((10 : Int), ([] : List S5), ()) :=
  { n0 := ⟨by kernel_rfl, by kernel_rfl, by kernel_rfl⟩
    n1 := ⟨by kernel_rfl, by kernel_rfl, by kernel_rfl⟩
    e0 := ⟨by kernel_rfl, by kernel_rfl, by kernel_rfl⟩
    e1 := ⟨by kernel_rfl, by kernel_rfl, by kernel_rfl⟩
    e2 := ⟨by kernel_rfl, by kernel_rfl, by kernel_rfl⟩
    e3 := ⟨by kernel_rfl, by kernel_rfl, by kernel_rfl⟩
    e4 := ⟨by kernel_rfl, by kernel_rfl, by kernel_rfl⟩
    okT := ok_nil
    wr := by kernel_rfl
    lt := fun d hd => by
      simp only [List.mem_cons, List.not_mem_nil, or_false] at hd
      omega
    ne := by decide
    jk := fun y d hd => jk131 y d hd
    B := fun r k v y => by kernel_rfl
    g1 := fun r k v y z h => by
      unfold g131 at h
      cases h1 : inR k (y.2.2.2.2.1.2.1.length : Int) <;> rw [h1] at h
      · cases h
      · cases h2 : bne (y.2.2.2.2.1.2.1.getD k.toNat 0) v <;> rw [h2] at h <;> cases h
        rfl
    g2 := fun r k v y q h => by
      unfold g131 at h
      cases h1 : inR k (y.2.2.2.2.1.2.1.length : Int) <;> rw [h1] at h
      · cases h
      · cases h2 : bne (y.2.2.2.2.1.2.1.getD k.toNat 0) v <;> rw [h2] at h <;> cases h
        rfl
    gu := fun r r2 k v y h => by
      unfold g131 at h ⊢
      cases h1 : inR k (y.2.2.2.2.1.2.1.length : Int) <;> rw [h1] at h
      · cases h
      · cases h2 : bne (y.2.2.2.2.1.2.1.getD k.toNat 0) v <;> rw [h2] at h <;> first | rfl | cases h }
theorem ok131_195 : PcOk Tryz.prog env 0 493 p131_195 c131_195 := by
  rw [code131_195]
  refine map_range_ok (ks := ks131) (vs := vs131) (al := []) (shR := shR131) (f := f131_195) (key := 195) (tm := 16) (t1 := 182) (M := 296) envOk hH131 fit131 ⟨by kernel_rfl, by kernel_rfl, by kernel_rfl⟩ ⟨by kernel_rfl, by kernel_rfl, by kernel_rfl⟩ ⟨3, 3, by kernel_rfl⟩ ⟨by omega, by omega⟩ (fun y => by kernel_rfl) fun m y z hz => ?_
  have hz' : (mapChk y.2.2.2.2.1.2.1 m).bind (fun b => bif b then some (.inl y) else some (.inr ((10 : Int), ([] : List S5), ()))) = some z := hz
  obtain ⟨b, hb, hz'⟩ := Option.bind_eq_some_iff.1 hz'
  unfold mapChk at hb
  cases hin : m.all (fun p => inR p.1 (y.2.2.2.2.1.2.1.length : Int)) with
  | false => rw [hin] at hb; cases hb
  | true =>
    rw [hin] at hb
    have hb := Option.some.inj hb
    have hi : ∀ p, p ∈ m → inR p.1 (y.2.2.2.2.1.2.1.length : Int) = true := fun p hp => List.all_eq_true.1 hin p hp
    refine ⟨fun p hp r => ?_, ?_⟩
    · unfold g131
      rw [hi p hp]
      cases bne (y.2.2.2.2.1.2.1.getD p.1.toNat 0) p.2 <;> exact fun hh => by cases hh
    · cases hbb : b with
      | true =>
        rw [hbb] at hz' hb
        cases hz'
        refine .inl ⟨rfl, fun p hp r => ?_⟩
        have he := List.all_eq_true.1 hb p hp
        unfold g131
        rw [hi p hp, beq_iff.1 he, bne_self]
        rfl
      | false =>
        rw [hbb] at hz' hb
        cases hz'
        obtain ⟨p, hp, hne⟩ := List.all_eq_false.1 hb
        refine .inr ⟨rfl, p, hp, fun r => ?_⟩
        have hbn : bne (y.2.2.2.2.1.2.1.getD p.1.toNat 0) p.2 = true := bne_iff.2 fun hh => hne (beq_iff.2 hh)
        unfold g131
        rw [hi p hp, hbn]
        rfl
noncomputable def p131_172 : Pc := ⟨172, sh131_172, outs131_172, loopF f131_172⟩
theorem occ131_172 : occ c131_20 172 = [.loop c131_172] := by kernel_rfl
theorem ok131_172 : PcOk Tryz.prog env 0 493 p131_172 (.loop c131_172) :=
  loop_ok (T := []) (H := H131) envOk hH131 (ok_nil) (by kernel_rfl) (fun x => by kernel_rfl)
noncomputable def p131_20 : Pc := ⟨20, sh131_20, outs131_20, loopF f131_20⟩
theorem occ131_20 : occ code131 20 = [.loop c131_20] := by kernel_rfl
theorem ok131_20 : PcOk Tryz.prog env 0 493 p131_20 (.loop c131_20) :=
  loop_ok (T := [p131_88, p131_195, p131_172]) (H := H131) envOk hH131 (ok_of (ok_one occ131_88 ok131_88 (ok_one occ131_195 ok131_195 (ok_one occ131_172 ok131_172 ok_end)))) (by kernel_rfl) (fun x => by kernel_rfl)
noncomputable def p131_221 : Pc := ⟨221, sh131_221, outs131_221, f131_221⟩
theorem occ131_221 : occ code131 221 = [c131_221] := by kernel_rfl
theorem ok131_221 : PcOk Tryz.prog env 0 493 p131_221 (c131_221) :=
  piece_ok (T := []) (H := H131) envOk hH131 (ok_nil) (by kernel_rfl) (fun x => by kernel_rfl)
noncomputable def p131_237 : Pc := ⟨237, sh131_237, outs131_237, f131_237⟩
theorem occ131_237 : occ code131 237 = [c131_237] := by kernel_rfl
theorem ok131_237 : PcOk Tryz.prog env 0 493 p131_237 (c131_237) :=
  piece_ok (T := []) (H := H131) envOk hH131 (ok_nil) (by kernel_rfl) (fun x => by kernel_rfl)
noncomputable def p131_257 : Pc := ⟨257, sh131_257, outs131_257, f131_257⟩
theorem occ131_257 : occ code131 257 = [c131_257] := by kernel_rfl
theorem ok131_257 : PcOk Tryz.prog env 0 493 p131_257 (c131_257) :=
  piece_ok (T := []) (H := H131) envOk hH131 (ok_nil) (by kernel_rfl) (fun x => by kernel_rfl)
noncomputable def p131_302 : Pc := ⟨302, sh131_302, outs131_302, f131_302⟩
theorem occ131_302 : occ code131 302 = [c131_302] := by kernel_rfl
theorem ok131_302 : PcOk Tryz.prog env 0 493 p131_302 (c131_302) :=
  piece_ok (T := []) (H := H131) envOk hH131 (ok_nil) (by kernel_rfl) (fun x => by kernel_rfl)
noncomputable def p131_316 : Pc := ⟨316, sh131_316, outs131_316, loopF f131_316⟩
theorem occ131_316 : occ code131 316 = [.loop c131_316] := by kernel_rfl
theorem ok131_316 : PcOk Tryz.prog env 0 493 p131_316 (.loop c131_316) :=
  loop_ok (T := []) (H := H131) envOk hH131 (ok_nil) (by kernel_rfl) (fun x => by kernel_rfl)
noncomputable def p131_349 : Pc := ⟨349, sh131_349, outs131_349, f131_349⟩
theorem occ131_349 : occ code131 349 = [c131_349] := by kernel_rfl
theorem ok131_349 : PcOk Tryz.prog env 0 493 p131_349 (c131_349) :=
  piece_ok (T := []) (H := H131) envOk hH131 (ok_nil) (by kernel_rfl) (fun x => by kernel_rfl)
noncomputable def p131_372 : Pc := ⟨372, sh131_372, outs131_372, loopF f131_372⟩
theorem occ131_372 : occ c131_356 372 = [.loop c131_372] := by kernel_rfl
theorem ok131_372 : PcOk Tryz.prog env 0 493 p131_372 (.loop c131_372) :=
  loop_ok (T := []) (H := H131) envOk hH131 (ok_nil) (by kernel_rfl) (fun x => by kernel_rfl)
noncomputable def p131_396 : Pc := ⟨396, sh131_396, outs131_396, loopF f131_396⟩
theorem occ131_396 : occ c131_356 396 = [.loop c131_396] := by kernel_rfl
theorem ok131_396 : PcOk Tryz.prog env 0 493 p131_396 (.loop c131_396) :=
  loop_ok (T := []) (H := H131) envOk hH131 (ok_nil) (by kernel_rfl) (fun x => by kernel_rfl)
noncomputable def p131_356 : Pc := ⟨356, sh131_356, outs131_356, loopF f131_356⟩
theorem occ131_356 : occ code131 356 = [.loop c131_356] := by kernel_rfl
theorem ok131_356 : PcOk Tryz.prog env 0 493 p131_356 (.loop c131_356) :=
  loop_ok (T := [p131_372, p131_396]) (H := H131) envOk hH131 (ok_of (ok_one occ131_372 ok131_372 (ok_one occ131_396 ok131_396 ok_end))) (by kernel_rfl) (fun x => by kernel_rfl)
noncomputable def p131_437 : Pc := ⟨437, sh131_437, outs131_437, f131_437⟩
theorem occ131_437 : occ code131 437 = [c131_437] := by kernel_rfl
theorem ok131_437 : PcOk Tryz.prog env 0 493 p131_437 (c131_437) :=
  piece_ok (T := []) (H := H131) envOk hH131 (ok_nil) (by kernel_rfl) (fun x => by kernel_rfl)
noncomputable def p131_473 : Pc := ⟨473, sh131_473, outs131_473, f131_473⟩
theorem occ131_473 : occ code131 473 = [c131_473] := by kernel_rfl
theorem ok131_473 : PcOk Tryz.prog env 0 493 p131_473 (c131_473) :=
  piece_ok (T := []) (H := H131) envOk hH131 (ok_nil) (by kernel_rfl) (fun x => by kernel_rfl)
noncomputable def p131_528 : Pc := ⟨528, sh131_528, outs131_528, loopF f131_528⟩
theorem occ131_528 : occ code131 528 = [.loop c131_528] := by kernel_rfl
theorem ok131_528 : PcOk Tryz.prog env 0 493 p131_528 (.loop c131_528) :=
  loop_ok (T := []) (H := H131) envOk hH131 (ok_nil) (by kernel_rfl) (fun x => by kernel_rfl)
theorem con131 : Con Tryz.prog env 131 ⟨ps131, rs131, f131⟩ :=
  con_of (T := [p131_20, p131_221, p131_237, p131_257, p131_302, p131_316, p131_349, p131_356, p131_437, p131_473, p131_528]) (H := H131) (n := 493) (c := code131) envOk hH131 Tryz.func131 (by kernel_rfl) (by kernel_rfl) (by kernel_rfl) (by kernel_rfl)
    (ok_of (ok_one occ131_20 ok131_20 (ok_one occ131_221 ok131_221 (ok_one occ131_237 ok131_237 (ok_one occ131_257 ok131_257 (ok_one occ131_302 ok131_302 (ok_one occ131_316 ok131_316 (ok_one occ131_349 ok131_349 (ok_one occ131_356 ok131_356 (ok_one occ131_437 ok131_437 (ok_one occ131_473 ok131_473 (ok_one occ131_528 ok131_528 ok_end)))))))))))) (by kernel_rfl) (fun x => by kernel_rfl)
end Go.Ev.L6
