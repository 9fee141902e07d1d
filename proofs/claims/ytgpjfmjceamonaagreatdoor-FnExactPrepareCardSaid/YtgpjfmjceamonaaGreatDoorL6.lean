/-
 Prepare: what each function computes, the rest (printed by g5.py).
-/
import Derived.Test.YtgpjfmjceamonaaGreatDoorL6A
namespace Go.Ev.L6
open Go.Proofs
/-! ### (loop.example/loom/impl.State).copied -/
def ps132 : List VS := [.val Y25]
def rs132 : List VS := [.rc [.sc .bool, .own 3 (.int .i64), .own 278 Y24]]
noncomputable def f132 (x : S6 × Unit) : Option (((Bool × (List Int) × (List S4) × Unit) × Unit) × (Unit)) :=
 let s1 := x.1
 bif (nle (([] : List Int).length + s1.2.1.length) 17592186044416) then (
  bif (nle (([] : List S4).length + s1.2.2.length) 5864062014805) then (
   some (((s1.1, (([] : List Int) ++ s1.2.1), (([] : List S4) ++ s1.2.2), ()), ()), ()))
  else none)
 else none
/-! ### loop.example/loom/impl.eachTakes -/
def ps171 : List VS := [.val (.int .i64)]
def rs171 : List VS := [.own 3 (.int .i64)]
noncomputable def f171 (x : Int × Unit) : Option (((List Int) × Unit) × (Unit)) :=
 some ((([x.1]), ()), ())
/-! ### loop.example/loom/impl.gives -/
def ps173 : List VS := [.val (.int .i64)]
def rs173 : List VS := [.val (.int .i64)]
noncomputable def f173 (x : Int × Unit) : Option ((Int × Unit) × (Unit)) :=
 let op1 := x.1
 bif (beq op1 (6 : Int)) then some (((2 : Int), ()), ())
 else bif ((beq op1 (22 : Int)) || ((beq op1 (27 : Int)) || (beq op1 (28 : Int)))) then some (((3 : Int), ()), ())
 else bif (beq op1 (42 : Int)) then some (((0 : Int), ()), ())
 else some (((1 : Int), ()), ())
/-! ### closure172 -/
def sh172_8 : Sh := ⟨[0, 1, 7, 8, 9], [.val (.int .i64), .box 198 [.sc Y25] 0, .val (.row Y24), .val (.int .i64), .val (.int .i64)], []⟩
def outs172_8 : List (Ex × Sh) := [((.exit 0), ⟨[0, 1], [.val (.int .i64), .box 198 [.sc Y25] 0], []⟩), (.ret, ⟨[0, 1, 3], [.val (.int .i64), .box 198 [.sc Y25] 0, .val .bool], []⟩)]
noncomputable def f172_8 (x : Int × (S6 × Unit) × (List S4) × Int × Int × Unit) : Option ((Int × (S6 × Unit) × (List S4) × Int × Int × Unit) ⊕ ((Int × (S6 × Unit) × Unit) ⊕ (Int × (S6 × Unit) × Bool × Unit))) :=
 let k3 := x.1
 let v4 := x.2.2.1
 let v5 := x.2.2.2.1
 let v6 := x.2.2.2.2.1
 bif (blt v6 v5) then (
  bif (inR v6 (v4.length : Int)) then (
   bif ((v4.getD v6.toNat (false, (0 : Int), (0 : Int))).1 && (blt k3 (v4.getD v6.toNat (false, (0 : Int), (0 : Int))).2.1)) then some (.inr (.inr (k3, (x.2.1.1, ()), false, ())))
   else some (.inl (k3, (x.2.1.1, ()), v4, v5, (wr (v6 + (1 : Int))), ())))
  else none)
 else some (.inr (.inl (k3, (x.2.1.1, ()), ())))
def ps172 : List VS := [.val (.int .i64), .box 198 [.sc Y25] 0]
def rs172 : List VS := [.val .bool]
noncomputable def f172 (x : Int × (S6 × Unit) × Unit) : Option ((Bool × Unit) × ((S6 × Unit) × Unit)) :=
 (loopF f172_8 (x.1, (x.2.1.1, ()), x.2.1.1.2.2, (x.2.1.1.2.2.length : Int), (0 : Int), ())).bind fun y16 => match y16 with
  | .inl z11 => (
   some ((true, ()), (z11.2.1.1, ()), ()))
  | .inr z13 => (
   some ((z13.2.2.1, ()), (z13.2.1.1, ()), ()))
/-! ### loop.example/loom/impl.step -/
def sh131_88 : Sh := ⟨[2, 4, 7, 10, 11, 12, 13, 16, 18, 51, 52, 84, 85], [.val (.int .i64), .box 32 [.sc Y5] 0, .box 198 [.sc Y25] 0, .box 118 [.sc Y2] 0, .box 198 [.sc .bool, .own 3 (.int .i64), .own 278 Y24] 0, .own 3 (.int .i64), .val (.int .i64), .mp, .val (.int .i64), .val Y33, .val (.int .i64), .val Y33, .val (.int .i64)], []⟩
def outs131_88 : List (Ex × Sh) := [((.exit 3), ⟨[2, 4, 7, 10, 11, 12, 16, 18, 51, 52], [.val (.int .i64), .box 32 [.sc Y5] 0, .box 198 [.sc Y25] 0, .box 118 [.sc Y2] 0, .box 198 [.sc .bool, .own 3 (.int .i64), .own 278 Y24] 0, .own 3 (.int .i64), .mp, .val (.int .i64), .val Y33, .val (.int .i64)], []⟩), (.ret, ⟨[8, 9], [.val (.int .i64), .own 229 Y32], []⟩)]
noncomputable def f131_88 (x : Int × (S25 × Unit) × (S6 × Unit) × (S2 × Unit) × (Bool × (List Int) × (List S4) × Unit) × (List Int) × Int × (List (Int × Int)) × Int × S28 × Int × S28 × Int × Unit) : Option ((Int × (S25 × Unit) × (S6 × Unit) × (S2 × Unit) × (Bool × (List Int) × (List S4) × Unit) × (List Int) × Int × (List (Int × Int)) × Int × S28 × Int × S28 × Int × Unit) ⊕ ((Int × (S25 × Unit) × (S6 × Unit) × (S2 × Unit) × (Bool × (List Int) × (List S4) × Unit) × (List Int) × (List (Int × Int)) × Int × S28 × Int × Unit) ⊕ (Int × (List S5) × Unit))) :=
 let A24 := x.1
 let v25 := x.2.2.2.2.2.1
 let v26 := x.2.2.2.2.2.2.1
 let v27 := x.2.2.2.2.2.2.2.1
 let v28 := x.2.2.2.2.2.2.2.2.1
 let v29 := x.2.2.2.2.2.2.2.2.2.1
 let v30 := x.2.2.2.2.2.2.2.2.2.2.1
 let v31 := x.2.2.2.2.2.2.2.2.2.2.2.1
 let v32 := x.2.2.2.2.2.2.2.2.2.2.2.2.1
 bif (blt v32 (4 : Int)) then (
  bif (inR v32 4) then (
   let v34 := ([v31.1, v31.2.1, v31.2.2.1, v31.2.2.2].getD v32.toNat 0)
   (joinB ((blt v32 v26) && ((beq v34 (4 : Int)) || ((beq v34 (5 : Int)) || (beq v34 (6 : Int))))) ((f169 (x.2.2.2.1.1, ())).bind fun r37 => (bif (inR v32 4) then (some (beq ([r37.1.1.1, r37.1.1.2.1, r37.1.1.2.2.1, r37.1.1.2.2.2].getD v32.toNat 0) v28)) else none)) (some false)).bind fun c38 =>
   bif c38 then some (.inr (.inr ((10 : Int), ([] : List S5), ())))
   else some (.inl (A24, (x.2.1.1, ()), (x.2.2.1.1, ()), (x.2.2.2.1.1, ()), (x.2.2.2.2.1.1, x.2.2.2.2.1.2.1, x.2.2.2.2.1.2.2.1, ()), v25, v26, v27, v28, v29, v30, v31, (wr (v32 + (1 : Int))), ())))
  else none)
 else some (.inr (.inl (A24, (x.2.1.1, ()), (x.2.2.1.1, ()), (x.2.2.2.1.1, ()), (x.2.2.2.2.1.1, x.2.2.2.2.1.2.1, x.2.2.2.2.1.2.2.1, ()), v25, v27, v28, v29, v30, ())))
def sh131_195 : Sh := ⟨[16, 2, 4, 7, 10, 11, 12, 51, 52], [.mp, .val (.int .i64), .box 32 [.sc Y5] 0, .box 198 [.sc Y25] 0, .box 118 [.sc Y2] 0, .box 198 [.sc .bool, .own 3 (.int .i64), .own 278 Y24] 0, .own 3 (.int .i64), .val Y33, .val (.int .i64)], []⟩
def outs131_195 : List (Ex × Sh) := [(.normal, ⟨[2, 4, 7, 10, 11, 12, 51, 52], [.val (.int .i64), .box 32 [.sc Y5] 0, .box 198 [.sc Y25] 0, .box 118 [.sc Y2] 0, .box 198 [.sc .bool, .own 3 (.int .i64), .own 278 Y24] 0, .own 3 (.int .i64), .val Y33, .val (.int .i64)], []⟩), (.ret, ⟨[8, 9], [.val (.int .i64), .own 229 Y32], []⟩)]
noncomputable def mapChk (ts : List Int) (m : List (Int × Int)) : Option Bool := bif m.all (fun p => inR p.1 (ts.length : Int)) then some (m.all fun p => beq (ts.getD p.1.toNat 0) p.2) else none
noncomputable def f131_195 (x : (List (Int × Int)) × Int × (S25 × Unit) × (S6 × Unit) × (S2 × Unit) × (Bool × (List Int) × (List S4) × Unit) × (List Int) × S28 × Int × Unit) : Option ((Int × (S25 × Unit) × (S6 × Unit) × (S2 × Unit) × (Bool × (List Int) × (List S4) × Unit) × (List Int) × S28 × Int × Unit) ⊕ (Int × (List S5) × Unit)) :=
 (mapChk x.2.2.2.2.2.1.2.1 x.1).bind fun b => bif b then some (.inl x.2) else some (.inr (10, [], ()))
def sh131_172 : Sh := ⟨[2, 4, 7, 10, 11, 12, 16, 51, 52, 164, 165, 166], [.val (.int .i64), .box 32 [.sc Y5] 0, .box 198 [.sc Y25] 0, .box 118 [.sc Y2] 0, .box 198 [.sc .bool, .own 3 (.int .i64), .own 278 Y24] 0, .own 3 (.int .i64), .mp, .val Y33, .val (.int .i64), .val (.row Y0), .val (.int .i64), .val (.int .i64)], []⟩
def outs131_172 : List (Ex × Sh) := [((.exit 5), ⟨[2, 4, 7, 10, 11, 12, 16, 51, 52], [.val (.int .i64), .box 32 [.sc Y5] 0, .box 198 [.sc Y25] 0, .box 118 [.sc Y2] 0, .box 198 [.sc .bool, .own 3 (.int .i64), .own 278 Y24] 0, .own 3 (.int .i64), .mp, .val Y33, .val (.int .i64)], []⟩), (.ret, ⟨[8, 9], [.val (.int .i64), .own 229 Y32], []⟩)]
noncomputable def f131_172 (x : Int × (S25 × Unit) × (S6 × Unit) × (S2 × Unit) × (Bool × (List Int) × (List S4) × Unit) × (List Int) × (List (Int × Int)) × S28 × Int × (List S0) × Int × Int × Unit) : Option ((Int × (S25 × Unit) × (S6 × Unit) × (S2 × Unit) × (Bool × (List Int) × (List S4) × Unit) × (List Int) × (List (Int × Int)) × S28 × Int × (List S0) × Int × Int × Unit) ⊕ ((Int × (S25 × Unit) × (S6 × Unit) × (S2 × Unit) × (Bool × (List Int) × (List S4) × Unit) × (List Int) × (List (Int × Int)) × S28 × Int × Unit) ⊕ (Int × (List S5) × Unit))) :=
 let A147 := x.1
 let v148 := x.2.2.2.2.2.1
 let v149 := x.2.2.2.2.2.2.1
 let v150 := x.2.2.2.2.2.2.2.1
 let v151 := x.2.2.2.2.2.2.2.2.1
 let v152 := x.2.2.2.2.2.2.2.2.2.1
 let v153 := x.2.2.2.2.2.2.2.2.2.2.1
 let v154 := x.2.2.2.2.2.2.2.2.2.2.2.1
 bif (blt v154 v153) then (
  bif (inR v154 (v152.length : Int)) then (
   (joinB (v152.getD v154.toNat (false, (0 : Int))).1 (bif (inR (v152.getD v154.toNat (false, (0 : Int))).2 (x.2.2.2.2.1.2.1.length : Int)) then (some (bne (x.2.2.2.2.1.2.1.getD (v152.getD v154.toNat (false, (0 : Int))).2.toNat (0 : Int)) (2 : Int))) else none) (some false)).bind fun c157 =>
   bif c157 then some (.inr (.inr ((10 : Int), ([] : List S5), ())))
   else some (.inl (A147, (x.2.1.1, ()), (x.2.2.1.1, ()), (x.2.2.2.1.1, ()), (x.2.2.2.2.1.1, x.2.2.2.2.1.2.1, x.2.2.2.2.1.2.2.1, ()), v148, v149, v150, v151, v152, v153, (wr (v154 + (1 : Int))), ())))
  else none)
 else some (.inr (.inl (A147, (x.2.1.1, ()), (x.2.2.1.1, ()), (x.2.2.2.1.1, ()), (x.2.2.2.2.1.1, x.2.2.2.2.1.2.1, x.2.2.2.2.1.2.2.1, ()), v148, v149, v150, v151, ())))
def sh131_20 : Sh := ⟨[2, 4, 7, 10, 11, 12, 51, 52], [.val (.int .i64), .box 32 [.sc Y5] 0, .box 198 [.sc Y25] 0, .box 118 [.sc Y2] 0, .box 198 [.sc .bool, .own 3 (.int .i64), .own 278 Y24] 0, .own 3 (.int .i64), .val Y33, .val (.int .i64)], []⟩
def outs131_20 : List (Ex × Sh) := [((.exit 0), ⟨[2, 7, 10, 11, 12], [.val (.int .i64), .box 198 [.sc Y25] 0, .box 118 [.sc Y2] 0, .box 198 [.sc .bool, .own 3 (.int .i64), .own 278 Y24] 0, .own 3 (.int .i64)], []⟩), (.ret, ⟨[8, 9], [.val (.int .i64), .own 229 Y32], []⟩)]
noncomputable def f131_20 (x : Int × (S25 × Unit) × (S6 × Unit) × (S2 × Unit) × (Bool × (List Int) × (List S4) × Unit) × (List Int) × S28 × Int × Unit) : Option ((Int × (S25 × Unit) × (S6 × Unit) × (S2 × Unit) × (Bool × (List Int) × (List S4) × Unit) × (List Int) × S28 × Int × Unit) ⊕ ((Int × (S6 × Unit) × (S2 × Unit) × (Bool × (List Int) × (List S4) × Unit) × (List Int) × Unit) ⊕ (Int × (List S5) × Unit))) :=
 let A7 := x.1
 let v8 := x.2.2.2.2.2.1
 let v9 := x.2.2.2.2.2.2.1
 let v10 := x.2.2.2.2.2.2.2.1
 bif (blt v10 (4 : Int)) then (
  bif (inR v10 4) then (
   let v12 := ([v9.1, v9.2.1, v9.2.2.1, v9.2.2.2].getD v10.toNat 0)
   (f169 (x.2.2.2.1.1, ())).bind fun r13 =>
   bif (inR v10 4) then (
    let v14 := ([r13.1.1.1, r13.1.1.2.1, r13.1.1.2.2.1, r13.1.1.2.2.2].getD v10.toNat 0)
    bif ((beq v12 (2 : Int)) || (beq v12 (3 : Int))) then (
     let v20 := (bif (blt v14 (0 : Int)) then (wr ((-1 : Int) - v14)) else v14)
     bif (inR v20 (x.2.2.2.2.1.2.1.length : Int)) then (
      bif (bne (x.2.2.2.2.1.2.1.getD v20.toNat (0 : Int)) (bif (beq v12 (3 : Int)) then (3 : Int) else (1 : Int))) then some (.inr (.inr ((10 : Int), ([] : List S5), ())))
      else bif (blt v14 (0 : Int)) then (
       (loopF f131_88 (A7, (x.2.1.1, ()), (x.2.2.1.1, ()), (x.2.2.2.1.1, ()), (x.2.2.2.2.1.1, x.2.2.2.2.1.2.1, x.2.2.2.2.1.2.2.1, ()), v8, v10, [], v20, v9, v10, (((tlook tbl1 x.2.2.2.1.1.1).getD 0 0), ((tlook tbl1 x.2.2.2.1.1.1).getD 1 0), ((tlook tbl1 x.2.2.2.1.1.1).getD 2 0), ((tlook tbl1 x.2.2.2.1.1.1).getD 3 0)), (0 : Int), ())).bind fun y63 => match y63 with
        | .inl z40 => (
         let v42 := z40.2.2.2.2.2.1
         let v44 := z40.2.2.2.2.2.2.2.1
         bif (inR v44 (z40.2.2.2.2.1.2.1.length : Int)) then (
          bif (nle (v42.length + ([v44]).length) 17592186044416) then (
           (f131_195 (z40.2.2.2.2.2.2.1, z40.1, (z40.2.1.1, ()), (z40.2.2.1.1, ()), (z40.2.2.2.1.1, ()), (z40.2.2.2.2.1.1, (z40.2.2.2.2.1.2.1.set v44.toNat (0 : Int)), z40.2.2.2.2.1.2.2.1, ()), (v42 ++ ([v44])), z40.2.2.2.2.2.2.2.2.1, z40.2.2.2.2.2.2.2.2.2.1, ())).bind fun y52 => match y52 with
            | .inl z50 => (
             some (.inl (z50.1, (z50.2.1.1, ()), (z50.2.2.1.1, ()), (z50.2.2.2.1.1, ()), (z50.2.2.2.2.1.1, z50.2.2.2.2.1.2.1, z50.2.2.2.2.1.2.2.1, ()), z50.2.2.2.2.2.1, z50.2.2.2.2.2.2.1, (wr (z50.2.2.2.2.2.2.2.1 + (1 : Int))), ())))
            | .inr z51 => (
             some (.inr (.inr (z51.1, z51.2.1, ())))))
          else none)
         else none)
        | .inr z60 => (
         some (.inr (.inr (z60.1, z60.2.1, ())))))
      else (
       (f131_195 ([], A7, (x.2.1.1, ()), (x.2.2.1.1, ()), (x.2.2.2.1.1, ()), (x.2.2.2.2.1.1, x.2.2.2.2.1.2.1, x.2.2.2.2.1.2.2.1, ()), v8, v9, v10, ())).bind fun y66 => match y66 with
        | .inl z64 => (
         some (.inl (z64.1, (z64.2.1.1, ()), (z64.2.2.1.1, ()), (z64.2.2.2.1.1, ()), (z64.2.2.2.2.1.1, z64.2.2.2.2.1.2.1, z64.2.2.2.2.1.2.2.1, ()), z64.2.2.2.2.2.1, z64.2.2.2.2.2.2.1, (wr (z64.2.2.2.2.2.2.2.1 + (1 : Int))), ())))
        | .inr z65 => (
         some (.inr (.inr (z65.1, z65.2.1, ()))))))
     else none)
    else bif (beq v12 (4 : Int)) then (
     (f131_195 ((mupd [] v14 (1 : Int)), A7, (x.2.1.1, ()), (x.2.2.1.1, ()), (x.2.2.2.1.1, ()), (x.2.2.2.2.1.1, x.2.2.2.2.1.2.1, x.2.2.2.2.1.2.2.1, ()), v8, v9, v10, ())).bind fun y77 => match y77 with
      | .inl z75 => (
       some (.inl (z75.1, (z75.2.1.1, ()), (z75.2.2.1.1, ()), (z75.2.2.2.1.1, ()), (z75.2.2.2.2.1.1, z75.2.2.2.2.1.2.1, z75.2.2.2.2.1.2.2.1, ()), z75.2.2.2.2.2.1, z75.2.2.2.2.2.2.1, (wr (z75.2.2.2.2.2.2.2.1 + (1 : Int))), ())))
      | .inr z76 => (
       some (.inr (.inr (z76.1, z76.2.1, ())))))
    else bif (beq v12 (5 : Int)) then (
     (f131_195 ((mupd [] v14 (2 : Int)), A7, (x.2.1.1, ()), (x.2.2.1.1, ()), (x.2.2.2.1.1, ()), (x.2.2.2.2.1.1, x.2.2.2.2.1.2.1, x.2.2.2.2.1.2.2.1, ()), v8, v9, v10, ())).bind fun y88 => match y88 with
      | .inl z86 => (
       some (.inl (z86.1, (z86.2.1.1, ()), (z86.2.2.1.1, ()), (z86.2.2.2.1.1, ()), (z86.2.2.2.2.1.1, z86.2.2.2.2.1.2.1, z86.2.2.2.2.1.2.2.1, ()), z86.2.2.2.2.2.1, z86.2.2.2.2.2.2.1, (wr (z86.2.2.2.2.2.2.2.1 + (1 : Int))), ())))
      | .inr z87 => (
       some (.inr (.inr (z87.1, z87.2.1, ())))))
    else bif (beq v12 (6 : Int)) then (
     (f131_195 ((mupd [] v14 (3 : Int)), A7, (x.2.1.1, ()), (x.2.2.1.1, ()), (x.2.2.2.1.1, ()), (x.2.2.2.2.1.1, x.2.2.2.2.1.2.1, x.2.2.2.2.1.2.2.1, ()), v8, v9, v10, ())).bind fun y99 => match y99 with
      | .inl z97 => (
       some (.inl (z97.1, (z97.2.1.1, ()), (z97.2.2.1.1, ()), (z97.2.2.2.1.1, ()), (z97.2.2.2.2.1.1, z97.2.2.2.2.1.2.1, z97.2.2.2.2.1.2.2.1, ()), z97.2.2.2.2.2.1, z97.2.2.2.2.2.2.1, (wr (z97.2.2.2.2.2.2.2.1 + (1 : Int))), ())))
      | .inr z98 => (
       some (.inr (.inr (z98.1, z98.2.1, ())))))
    else bif (beq v12 (18 : Int)) then (
     (f131_195 ((mupd (mupd (mupd [] v14 (1 : Int)) (wr (v14 + (1 : Int))) (1 : Int)) (wr (v14 + (2 : Int))) (1 : Int)), A7, (x.2.1.1, ()), (x.2.2.1.1, ()), (x.2.2.2.1.1, ()), (x.2.2.2.2.1.1, x.2.2.2.2.1.2.1, x.2.2.2.2.1.2.2.1, ()), v8, v9, v10, ())).bind fun y112 => match y112 with
      | .inl z110 => (
       some (.inl (z110.1, (z110.2.1.1, ()), (z110.2.2.1.1, ()), (z110.2.2.2.1.1, ()), (z110.2.2.2.2.1.1, z110.2.2.2.2.1.2.1, z110.2.2.2.2.1.2.2.1, ()), z110.2.2.2.2.2.1, z110.2.2.2.2.2.2.1, (wr (z110.2.2.2.2.2.2.2.1 + (1 : Int))), ())))
      | .inr z111 => (
       some (.inr (.inr (z111.1, z111.2.1, ())))))
    else bif (beq v12 (19 : Int)) then (
     (f131_195 ((mupd (mupd [] v14 (1 : Int)) (wr (v14 + (1 : Int))) (0 : Int)), A7, (x.2.1.1, ()), (x.2.2.1.1, ()), (x.2.2.2.1.1, ()), (x.2.2.2.2.1.1, x.2.2.2.2.1.2.1, x.2.2.2.2.1.2.2.1, ()), v8, v9, v10, ())).bind fun y124 => match y124 with
      | .inl z122 => (
       some (.inl (z122.1, (z122.2.1.1, ()), (z122.2.2.1.1, ()), (z122.2.2.2.1.1, ()), (z122.2.2.2.2.1.1, z122.2.2.2.2.1.2.1, z122.2.2.2.2.1.2.2.1, ()), z122.2.2.2.2.2.1, z122.2.2.2.2.2.2.1, (wr (z122.2.2.2.2.2.2.2.1 + (1 : Int))), ())))
      | .inr z123 => (
       some (.inr (.inr (z123.1, z123.2.1, ())))))
    else bif (beq v12 (20 : Int)) then (
     (f131_195 ((mupd (mupd [] v14 (1 : Int)) (wr (v14 + (1 : Int))) (1 : Int)), A7, (x.2.1.1, ()), (x.2.2.1.1, ()), (x.2.2.2.1.1, ()), (x.2.2.2.2.1.1, x.2.2.2.2.1.2.1, x.2.2.2.2.1.2.2.1, ()), v8, v9, v10, ())).bind fun y136 => match y136 with
      | .inl z134 => (
       some (.inl (z134.1, (z134.2.1.1, ()), (z134.2.2.1.1, ()), (z134.2.2.2.1.1, ()), (z134.2.2.2.2.1.1, z134.2.2.2.2.1.2.1, z134.2.2.2.2.1.2.2.1, ()), z134.2.2.2.2.2.1, z134.2.2.2.2.2.2.1, (wr (z134.2.2.2.2.2.2.2.1 + (1 : Int))), ())))
      | .inr z135 => (
       some (.inr (.inr (z135.1, z135.2.1, ())))))
    else bif (beq v12 (11 : Int)) then (
     bif (inR v14 (x.2.1.1.length : Int)) then (
      let v145 := (x.2.1.1.getD v14.toNat ((⟨#[]⟩ : ByteArray), (0 : Int), (0 : Int), false, (0 : Int), ([] : List S0), ([] : List S1), ([] : List S2), ([] : List S3))).2.2.2.2.2.1
      (loopF f131_172 (A7, (x.2.1.1, ()), (x.2.2.1.1, ()), (x.2.2.2.1.1, ()), (x.2.2.2.2.1.1, x.2.2.2.2.1.2.1, x.2.2.2.2.1.2.2.1, ()), v8, [], v9, v10, v145, (v145.length : Int), (0 : Int), ())).bind fun y178 => match y178 with
       | .inl z159 => (
        (f131_195 (z159.2.2.2.2.2.2.1, z159.1, (z159.2.1.1, ()), (z159.2.2.1.1, ()), (z159.2.2.2.1.1, ()), (z159.2.2.2.2.1.1, z159.2.2.2.2.1.2.1, z159.2.2.2.2.1.2.2.1, ()), z159.2.2.2.2.2.1, z159.2.2.2.2.2.2.2.1, z159.2.2.2.2.2.2.2.2.1, ())).bind fun y167 => match y167 with
         | .inl z165 => (
          some (.inl (z165.1, (z165.2.1.1, ()), (z165.2.2.1.1, ()), (z165.2.2.2.1.1, ()), (z165.2.2.2.2.1.1, z165.2.2.2.2.1.2.1, z165.2.2.2.2.1.2.2.1, ()), z165.2.2.2.2.2.1, z165.2.2.2.2.2.2.1, (wr (z165.2.2.2.2.2.2.2.1 + (1 : Int))), ())))
         | .inr z166 => (
          some (.inr (.inr (z166.1, z166.2.1, ())))))
       | .inr z175 => (
        some (.inr (.inr (z175.1, z175.2.1, ())))))
     else none)
    else (
     (f131_195 ([], A7, (x.2.1.1, ()), (x.2.2.1.1, ()), (x.2.2.2.1.1, ()), (x.2.2.2.2.1.1, x.2.2.2.2.1.2.1, x.2.2.2.2.1.2.2.1, ()), v8, v9, v10, ())).bind fun y181 => match y181 with
      | .inl z179 => (
       some (.inl (z179.1, (z179.2.1.1, ()), (z179.2.2.1.1, ()), (z179.2.2.2.1.1, ()), (z179.2.2.2.2.1.1, z179.2.2.2.2.1.2.1, z179.2.2.2.2.1.2.2.1, ()), z179.2.2.2.2.2.1, z179.2.2.2.2.2.2.1, (wr (z179.2.2.2.2.2.2.2.1 + (1 : Int))), ())))
      | .inr z180 => (
       some (.inr (.inr (z180.1, z180.2.1, ()))))))
   else none)
  else none)
 else some (.inr (.inl (A7, (x.2.2.1.1, ()), (x.2.2.2.1.1, ()), (x.2.2.2.2.1.1, x.2.2.2.2.1.2.1, x.2.2.2.2.1.2.2.1, ()), v8, ())))
def sh131_221 : Sh := ⟨[2, 7, 10, 11, 12, 199], [.val (.int .i64), .box 198 [.sc Y25] 0, .box 118 [.sc Y2] 0, .box 198 [.sc .bool, .own 3 (.int .i64), .own 278 Y24] 0, .own 3 (.int .i64), .val .bool], []⟩
def outs131_221 : List (Ex × Sh) := [(.normal, ⟨[2, 7, 10, 11, 12], [.val (.int .i64), .box 198 [.sc Y25] 0, .box 118 [.sc Y2] 0, .box 198 [.sc .bool, .own 3 (.int .i64), .own 278 Y24] 0, .own 3 (.int .i64)], []⟩)]
noncomputable def f131_221 (x : Int × (S6 × Unit) × (S2 × Unit) × (Bool × (List Int) × (List S4) × Unit) × (List Int) × Bool × Unit) : Option (Int × (S6 × Unit) × (S2 × Unit) × (Bool × (List Int) × (List S4) × Unit) × (List Int) × Unit) :=
 let A193 := x.1
 let v194 := x.2.2.2.2.1
 bif x.2.2.2.2.2.1 then (
  (f171 (x.2.2.1.1.2.1, ())).bind fun r196 =>
  bif (nle (v194.length + r196.1.1.length) 17592186044416) then (
   some (A193, (x.2.1.1, ()), (x.2.2.1.1, ()), (x.2.2.2.1.1, x.2.2.2.1.2.1, x.2.2.2.1.2.2.1, ()), (v194 ++ r196.1.1), ()))
  else none)
 else some (A193, (x.2.1.1, ()), (x.2.2.1.1, ()), (x.2.2.2.1.1, x.2.2.2.1.2.1, x.2.2.2.1.2.2.1, ()), v194, ())
def sh131_237 : Sh := ⟨[2, 7, 10, 11, 12, 25, 26, 210], [.val (.int .i64), .box 198 [.sc Y25] 0, .box 118 [.sc Y2] 0, .box 198 [.sc .bool, .own 3 (.int .i64), .own 278 Y24] 0, .own 3 (.int .i64), .box 278 [.sc Y24] 0, .val (.int .i64), .val .bool], []⟩
def outs131_237 : List (Ex × Sh) := [(.normal, ⟨[2, 7, 10, 11, 12, 25], [.val (.int .i64), .box 198 [.sc Y25] 0, .box 118 [.sc Y2] 0, .box 198 [.sc .bool, .own 3 (.int .i64), .own 278 Y24] 0, .own 3 (.int .i64), .box 278 [.sc Y24] 0], []⟩)]
noncomputable def f131_237 (x : Int × (S6 × Unit) × (S2 × Unit) × (Bool × (List Int) × (List S4) × Unit) × (List Int) × (S4 × Unit) × Int × Bool × Unit) : Option (Int × (S6 × Unit) × (S2 × Unit) × (Bool × (List Int) × (List S4) × Unit) × (List Int) × (S4 × Unit) × Unit) :=
 let A203 := x.1
 let v204 := x.2.2.2.2.1
 bif x.2.2.2.2.2.2.2.1 then (
  let v207 := (wr (x.2.2.2.2.2.2.1 - (1 : Int)))
  bif (inR v207 (x.2.1.1.2.2.length : Int)) then (
   some (A203, (x.2.1.1, ()), (x.2.2.1.1, ()), (x.2.2.2.1.1, x.2.2.2.1.2.1, x.2.2.2.1.2.2.1, ()), v204, ((x.2.1.1.2.2.getD v207.toNat (false, (0 : Int), (0 : Int))), ()), ()))
  else none)
 else some (A203, (x.2.1.1, ()), (x.2.2.1.1, ()), (x.2.2.2.1.1, x.2.2.2.1.2.1, x.2.2.2.1.2.2.1, ()), v204, (x.2.2.2.2.2.1.1, ()), ())
def sh131_257 : Sh := ⟨[2, 7, 10, 11, 12, 25, 27, 223, 224], [.val (.int .i64), .box 198 [.sc Y25] 0, .box 118 [.sc Y2] 0, .box 198 [.sc .bool, .own 3 (.int .i64), .own 278 Y24] 0, .own 3 (.int .i64), .box 278 [.sc Y24] 0, .val .bool, .val (.int .i64), .val .bool], [(28, .clo 172 [7])]⟩
def outs131_257 : List (Ex × Sh) := [(.normal, ⟨[2, 7, 10, 11, 12], [.val (.int .i64), .box 198 [.sc Y25] 0, .box 118 [.sc Y2] 0, .box 198 [.sc .bool, .own 3 (.int .i64), .own 278 Y24] 0, .own 3 (.int .i64)], [(28, .clo 172 [7])]⟩), (.ret, ⟨[8, 9], [.val (.int .i64), .own 229 Y32], []⟩)]
noncomputable def f131_257 (x : Int × (S6 × Unit) × (S2 × Unit) × (Bool × (List Int) × (List S4) × Unit) × (List Int) × (S4 × Unit) × Bool × Int × Bool × Unit) : Option ((Int × (S6 × Unit) × (S2 × Unit) × (Bool × (List Int) × (List S4) × Unit) × (List Int) × Unit) ⊕ (Int × (List S5) × Unit)) :=
 let A214 := x.1
 let v215 := x.2.2.2.2.1
 let v216 := x.2.2.2.2.2.2.1
 let v217 := x.2.2.2.2.2.2.2.1
 bif x.2.2.2.2.2.2.2.2.1 then (
  bif ((!v216) || (!x.2.2.2.2.2.1.1.1)) then some (.inr ((11 : Int), ([] : List S5), ()))
  else some (.inl (A214, (x.2.1.1, ()), (x.2.2.1.1, ()), (x.2.2.2.1.1, x.2.2.2.1.2.1, x.2.2.2.1.2.2.1, ()), v215, ())))
 else bif ((beq v217 (34 : Int)) || ((beq v217 (35 : Int)) || (beq v217 (36 : Int)))) then (
  bif ((!v216) || x.2.2.2.2.2.1.1.1) then some (.inr ((11 : Int), ([] : List S5), ()))
  else some (.inl (A214, (x.2.1.1, ()), (x.2.2.1.1, ()), (x.2.2.2.1.1, x.2.2.2.1.2.1, x.2.2.2.1.2.2.1, ()), v215, ())))
 else bif ((beq v217 (31 : Int)) || (beq v217 (33 : Int))) then (
  bif (ble (50 : Int) (x.2.1.1.2.2.length : Int)) then some (.inr ((11 : Int), ([] : List S5), ()))
  else some (.inl (A214, (x.2.1.1, ()), (x.2.2.1.1, ()), (x.2.2.2.1.1, x.2.2.2.1.2.1, x.2.2.2.1.2.2.1, ()), v215, ())))
 else some (.inl (A214, (x.2.1.1, ()), (x.2.2.1.1, ()), (x.2.2.2.1.1, x.2.2.2.1.2.1, x.2.2.2.1.2.2.1, ()), v215, ()))
def sh131_302 : Sh := ⟨[2, 7, 10, 11, 12], [.val (.int .i64), .box 198 [.sc Y25] 0, .box 118 [.sc Y2] 0, .box 198 [.sc .bool, .own 3 (.int .i64), .own 278 Y24] 0, .own 3 (.int .i64)], [(28, .clo 172 [7])]⟩
def outs131_302 : List (Ex × Sh) := [(.normal, ⟨[2, 7, 10, 11, 12, 278], [.val (.int .i64), .box 198 [.sc Y25] 0, .box 118 [.sc Y2] 0, .box 198 [.sc .bool, .own 3 (.int .i64), .own 278 Y24] 0, .own 3 (.int .i64), .val .bool], []⟩)]
noncomputable def f131_302 (x : Int × (S6 × Unit) × (S2 × Unit) × (Bool × (List Int) × (List S4) × Unit) × (List Int) × Unit) : Option (Int × (S6 × Unit) × (S2 × Unit) × (Bool × (List Int) × (List S4) × Unit) × (List Int) × Bool × Unit) :=
 let A232 := x.1
 let v233 := x.2.2.2.2.1
 bif ((beq x.2.2.1.1.1 (33 : Int)) || (beq x.2.2.1.1.1 (34 : Int))) then (
  (f172 (x.2.2.1.1.2.1, (x.2.1.1, ()), ())).bind fun r236 =>
  bif (!r236.1.1) then (
   some (A232, (r236.2.1.1, ()), (x.2.2.1.1, ()), (x.2.2.2.1.1, x.2.2.2.1.2.1, x.2.2.2.1.2.2.1, ()), v233, true, ()))
  else bif (beq x.2.2.1.1.1 (31 : Int)) then (
   (f172 (x.2.2.1.1.2.2.1, (r236.2.1.1, ()), ())).bind fun r239 =>
   some (A232, (r239.2.1.1, ()), (x.2.2.1.1, ()), (x.2.2.2.1.1, x.2.2.2.1.2.1, x.2.2.2.1.2.2.1, ()), v233, (!r239.1.1), ()))
  else some (A232, (r236.2.1.1, ()), (x.2.2.1.1, ()), (x.2.2.2.1.1, x.2.2.2.1.2.1, x.2.2.2.1.2.2.1, ()), v233, false, ()))
 else bif (beq x.2.2.1.1.1 (31 : Int)) then (
  (f172 (x.2.2.1.1.2.2.1, (x.2.1.1, ()), ())).bind fun r242 =>
  some (A232, (r242.2.1.1, ()), (x.2.2.1.1, ()), (x.2.2.2.1.1, x.2.2.2.1.2.1, x.2.2.2.1.2.2.1, ()), v233, (!r242.1.1), ()))
 else some (A232, (x.2.1.1, ()), (x.2.2.1.1, ()), (x.2.2.2.1.1, x.2.2.2.1.2.1, x.2.2.2.1.2.2.1, ()), v233, false, ())
def sh131_316 : Sh := ⟨[2, 7, 10, 11, 12, 29, 284, 285], [.val (.int .i64), .box 198 [.sc Y25] 0, .box 118 [.sc Y2] 0, .box 198 [.sc .bool, .own 3 (.int .i64), .own 278 Y24] 0, .own 3 (.int .i64), .box 198 [.sc .bool, .own 3 (.int .i64), .own 278 Y24] 0, .val Y33, .val (.int .i64)], []⟩
def outs131_316 : List (Ex × Sh) := [((.exit 10), ⟨[2, 7, 10, 11, 12, 29], [.val (.int .i64), .box 198 [.sc Y25] 0, .box 118 [.sc Y2] 0, .box 198 [.sc .bool, .own 3 (.int .i64), .own 278 Y24] 0, .own 3 (.int .i64), .box 198 [.sc .bool, .own 3 (.int .i64), .own 278 Y24] 0], []⟩)]
noncomputable def f131_316 (x : Int × (S6 × Unit) × (S2 × Unit) × (Bool × (List Int) × (List S4) × Unit) × (List Int) × (Bool × (List Int) × (List S4) × Unit) × S28 × Int × Unit) : Option ((Int × (S6 × Unit) × (S2 × Unit) × (Bool × (List Int) × (List S4) × Unit) × (List Int) × (Bool × (List Int) × (List S4) × Unit) × S28 × Int × Unit) ⊕ (Int × (S6 × Unit) × (S2 × Unit) × (Bool × (List Int) × (List S4) × Unit) × (List Int) × (Bool × (List Int) × (List S4) × Unit) × Unit)) :=
 let A249 := x.1
 let v250 := x.2.2.2.2.1
 let v251 := x.2.2.2.2.2.2.1
 let v252 := x.2.2.2.2.2.2.2.1
 bif (blt v252 (4 : Int)) then (
  bif (inR v252 4) then (
   bif (beq ([v251.1, v251.2.1, v251.2.2.1, v251.2.2.2].getD v252.toNat 0) (1 : Int)) then (
    (f169 (x.2.2.1.1, ())).bind fun r256 =>
    bif (inR v252 4) then (
     let v257 := ([r256.1.1.1, r256.1.1.2.1, r256.1.1.2.2.1, r256.1.1.2.2.2].getD v252.toNat 0)
     (f173 (x.2.2.1.1.1, ())).bind fun r258 =>
     bif (inR v257 (x.2.2.2.1.2.1.length : Int)) then (
      let row259 := (x.2.2.2.1.2.1.set v257.toNat r258.1.1)
      bif (beq x.2.2.1.1.1 (41 : Int)) then (
       (f169 (x.2.2.1.1, ())).bind fun r261 =>
       bif (inR v252 4) then (
        let v262 := ([r261.1.1.1, r261.1.1.2.1, r261.1.1.2.2.1, r261.1.1.2.2.2].getD v252.toNat 0)
        bif (inR v262 (row259.length : Int)) then (
         some (.inl (A249, (x.2.1.1, ()), (x.2.2.1.1, ()), (x.2.2.2.1.1, (row259.set v262.toNat (3 : Int)), x.2.2.2.1.2.2.1, ()), v250, (x.2.2.2.2.2.1.1, x.2.2.2.2.2.1.2.1, x.2.2.2.2.2.1.2.2.1, ()), v251, (wr (v252 + (1 : Int))), ())))
        else none)
       else none)
      else some (.inl (A249, (x.2.1.1, ()), (x.2.2.1.1, ()), (x.2.2.2.1.1, row259, x.2.2.2.1.2.2.1, ()), v250, (x.2.2.2.2.2.1.1, x.2.2.2.2.2.1.2.1, x.2.2.2.2.2.1.2.2.1, ()), v251, (wr (v252 + (1 : Int))), ())))
     else none)
    else none)
   else some (.inl (A249, (x.2.1.1, ()), (x.2.2.1.1, ()), (x.2.2.2.1.1, x.2.2.2.1.2.1, x.2.2.2.1.2.2.1, ()), v250, (x.2.2.2.2.2.1.1, x.2.2.2.2.2.1.2.1, x.2.2.2.2.2.1.2.2.1, ()), v251, (wr (v252 + (1 : Int))), ())))
  else none)
 else some (.inr (A249, (x.2.1.1, ()), (x.2.2.1.1, ()), (x.2.2.2.1.1, x.2.2.2.1.2.1, x.2.2.2.1.2.2.1, ()), v250, (x.2.2.2.2.2.1.1, x.2.2.2.2.2.1.2.1, x.2.2.2.2.2.1.2.2.1, ()), ()))
def sh131_349 : Sh := ⟨[2, 7, 10, 11, 12, 29, 314], [.val (.int .i64), .box 198 [.sc Y25] 0, .box 118 [.sc Y2] 0, .box 198 [.sc .bool, .own 3 (.int .i64), .own 278 Y24] 0, .own 3 (.int .i64), .box 198 [.sc .bool, .own 3 (.int .i64), .own 278 Y24] 0, .val .bool], []⟩
def outs131_349 : List (Ex × Sh) := [(.normal, ⟨[2, 7, 10, 11, 12, 29], [.val (.int .i64), .box 198 [.sc Y25] 0, .box 118 [.sc Y2] 0, .box 198 [.sc .bool, .own 3 (.int .i64), .own 278 Y24] 0, .own 3 (.int .i64), .box 198 [.sc .bool, .own 3 (.int .i64), .own 278 Y24] 0], []⟩)]
noncomputable def f131_349 (x : Int × (S6 × Unit) × (S2 × Unit) × (Bool × (List Int) × (List S4) × Unit) × (List Int) × (Bool × (List Int) × (List S4) × Unit) × Bool × Unit) : Option (Int × (S6 × Unit) × (S2 × Unit) × (Bool × (List Int) × (List S4) × Unit) × (List Int) × (Bool × (List Int) × (List S4) × Unit) × Unit) :=
 let A271 := x.1
 let v272 := x.2.2.2.2.1
 bif x.2.2.2.2.2.2.1 then (
  let v274 := (wr (x.2.2.1.1.2.1 + (1 : Int)))
  bif (inR v274 (x.2.2.2.1.2.1.length : Int)) then (
   some (A271, (x.2.1.1, ()), (x.2.2.1.1, ()), (x.2.2.2.1.1, (x.2.2.2.1.2.1.set v274.toNat (1 : Int)), x.2.2.2.1.2.2.1, ()), v272, (x.2.2.2.2.2.1.1, x.2.2.2.2.2.1.2.1, x.2.2.2.2.2.1.2.2.1, ()), ()))
  else none)
 else some (A271, (x.2.1.1, ()), (x.2.2.1.1, ()), (x.2.2.2.1.1, x.2.2.2.1.2.1, x.2.2.2.1.2.2.1, ()), v272, (x.2.2.2.2.2.1.1, x.2.2.2.2.2.1.2.1, x.2.2.2.2.2.1.2.2.1, ()), ())
def sh131_372 : Sh := ⟨[2, 7, 10, 11, 12, 29, 33, 322, 323, 324, 332, 333], [.val (.int .i64), .box 198 [.sc Y25] 0, .box 118 [.sc Y2] 0, .box 198 [.sc .bool, .own 3 (.int .i64), .own 278 Y24] 0, .own 3 (.int .i64), .box 198 [.sc .bool, .own 3 (.int .i64), .own 278 Y24] 0, .box 278 [.sc Y24] 0, .val (.row Y24), .val (.int .i64), .val (.int .i64), .val (.int .i64), .val (.int .i64)], [(331, .same 12)]⟩
def outs131_372 : List (Ex × Sh) := [((.exit 14), ⟨[2, 7, 10, 11, 12, 29, 33, 322, 323, 324], [.val (.int .i64), .box 198 [.sc Y25] 0, .box 118 [.sc Y2] 0, .box 198 [.sc .bool, .own 3 (.int .i64), .own 278 Y24] 0, .own 3 (.int .i64), .box 198 [.sc .bool, .own 3 (.int .i64), .own 278 Y24] 0, .box 278 [.sc Y24] 0, .val (.row Y24), .val (.int .i64), .val (.int .i64)], []⟩), (.ret, ⟨[8, 9], [.val (.int .i64), .own 229 Y32], []⟩)]
noncomputable def f131_372 (x : Int × (S6 × Unit) × (S2 × Unit) × (Bool × (List Int) × (List S4) × Unit) × (List Int) × (Bool × (List Int) × (List S4) × Unit) × (S4 × Unit) × (List S4) × Int × Int × Int × Int × Unit) : Option ((Int × (S6 × Unit) × (S2 × Unit) × (Bool × (List Int) × (List S4) × Unit) × (List Int) × (Bool × (List Int) × (List S4) × Unit) × (S4 × Unit) × (List S4) × Int × Int × Int × Int × Unit) ⊕ ((Int × (S6 × Unit) × (S2 × Unit) × (Bool × (List Int) × (List S4) × Unit) × (List Int) × (Bool × (List Int) × (List S4) × Unit) × (S4 × Unit) × (List S4) × Int × Int × Unit) ⊕ (Int × (List S5) × Unit))) :=
 let A290 := x.1
 let v291 := x.2.2.2.2.1
 let v292 := x.2.2.2.2.2.2.2.1
 let v293 := x.2.2.2.2.2.2.2.2.1
 let v294 := x.2.2.2.2.2.2.2.2.2.1
 let v295 := x.2.2.2.2.2.2.2.2.2.2.1
 let v296 := x.2.2.2.2.2.2.2.2.2.2.2.1
 bif (blt v296 v295) then (
  bif (inR v296 (v291.length : Int)) then (
   bif (blt (v291.getD v296.toNat (0 : Int)) x.2.2.2.2.2.2.1.1.2.1) then some (.inr (.inr ((12 : Int), ([] : List S5), ())))
   else some (.inl (A290, (x.2.1.1, ()), (x.2.2.1.1, ()), (x.2.2.2.1.1, x.2.2.2.1.2.1, x.2.2.2.1.2.2.1, ()), v291, (x.2.2.2.2.2.1.1, x.2.2.2.2.2.1.2.1, x.2.2.2.2.2.1.2.2.1, ()), (x.2.2.2.2.2.2.1.1, ()), v292, v293, v294, v295, (wr (v296 + (1 : Int))), ())))
  else none)
 else some (.inr (.inl (A290, (x.2.1.1, ()), (x.2.2.1.1, ()), (x.2.2.2.1.1, x.2.2.2.1.2.1, x.2.2.2.1.2.2.1, ()), v291, (x.2.2.2.2.2.1.1, x.2.2.2.2.2.1.2.1, x.2.2.2.2.2.1.2.2.1, ()), (x.2.2.2.2.2.2.1.1, ()), v292, v293, v294, ())))
def sh131_396 : Sh := ⟨[2, 7, 10, 11, 12, 29, 322, 323, 324, 343, 344], [.val (.int .i64), .box 198 [.sc Y25] 0, .box 118 [.sc Y2] 0, .box 198 [.sc .bool, .own 3 (.int .i64), .own 278 Y24] 0, .own 3 (.int .i64), .box 198 [.sc .bool, .own 3 (.int .i64), .own 278 Y24] 0, .val (.row Y24), .val (.int .i64), .val (.int .i64), .val (.int .i64), .val (.int .i64)], []⟩
def outs131_396 : List (Ex × Sh) := [((.exit 16), ⟨[2, 7, 10, 11, 12, 29, 322, 323, 324], [.val (.int .i64), .box 198 [.sc Y25] 0, .box 118 [.sc Y2] 0, .box 198 [.sc .bool, .own 3 (.int .i64), .own 278 Y24] 0, .own 3 (.int .i64), .box 198 [.sc .bool, .own 3 (.int .i64), .own 278 Y24] 0, .val (.row Y24), .val (.int .i64), .val (.int .i64)], []⟩), (.ret, ⟨[8, 9], [.val (.int .i64), .own 229 Y32], []⟩)]
noncomputable def f131_396 (x : Int × (S6 × Unit) × (S2 × Unit) × (Bool × (List Int) × (List S4) × Unit) × (List Int) × (Bool × (List Int) × (List S4) × Unit) × (List S4) × Int × Int × Int × Int × Unit) : Option ((Int × (S6 × Unit) × (S2 × Unit) × (Bool × (List Int) × (List S4) × Unit) × (List Int) × (Bool × (List Int) × (List S4) × Unit) × (List S4) × Int × Int × Int × Int × Unit) ⊕ ((Int × (S6 × Unit) × (S2 × Unit) × (Bool × (List Int) × (List S4) × Unit) × (List Int) × (Bool × (List Int) × (List S4) × Unit) × (List S4) × Int × Int × Unit) ⊕ (Int × (List S5) × Unit))) :=
 let A307 := x.1
 let v308 := x.2.2.2.2.1
 let v309 := x.2.2.2.2.2.2.1
 let v310 := x.2.2.2.2.2.2.2.1
 let v311 := x.2.2.2.2.2.2.2.2.1
 let v312 := x.2.2.2.2.2.2.2.2.2.1
 let v313 := x.2.2.2.2.2.2.2.2.2.2.1
 bif (blt v313 v312) then (
  bif (inR v313 (x.2.2.2.1.2.1.length : Int)) then (
   bif (inR v313 (x.2.1.1.2.1.length : Int)) then (
    bif (bne (x.2.2.2.1.2.1.getD v313.toNat (0 : Int)) (x.2.1.1.2.1.getD v313.toNat (0 : Int))) then some (.inr (.inr ((12 : Int), ([] : List S5), ())))
    else some (.inl (A307, (x.2.1.1, ()), (x.2.2.1.1, ()), (x.2.2.2.1.1, x.2.2.2.1.2.1, x.2.2.2.1.2.2.1, ()), v308, (x.2.2.2.2.2.1.1, x.2.2.2.2.2.1.2.1, x.2.2.2.2.2.1.2.2.1, ()), v309, v310, v311, v312, (wr (v313 + (1 : Int))), ())))
   else none)
  else none)
 else some (.inr (.inl (A307, (x.2.1.1, ()), (x.2.2.1.1, ()), (x.2.2.2.1.1, x.2.2.2.1.2.1, x.2.2.2.1.2.2.1, ()), v308, (x.2.2.2.2.2.1.1, x.2.2.2.2.2.1.2.1, x.2.2.2.2.2.1.2.2.1, ()), v309, v310, v311, ())))
def sh131_356 : Sh := ⟨[2, 7, 10, 11, 12, 29, 322, 323, 324], [.val (.int .i64), .box 198 [.sc Y25] 0, .box 118 [.sc Y2] 0, .box 198 [.sc .bool, .own 3 (.int .i64), .own 278 Y24] 0, .own 3 (.int .i64), .box 198 [.sc .bool, .own 3 (.int .i64), .own 278 Y24] 0, .val (.row Y24), .val (.int .i64), .val (.int .i64)], []⟩
def outs131_356 : List (Ex × Sh) := [((.exit 12), ⟨[2, 7, 10, 11, 29], [.val (.int .i64), .box 198 [.sc Y25] 0, .box 118 [.sc Y2] 0, .box 198 [.sc .bool, .own 3 (.int .i64), .own 278 Y24] 0, .box 198 [.sc .bool, .own 3 (.int .i64), .own 278 Y24] 0], []⟩), (.ret, ⟨[8, 9], [.val (.int .i64), .own 229 Y32], []⟩)]
noncomputable def f131_356 (x : Int × (S6 × Unit) × (S2 × Unit) × (Bool × (List Int) × (List S4) × Unit) × (List Int) × (Bool × (List Int) × (List S4) × Unit) × (List S4) × Int × Int × Unit) : Option ((Int × (S6 × Unit) × (S2 × Unit) × (Bool × (List Int) × (List S4) × Unit) × (List Int) × (Bool × (List Int) × (List S4) × Unit) × (List S4) × Int × Int × Unit) ⊕ ((Int × (S6 × Unit) × (S2 × Unit) × (Bool × (List Int) × (List S4) × Unit) × (Bool × (List Int) × (List S4) × Unit) × Unit) ⊕ (Int × (List S5) × Unit))) :=
 let A280 := x.1
 let v281 := x.2.2.2.2.1
 let v282 := x.2.2.2.2.2.2.1
 let v283 := x.2.2.2.2.2.2.2.1
 let v284 := x.2.2.2.2.2.2.2.2.1
 bif (blt v284 v283) then (
  bif (inR v284 (v282.length : Int)) then (
   bif (!(v282.getD v284.toNat (false, (0 : Int), (0 : Int))).1) then (
    some (.inl (A280, (x.2.1.1, ()), (x.2.2.1.1, ()), (x.2.2.2.1.1, x.2.2.2.1.2.1, x.2.2.2.1.2.2.1, ()), v281, (x.2.2.2.2.2.1.1, x.2.2.2.2.2.1.2.1, x.2.2.2.2.2.1.2.2.1, ()), v282, v283, (wr (v284 + (1 : Int))), ())))
   else (
    (loopF f131_372 (A280, (x.2.1.1, ()), (x.2.2.1.1, ()), (x.2.2.2.1.1, x.2.2.2.1.2.1, x.2.2.2.1.2.2.1, ()), v281, (x.2.2.2.2.2.1.1, x.2.2.2.2.2.1.2.1, x.2.2.2.2.2.1.2.2.1, ()), ((v282.getD v284.toNat (false, (0 : Int), (0 : Int))), ()), v282, v283, v284, (v281.length : Int), (0 : Int), ())).bind fun y333 => match y333 with
     | .inl z301 => (
      (loopF f131_396 (z301.1, (z301.2.1.1, ()), (z301.2.2.1.1, ()), (z301.2.2.2.1.1, z301.2.2.2.1.2.1, z301.2.2.2.1.2.2.1, ()), z301.2.2.2.2.1, (z301.2.2.2.2.2.1.1, z301.2.2.2.2.2.1.2.1, z301.2.2.2.2.2.1.2.2.1, ()), z301.2.2.2.2.2.2.2.1, z301.2.2.2.2.2.2.2.2.1, z301.2.2.2.2.2.2.2.2.2.1, z301.2.2.2.2.2.2.1.1.2.1, (0 : Int), ())).bind fun y329 => match y329 with
       | .inl z319 => (
        some (.inl (z319.1, (z319.2.1.1, ()), (z319.2.2.1.1, ()), (z319.2.2.2.1.1, z319.2.2.2.1.2.1, z319.2.2.2.1.2.2.1, ()), z319.2.2.2.2.1, (z319.2.2.2.2.2.1.1, z319.2.2.2.2.2.1.2.1, z319.2.2.2.2.2.1.2.2.1, ()), z319.2.2.2.2.2.2.1, z319.2.2.2.2.2.2.2.1, (wr (z319.2.2.2.2.2.2.2.2.1 + (1 : Int))), ())))
       | .inr z326 => (
        some (.inr (.inr (z326.1, z326.2.1, ())))))
     | .inr z330 => (
      some (.inr (.inr (z330.1, z330.2.1, ()))))))
  else none)
 else some (.inr (.inl (A280, (x.2.1.1, ()), (x.2.2.1.1, ()), (x.2.2.2.1.1, x.2.2.2.1.2.1, x.2.2.2.1.2.2.1, ()), (x.2.2.2.2.2.1.1, x.2.2.2.2.2.1.2.1, x.2.2.2.2.2.1.2.2.1, ()), ())))
def sh131_437 : Sh := ⟨[2, 7, 10, 11, 29, 37, 365, 366], [.val (.int .i64), .box 198 [.sc Y25] 0, .box 118 [.sc Y2] 0, .box 198 [.sc .bool, .own 3 (.int .i64), .own 278 Y24] 0, .box 198 [.sc .bool, .own 3 (.int .i64), .own 278 Y24] 0, .val (.int .i64), .val (.int .i64), .val .bool], []⟩
def outs131_437 : List (Ex × Sh) := [(.normal, ⟨[2, 7, 10, 11, 29], [.val (.int .i64), .box 198 [.sc Y25] 0, .box 118 [.sc Y2] 0, .box 198 [.sc .bool, .own 3 (.int .i64), .own 278 Y24] 0, .box 198 [.sc .bool, .own 3 (.int .i64), .own 278 Y24] 0], []⟩)]
noncomputable def f131_437 (x : Int × (S6 × Unit) × (S2 × Unit) × (Bool × (List Int) × (List S4) × Unit) × (Bool × (List Int) × (List S4) × Unit) × Int × Int × Bool × Unit) : Option (Int × (S6 × Unit) × (S2 × Unit) × (Bool × (List Int) × (List S4) × Unit) × (Bool × (List Int) × (List S4) × Unit) × Unit) :=
 let A340 := x.1
 let v341 := x.2.2.2.2.2.1
 let v342 := x.2.2.2.2.2.2.1
 bif x.2.2.2.2.2.2.2.1 then (
  bif (inE v341 (x.2.2.2.1.2.2.1.length : Int)) then (
   some (A340, (x.2.1.1, ()), (x.2.2.1.1, ()), (x.2.2.2.1.1, x.2.2.2.1.2.1, (x.2.2.2.1.2.2.1.take v341.toNat), ()), (x.2.2.2.2.1.1, x.2.2.2.2.1.2.1, x.2.2.2.2.1.2.2.1, ()), ()))
  else none)
 else bif (beq v342 (34 : Int)) then (
  bif (inR v341 (x.2.2.2.1.2.2.1.length : Int)) then (
   some (A340, (x.2.1.1, ()), (x.2.2.1.1, ()), (x.2.2.2.1.1, x.2.2.2.1.2.1, (x.2.2.2.1.2.2.1.set v341.toNat ((x.2.2.2.1.2.2.1.getD v341.toNat (false, (0 : Int), (0 : Int))).1, x.2.2.1.1.2.1, (x.2.2.2.1.2.2.1.getD v341.toNat (false, (0 : Int), (0 : Int))).2.2)), ()), (x.2.2.2.2.1.1, x.2.2.2.2.1.2.1, x.2.2.2.2.1.2.2.1, ()), ()))
  else none)
 else bif (beq v342 (33 : Int)) then (
  let row348 := ([(false, x.2.2.1.1.2.1, (0 : Int))])
  bif (nle (x.2.2.2.1.2.2.1.length + row348.length) 5864062014805) then (
   some (A340, (x.2.1.1, ()), (x.2.2.1.1, ()), (x.2.2.2.1.1, x.2.2.2.1.2.1, (x.2.2.2.1.2.2.1 ++ row348), ()), (x.2.2.2.2.1.1, x.2.2.2.2.1.2.1, x.2.2.2.2.1.2.2.1, ()), ()))
  else none)
 else bif (beq v342 (31 : Int)) then (
  let row351 := ([(true, x.2.2.1.1.2.2.1, x.2.2.1.1.2.1)])
  bif (nle (x.2.2.2.1.2.2.1.length + row351.length) 5864062014805) then (
   some (A340, (x.2.1.1, ()), (x.2.2.1.1, ()), (x.2.2.2.1.1, x.2.2.2.1.2.1, (x.2.2.2.1.2.2.1 ++ row351), ()), (x.2.2.2.2.1.1, x.2.2.2.2.1.2.1, x.2.2.2.2.1.2.2.1, ()), ()))
  else none)
 else some (A340, (x.2.1.1, ()), (x.2.2.1.1, ()), (x.2.2.2.1.1, x.2.2.2.1.2.1, x.2.2.2.1.2.2.1, ()), (x.2.2.2.2.1.1, x.2.2.2.2.1.2.1, x.2.2.2.2.1.2.2.1, ()), ())
def sh131_473 : Sh := ⟨[2, 7, 10, 11, 29, 38, 417], [.val (.int .i64), .box 198 [.sc Y25] 0, .box 118 [.sc Y2] 0, .box 198 [.sc .bool, .own 3 (.int .i64), .own 278 Y24] 0, .box 198 [.sc .bool, .own 3 (.int .i64), .own 278 Y24] 0, .own 229 Y32, .val .bool], []⟩
def outs131_473 : List (Ex × Sh) := [(.normal, ⟨[7, 10, 11, 29, 38], [.box 198 [.sc Y25] 0, .box 118 [.sc Y2] 0, .box 198 [.sc .bool, .sc (.row (.int .i64)), .sc (.row Y24)] 0, .box 198 [.sc .bool, .own 3 (.int .i64), .own 278 Y24] 0, .own 229 Y32], []⟩)]
noncomputable def f131_473 (x : Int × (S6 × Unit) × (S2 × Unit) × (Bool × (List Int) × (List S4) × Unit) × (Bool × (List Int) × (List S4) × Unit) × (List S5) × Bool × Unit) : Option ((S6 × Unit) × (S2 × Unit) × (Bool × (List Int) × (List S4) × Unit) × (Bool × (List Int) × (List S4) × Unit) × (List S5) × Unit) :=
 let v359 := x.2.2.2.2.2.1
 bif x.2.2.2.2.2.2.1 then (
  let row362 := ([((wr (x.1 + (1 : Int))), x.2.2.2.1.1, x.2.2.2.1.2.1, x.2.2.2.1.2.2.1)])
  bif (nle (v359.length + row362.length) 2199023255552) then (
   some ((x.2.1.1, ()), (x.2.2.1.1, ()), (x.2.2.2.1.1, x.2.2.2.1.2.1, x.2.2.2.1.2.2.1, ()), (x.2.2.2.2.1.1, x.2.2.2.2.1.2.1, x.2.2.2.2.1.2.2.1, ()), (v359 ++ row362), ()))
  else none)
 else some ((x.2.1.1, ()), (x.2.2.1.1, ()), (x.2.2.2.1.1, x.2.2.2.1.2.1, x.2.2.2.1.2.2.1, ()), (x.2.2.2.2.1.1, x.2.2.2.2.1.2.1, x.2.2.2.2.1.2.2.1, ()), v359, ())
def sh131_528 : Sh := ⟨[10, 38, 39, 40], [.box 118 [.sc Y2] 0, .own 229 Y32, .box 198 [.sc .bool, .own 3 (.int .i64), .own 278 Y24] 0, .val (.int .i64)], []⟩
def outs131_528 : List (Ex × Sh) := [((.exit 20), ⟨[10, 38, 39], [.box 118 [.sc Y2] 0, .own 229 Y32, .box 198 [.sc .bool, .own 3 (.int .i64), .own 278 Y24] 0], []⟩)]
noncomputable def f131_528 (x : (S2 × Unit) × (List S5) × (Bool × (List Int) × (List S4) × Unit) × Int × Unit) : Option (((S2 × Unit) × (List S5) × (Bool × (List Int) × (List S4) × Unit) × Int × Unit) ⊕ ((S2 × Unit) × (List S5) × (Bool × (List Int) × (List S4) × Unit) × Unit)) :=
 let v378 := x.2.1
 let v379 := x.2.2.2.1
 bif (blt v379 (x.2.2.1.2.1.length : Int)) then (
  bif (inR v379 (x.2.2.1.2.1.length : Int)) then (
   some (.inl ((x.1.1, ()), v378, (x.2.2.1.1, (x.2.2.1.2.1.set v379.toNat (0 : Int)), x.2.2.1.2.2.1, ()), (wr (v379 + (1 : Int))), ())))
  else none)
 else some (.inr ((x.1.1, ()), v378, (x.2.2.1.1, x.2.2.1.2.1, x.2.2.1.2.2.1, ()), ()))
def ps131 : List VS := [.val Y5, .val Y4, .val (.int .i64), .val Y25]
def rs131 : List VS := [.val (.int .i64), .own 229 Y32]
noncomputable def f131 (x : S25 × S9 × Int × S6 × Unit) : Option ((Int × (List S5) × Unit) × (Unit)) :=
 let o2 := x.2.1
 let A3 := x.2.2.1
 let r4 := x.2.2.2.1
 bif (inR A3 (o2.2.2.2.2.2.2.2.1.length : Int)) then (
  (f132 (r4, ())).bind fun r5 =>
  let v6 := (o2.2.2.2.2.2.2.2.1.getD A3.toNat ((0 : Int), (0 : Int), (0 : Int), (0 : Int), (0 : Int))).1
  (loopF f131_20 (A3, (x.1, ()), (r4, ()), ((o2.2.2.2.2.2.2.2.1.getD A3.toNat ((0 : Int), (0 : Int), (0 : Int), (0 : Int), (0 : Int))), ()), (r5.1.1.1, r5.1.1.2.1, r5.1.1.2.2.1, ()), ([] : List Int), (((tlook tbl1 v6).getD 0 0), ((tlook tbl1 v6).getD 1 0), ((tlook tbl1 v6).getD 2 0), ((tlook tbl1 v6).getD 3 0)), (0 : Int), ())).bind fun y402 => match y402 with
   | .inl z189 => (
    (f131_221 (z189.1, (z189.2.1.1, ()), (z189.2.2.1.1, ()), (z189.2.2.2.1.1, z189.2.2.2.1.2.1, z189.2.2.2.1.2.2.1, ()), z189.2.2.2.2.1, (beq z189.2.2.1.1.1 (40 : Int)), ())).bind fun z198 =>
    let v201 := (z198.2.1.1.2.2.length : Int)
    (f131_237 (z198.1, (z198.2.1.1, ()), (z198.2.2.1.1, ()), (z198.2.2.2.1.1, z198.2.2.2.1.2.1, z198.2.2.2.1.2.2.1, ()), z198.2.2.2.2.1, ((false, (0 : Int), (0 : Int)), ()), v201, (blt (0 : Int) v201), ())).bind fun z208 =>
    (f131_257 (z208.1, (z208.2.1.1, ()), (z208.2.2.1.1, ()), (z208.2.2.2.1.1, z208.2.2.2.1.2.1, z208.2.2.2.1.2.2.1, ()), z208.2.2.2.2.1, (z208.2.2.2.2.2.1.1, ()), (blt (0 : Int) (z208.2.1.1.2.2.length : Int)), z208.2.2.1.1.1, (beq z208.2.2.1.1.1 (32 : Int)), ())).bind fun y398 => match y398 with
     | .inl z229 => (
      (f131_302 (z229.1, (z229.2.1.1, ()), (z229.2.2.1.1, ()), (z229.2.2.2.1.1, z229.2.2.2.1.2.1, z229.2.2.2.1.2.2.1, ()), z229.2.2.2.2.1, ())).bind fun z244 =>
      bif z244.2.2.2.2.2.1 then some (((11 : Int), ([] : List S5), ()), ())
      else (
       (f132 ((z244.2.2.2.1.1, z244.2.2.2.1.2.1, z244.2.2.2.1.2.2.1), ())).bind fun r248 =>
       (loopF f131_316 (z244.1, (z244.2.1.1, ()), (z244.2.2.1.1, ()), (z244.2.2.2.1.1, z244.2.2.2.1.2.1, z244.2.2.2.1.2.2.1, ()), z244.2.2.2.2.1, (r248.1.1.1, r248.1.1.2.1, r248.1.1.2.2.1, ()), (((tlook tbl1 z244.2.2.1.1.1).getD 0 0), ((tlook tbl1 z244.2.2.1.1.1).getD 1 0), ((tlook tbl1 z244.2.2.1.1.1).getD 2 0), ((tlook tbl1 z244.2.2.1.1.1).getD 3 0)), (0 : Int), ())).bind fun z267 =>
       (f131_349 (z267.1, (z267.2.1.1, ()), (z267.2.2.1.1, ()), (z267.2.2.2.1.1, z267.2.2.2.1.2.1, z267.2.2.2.1.2.2.1, ()), z267.2.2.2.2.1, (z267.2.2.2.2.2.1.1, z267.2.2.2.2.2.1.2.1, z267.2.2.2.2.2.1.2.2.1, ()), (beq z267.2.2.1.1.1 (40 : Int)), ())).bind fun z276 =>
       (loopF f131_356 (z276.1, (z276.2.1.1, ()), (z276.2.2.1.1, ()), (z276.2.2.2.1.1, z276.2.2.2.1.2.1, z276.2.2.2.1.2.2.1, ()), z276.2.2.2.2.1, (z276.2.2.2.2.2.1.1, z276.2.2.2.2.2.1.2.1, z276.2.2.2.2.2.1.2.2.1, ()), z276.2.1.1.2.2, (z276.2.1.1.2.2.length : Int), (0 : Int), ())).bind fun y394 => match y394 with
        | .inl z334 => (
         (f131_437 (z334.1, (z334.2.1.1, ()), (z334.2.2.1.1, ()), (z334.2.2.2.1.1, z334.2.2.2.1.2.1, z334.2.2.2.1.2.2.1, ()), (z334.2.2.2.2.1.1, z334.2.2.2.2.1.2.1, z334.2.2.2.2.1.2.2.1, ()), (wr ((z334.2.1.1.2.2.length : Int) - (1 : Int))), z334.2.2.1.1.1, ((beq z334.2.2.1.1.1 (32 : Int)) || (beq z334.2.2.1.1.1 (36 : Int))), ())).bind fun z353 =>
         (f131_473 (z353.1, (z353.2.1.1, ()), (z353.2.2.1.1, ()), (z353.2.2.2.1.1, z353.2.2.2.1.2.1, z353.2.2.2.1.2.2.1, ()), (z353.2.2.2.2.1.1, z353.2.2.2.2.1.2.1, z353.2.2.2.2.1.2.2.1, ()), ([] : List S5), (((bne z353.2.2.1.1.1 (19 : Int)) && (bne z353.2.2.1.1.1 (29 : Int))) && (bne z353.2.2.1.1.1 (30 : Int))), ())).bind fun z364 =>
         let v365 := z364.2.2.2.2.1
         bif (beq z364.2.1.1.1 (19 : Int)) then (
          let row367 := ([(z364.2.1.1.2.1, z364.2.2.1.1, z364.2.2.1.2.1, z364.2.2.1.2.2.1)])
          bif (nle (v365.length + row367.length) 2199023255552) then some (((0 : Int), (v365 ++ row367), ()), ())
          else none)
         else bif ((beq z364.2.1.1.1 (20 : Int)) || ((beq z364.2.1.1.1 (21 : Int)) || ((beq z364.2.1.1.1 (38 : Int)) || (beq z364.2.1.1.1 (39 : Int))))) then (
          let row371 := ([(z364.2.1.1.2.2.1, z364.2.2.1.1, z364.2.2.1.2.1, z364.2.2.1.2.2.1)])
          bif (nle (v365.length + row371.length) 2199023255552) then some (((0 : Int), (v365 ++ row371), ()), ())
          else none)
         else bif (beq z364.2.1.1.1 (41 : Int)) then (
          let row374 := ([(z364.2.1.1.2.2.1, z364.2.2.2.1.1, z364.2.2.2.1.2.1, z364.2.2.2.1.2.2.1)])
          bif (nle (v365.length + row374.length) 2199023255552) then some (((0 : Int), (v365 ++ row374), ()), ())
          else none)
         else bif (beq z364.2.1.1.1 (31 : Int)) then (
          (f132 (z364.1.1, ())).bind fun r377 =>
          (loopF f131_528 ((z364.2.1.1, ()), v365, (r377.1.1.1, r377.1.1.2.1, r377.1.1.2.2.1, ()), z364.2.1.1.2.2.1, ())).bind fun z384 =>
          let v385 := z384.2.1
          let v386 := (wr (z384.1.1.2.2.1 + (1 : Int)))
          bif (inR z384.1.1.2.2.1 (z384.2.2.1.2.1.length : Int)) then (
           let row387 := (z384.2.2.1.2.1.set z384.1.1.2.2.1.toNat (1 : Int))
           bif (inR v386 (row387.length : Int)) then (
            let row389 := ([(z384.1.1.2.1, z384.2.2.1.1, (row387.set v386.toNat (1 : Int)), z384.2.2.1.2.2.1)])
            bif (nle (v385.length + row389.length) 2199023255552) then some (((0 : Int), (v385 ++ row389), ()), ())
            else none)
           else none)
          else none)
         else some (((0 : Int), v365, ()), ()))
        | .inr z391 => (
         some ((z391.1, z391.2.1, ()), ()))))
     | .inr z395 => (
      some ((z395.1, z395.2.1, ()), ())))
   | .inr z399 => (
    some ((z399.1, z399.2.1, ()), ())))
 else none
/-! ### loop.example/loom/impl.sameState -/
def sh133_8 : Sh := ⟨[2, 3, 9, 10], [.box 198 [.sc Y25] 0, .box 198 [.sc Y25] 0, .val (.int .i64), .val (.int .i64)], []⟩
def outs133_8 : List (Ex × Sh) := [((.exit 0), ⟨[2, 3], [.box 198 [.sc Y25] 0, .box 198 [.sc Y25] 0], []⟩), (.ret, ⟨[4], [.val .bool], []⟩)]
noncomputable def f133_8 (x : (S6 × Unit) × (S6 × Unit) × Int × Int × Unit) : Option (((S6 × Unit) × (S6 × Unit) × Int × Int × Unit) ⊕ (((S6 × Unit) × (S6 × Unit) × Unit) ⊕ (Bool × Unit))) :=
 let v4 := x.2.2.1
 let v5 := x.2.2.2.1
 bif (blt v5 v4) then (
  bif (inR v5 (x.1.1.2.1.length : Int)) then (
   bif (inR v5 (x.2.1.1.2.1.length : Int)) then (
    bif (bne (x.1.1.2.1.getD v5.toNat (0 : Int)) (x.2.1.1.2.1.getD v5.toNat (0 : Int))) then some (.inr (.inr (false, ())))
    else some (.inl ((x.1.1, ()), (x.2.1.1, ()), v4, (wr (v5 + (1 : Int))), ())))
   else none)
  else none)
 else some (.inr (.inl ((x.1.1, ()), (x.2.1.1, ()), ())))
def sh133_40 : Sh := ⟨[2, 3, 34, 35], [.box 198 [.sc Y25] 0, .box 198 [.sc Y25] 0, .val (.int .i64), .val (.int .i64)], []⟩
def outs133_40 : List (Ex × Sh) := [((.exit 2), ⟨[], [], []⟩), (.ret, ⟨[4], [.val .bool], []⟩)]
noncomputable def f133_40 (x : (S6 × Unit) × (S6 × Unit) × Int × Int × Unit) : Option (((S6 × Unit) × (S6 × Unit) × Int × Int × Unit) ⊕ ((Unit) ⊕ (Bool × Unit))) :=
 let v16 := x.2.2.1
 let v17 := x.2.2.2.1
 bif (blt v17 v16) then (
  bif (inR v17 (x.1.1.2.2.length : Int)) then (
   bif (inR v17 (x.2.1.1.2.2.length : Int)) then (
    bif (!((beqB (x.1.1.2.2.getD v17.toNat (false, (0 : Int), (0 : Int))).1 (x.2.1.1.2.2.getD v17.toNat (false, (0 : Int), (0 : Int))).1) && ((beq (x.1.1.2.2.getD v17.toNat (false, (0 : Int), (0 : Int))).2.1 (x.2.1.1.2.2.getD v17.toNat (false, (0 : Int), (0 : Int))).2.1) && ((beq (x.1.1.2.2.getD v17.toNat (false, (0 : Int), (0 : Int))).2.2 (x.2.1.1.2.2.getD v17.toNat (false, (0 : Int), (0 : Int))).2.2) && true)))) then some (.inr (.inr (false, ())))
    else some (.inl ((x.1.1, ()), (x.2.1.1, ()), v16, (wr (v17 + (1 : Int))), ())))
   else none)
  else none)
 else some (.inr (.inl ()))
def ps133 : List VS := [.val Y25, .val Y25]
def rs133 : List VS := [.val .bool]
noncomputable def f133 (x : S6 × S6 × Unit) : Option ((Bool × Unit) × (Unit)) :=
 let a1 := x.1
 (loopF f133_8 ((a1, ()), (x.2.1, ()), (a1.2.1.length : Int), (0 : Int), ())).bind fun y27 => match y27 with
  | .inl z11 => (
   bif (bne (z11.1.1.2.2.length : Int) (z11.2.1.1.2.2.length : Int)) then some ((false, ()), ())
   else (
    (loopF f133_40 ((z11.1.1, ()), (z11.2.1.1, ()), (z11.1.1.2.2.length : Int), (0 : Int), ())).bind fun y24 => match y24 with
     | .inl _ => (
      some ((true, ()), ()))
     | .inr z22 => (
      some ((z22.1, ()), ()))))
  | .inr z25 => (
   some ((z25.1, ()), ()))
/-! ### loop.example/loom/impl.silent -/
def ps174 : List VS := [.val Y2, .val (.int .i64)]
def rs174 : List VS := [.own 3 (.int .i64)]
noncomputable def f174 (x : S2 × Int × Unit) : Option (((List Int) × Unit) × (Unit)) :=
 let n1 := x.1
 let at2 := x.2.1
 bif ((beq n1.1 (1 : Int)) || ((beq n1.1 (3 : Int)) || ((beq n1.1 (28 : Int)) || ((beq n1.1 (29 : Int)) || (beq n1.1 (30 : Int)))))) then some ((([] : List Int), ()), ())
 else bif (beq n1.1 (18 : Int)) then (
  bif (beq n1.2.2.1 (12 : Int)) then some ((([] : List Int), ()), ())
  else some ((([(wr (at2 + (1 : Int)))]), ()), ()))
 else bif (beq n1.1 (41 : Int)) then some ((([n1.2.2.1]), ()), ())
 else bif (beq n1.1 (19 : Int)) then some ((([n1.2.1]), ()), ())
 else bif (beq n1.1 (31 : Int)) then some ((([(wr (at2 + (1 : Int))), n1.2.1]), ()), ())
 else bif ((beq n1.1 (20 : Int)) || ((beq n1.1 (21 : Int)) || ((beq n1.1 (38 : Int)) || (beq n1.1 (39 : Int))))) then some ((([(wr (at2 + (1 : Int))), n1.2.2.1]), ()), ())
 else some ((([(wr (at2 + (1 : Int)))]), ()), ())
/-! ### loop.example/loom/impl.rings -/
def sh134_28 : Sh := ⟨[1, 2, 5, 6, 7, 11, 12], [.val (.row Y25), .box 71 [.sc Y4] 0, .val (.int .i64), .own 4 .bool, .own 3 (.int .i64), .val (.int .i64), .val (.int .i64)], []⟩
def outs134_28 : List (Ex × Sh) := [((.exit 2), ⟨[1, 2, 11, 12], [.val (.row Y25), .box 71 [.sc Y4] 0, .val (.int .i64), .val (.int .i64)], []⟩), (.ret, ⟨[4], [.val (.int .i64)], []⟩)]
noncomputable def f134_28 (x : (List S6) × (S9 × Unit) × Int × (List Bool) × (List Int) × Int × Int × Unit) : Option (((List S6) × (S9 × Unit) × Int × (List Bool) × (List Int) × Int × Int × Unit) ⊕ (((List S6) × (S9 × Unit) × Int × Int × Unit) ⊕ (Int × Unit))) :=
 let states14 := x.1
 let i15 := x.2.2.1
 let seen16 := x.2.2.2.1
 let todo17 := x.2.2.2.2.1
 let v18 := x.2.2.2.2.2.1
 let v19 := x.2.2.2.2.2.2.1
 bif (blt (0 : Int) (todo17.length : Int)) then (
  let v23 := (wr ((todo17.length : Int) - (1 : Int)))
  bif (inR v23 (todo17.length : Int)) then (
   let v24 := (todo17.getD v23.toNat (0 : Int))
   let v26 := (wr ((todo17.length : Int) - (1 : Int)))
   bif (inE v26 (todo17.length : Int)) then (
    let row27 := (todo17.take v26.toNat)
    bif (beq v24 i15) then some (.inr (.inr (i15, ())))
    else bif (inR v24 (seen16.length : Int)) then (
     bif (!(seen16.getD v24.toNat false)) then (
      bif (inR v24 (seen16.length : Int)) then (
       bif (inR v24 (x.2.1.1.2.2.2.2.2.2.2.1.length : Int)) then (
        (f174 ((x.2.1.1.2.2.2.2.2.2.2.1.getD v24.toNat ((0 : Int), (0 : Int), (0 : Int), (0 : Int), (0 : Int))), v24, ())).bind fun r32 =>
        bif (nle (row27.length + r32.1.1.length) 17592186044416) then (
         some (.inl (states14, (x.2.1.1, ()), i15, (seen16.set v24.toNat true), (row27 ++ r32.1.1), v18, v19, ())))
        else none)
       else none)
      else none)
     else some (.inl (states14, (x.2.1.1, ()), i15, seen16, row27, v18, v19, ())))
    else none)
   else none)
  else none)
 else some (.inr (.inl (states14, (x.2.1.1, ()), v18, v19, ())))
def sh134_8 : Sh := ⟨[1, 2, 11, 12], [.val (.row Y25), .box 71 [.sc Y4] 0, .val (.int .i64), .val (.int .i64)], []⟩
def outs134_8 : List (Ex × Sh) := [((.exit 0), ⟨[], [], []⟩), (.ret, ⟨[4], [.val (.int .i64)], []⟩)]
noncomputable def f134_8 (x : (List S6) × (S9 × Unit) × Int × Int × Unit) : Option (((List S6) × (S9 × Unit) × Int × Int × Unit) ⊕ ((Unit) ⊕ (Int × Unit))) :=
 let states4 := x.1
 let v5 := x.2.2.1
 let v6 := x.2.2.2.1
 bif (blt v6 v5) then (
  bif (inR v6 (states4.length : Int)) then (
   bif (!(states4.getD v6.toNat (false, ([] : List Int), ([] : List S4))).1) then (
    some (.inl (states4, (x.2.1.1, ()), v5, (wr (v6 + (1 : Int))), ())))
   else (
    let v11 := (x.2.1.1.2.2.2.2.2.2.2.1.length : Int)
    bif (inE v11 ((281474976710656 : Nat) : Int)) then (
     bif (inR v6 (x.2.1.1.2.2.2.2.2.2.2.1.length : Int)) then (
      (f174 ((x.2.1.1.2.2.2.2.2.2.2.1.getD v6.toNat ((0 : Int), (0 : Int), (0 : Int), (0 : Int), (0 : Int))), v6, ())).bind fun r13 =>
      (loopF f134_28 (states4, (x.2.1.1, ()), v6, (List.replicate v11.toNat false), r13.1.1, v5, v6, ())).bind fun y41 => match y41 with
       | .inl z34 => (
        some (.inl (z34.1, (z34.2.1.1, ()), z34.2.2.1, (wr (z34.2.2.2.1 + (1 : Int))), ())))
       | .inr z39 => (
        some (.inr (.inr (z39.1, ())))))
     else none)
    else none))
  else none)
 else some (.inr (.inl ()))
def ps134 : List VS := [.val Y4, .val (.row Y25)]
def rs134 : List VS := [.val (.int .i64)]
noncomputable def f134 (x : S9 × (List S6) × Unit) : Option ((Int × Unit) × (Unit)) :=
 let p1 := x.1
 (loopF f134_8 (x.2.1, (p1, ()), (p1.2.2.2.2.2.2.2.1.length : Int), (0 : Int), ())).bind fun y45 => match y45 with
  | .inl _ => (
   some (((-1 : Int), ()), ()))
  | .inr z43 => (
   some ((z43.1, ()), ()))
/-! ### loop.example/loom/impl.verify -/
def sh68_20 : Sh := ⟨[2, 7, 8, 9, 33, 34], [.box 32 [.sc Y5] 0, .box 71 [.sc Y4] 0, .own 198 Y25, .box 198 [.sc .bool, .own 3 (.int .i64), .own 278 Y24] 0, .val (.int .i64), .val (.int .i64)], []⟩
def outs68_20 : List (Ex × Sh) := [((.exit 0), ⟨[2, 7, 8, 9], [.box 32 [.sc Y5] 0, .box 71 [.sc Y4] 0, .own 198 Y25, .box 198 [.sc .bool, .own 3 (.int .i64), .own 278 Y24] 0], []⟩)]
noncomputable def f68_20 (x : (S25 × Unit) × (S9 × Unit) × (List S6) × (Bool × (List Int) × (List S4) × Unit) × Int × Int × Unit) : Option (((S25 × Unit) × (S9 × Unit) × (List S6) × (Bool × (List Int) × (List S4) × Unit) × Int × Int × Unit) ⊕ ((S25 × Unit) × (S9 × Unit) × (List S6) × (Bool × (List Int) × (List S4) × Unit) × Unit)) :=
 let v9 := x.2.2.1
 let v10 := x.2.2.2.2.1
 let v11 := x.2.2.2.2.2.1
 bif (blt v11 v10) then (
  bif (inR v11 (x.2.2.2.1.2.1.length : Int)) then (
   some (.inl ((x.1.1, ()), (x.2.1.1, ()), v9, (x.2.2.2.1.1, (x.2.2.2.1.2.1.set v11.toNat (1 : Int)), x.2.2.2.1.2.2.1, ()), v10, (wr (v11 + (1 : Int))), ())))
  else none)
 else some (.inr ((x.1.1, ()), (x.2.1.1, ()), v9, (x.2.2.2.1.1, x.2.2.2.1.2.1, x.2.2.2.1.2.2.1, ()), ()))
def sh68_96 : Sh := ⟨[2, 7, 8, 11, 15, 89, 90, 91], [.box 32 [.sc Y5] 0, .box 71 [.sc Y4] 0, .own 198 Y25, .own 4 .bool, .val (.int .i64), .own 229 Y32, .val (.int .i64), .val (.int .i64)], []⟩
def outs68_96 : List (Ex × Sh) := [((.exit 4), ⟨[2, 7, 8, 11, 15], [.box 32 [.sc Y5] 0, .box 71 [.sc Y4] 0, .own 198 Y25, .own 4 .bool, .val (.int .i64)], []⟩), (.ret, ⟨[4, 5, 6], [.own 198 Y25, .val (.int .i64), .val (.int .i64)], []⟩)]
noncomputable def f68_96 (x : (S25 × Unit) × (S9 × Unit) × (List S6) × (List Bool) × Int × (List S5) × Int × Int × Unit) : Option (((S25 × Unit) × (S9 × Unit) × (List S6) × (List Bool) × Int × (List S5) × Int × Int × Unit) ⊕ (((S25 × Unit) × (S9 × Unit) × (List S6) × (List Bool) × Int × Unit) ⊕ ((List S6) × Int × Int × Unit))) :=
 let v35 := x.2.2.1
 let v36 := x.2.2.2.1
 let v37 := x.2.2.2.2.1
 let v38 := x.2.2.2.2.2.1
 let v39 := x.2.2.2.2.2.2.1
 let v40 := x.2.2.2.2.2.2.2.1
 bif (blt v40 v39) then (
  bif (inR v40 (v38.length : Int)) then (
   let v42 := (v38.getD v40.toNat ((0 : Int), false, ([] : List Int), ([] : List S4))).1
   bif (inR v42 (v35.length : Int)) then (
    bif (!(v35.getD v42.toNat (false, ([] : List Int), ([] : List S4))).1) then (
     let v45 := (v38.getD v40.toNat ((0 : Int), false, ([] : List Int), ([] : List S4))).1
     (f132 ((v38.getD v40.toNat ((0 : Int), false, ([] : List Int), ([] : List S4))).2, ())).bind fun r46 =>
     bif (inR v45 (v35.length : Int)) then (
      let v48 := (v38.getD v40.toNat ((0 : Int), false, ([] : List Int), ([] : List S4))).1
      bif (inR v48 (v36.length : Int)) then (
       some (.inl ((x.1.1, ()), (x.2.1.1, ()), (v35.set v45.toNat (r46.1.1.1, r46.1.1.2.1, r46.1.1.2.2.1)), (v36.set v48.toNat true), (imin v37 (v38.getD v40.toNat ((0 : Int), false, ([] : List Int), ([] : List S4))).1), v38, v39, (wr (v40 + (1 : Int))), ())))
      else none)
     else none)
    else (
     let v53 := (v38.getD v40.toNat ((0 : Int), false, ([] : List Int), ([] : List S4))).1
     bif (inR v53 (v35.length : Int)) then (
      (f133 ((v35.getD v53.toNat (false, ([] : List Int), ([] : List S4))), (v38.getD v40.toNat ((0 : Int), false, ([] : List Int), ([] : List S4))).2, ())).bind fun r54 =>
      bif (!r54.1.1) then (
       some (.inr (.inr (([] : List S6), (13 : Int), (v38.getD v40.toNat ((0 : Int), false, ([] : List Int), ([] : List S4))).1, ()))))
      else some (.inl ((x.1.1, ()), (x.2.1.1, ()), v35, v36, v37, v38, v39, (wr (v40 + (1 : Int))), ())))
     else none))
   else none)
  else none)
 else some (.inr (.inl ((x.1.1, ()), (x.2.1.1, ()), v35, v36, v37, ())))
def sh68_60 : Sh := ⟨[2, 7, 8, 11, 12], [.box 32 [.sc Y5] 0, .box 71 [.sc Y4] 0, .own 198 Y25, .own 4 .bool, .val (.int .i64)], []⟩
def outs68_60 : List (Ex × Sh) := [((.exit 2), ⟨[7, 8], [.box 71 [.sc Y4] 0, .own 198 Y25], []⟩), (.ret, ⟨[4, 5, 6], [.own 198 Y25, .val (.int .i64), .val (.int .i64)], []⟩)]
noncomputable def f68_60 (x : (S25 × Unit) × (S9 × Unit) × (List S6) × (List Bool) × Int × Unit) : Option (((S25 × Unit) × (S9 × Unit) × (List S6) × (List Bool) × Int × Unit) ⊕ (((S9 × Unit) × (List S6) × Unit) ⊕ ((List S6) × Int × Int × Unit))) :=
 let v22 := x.2.2.1
 let v23 := x.2.2.2.1
 let v24 := x.2.2.2.2.1
 bif (blt v24 (v23.length : Int)) then (
  bif (inR v24 (v23.length : Int)) then (
   bif (!(v23.getD v24.toNat false)) then (
    some (.inl ((x.1.1, ()), (x.2.1.1, ()), v22, v23, (wr (v24 + (1 : Int))), ())))
   else bif (inR v24 (v23.length : Int)) then (
    bif (inR v24 (v22.length : Int)) then (
     (f131 (x.1.1, x.2.1.1, v24, (v22.getD v24.toNat (false, ([] : List Int), ([] : List S4))), ())).bind fun r31 =>
     bif (bne r31.1.1 (0 : Int)) then some (.inr (.inr (([] : List S6), r31.1.1, v24, ())))
     else (
      (loopF f68_96 ((x.1.1, ()), (x.2.1.1, ()), v22, (v23.set v24.toNat false), (wr (v24 + (1 : Int))), r31.1.2.1, (r31.1.2.1.length : Int), (0 : Int), ())).bind fun y66 => match y66 with
       | .inl z58 => (
        some (.inl ((z58.1.1, ()), (z58.2.1.1, ()), z58.2.2.1, z58.2.2.2.1, z58.2.2.2.2.1, ())))
       | .inr z62 => (
        some (.inr (.inr (z62.1, z62.2.1, z62.2.2.1, ()))))))
    else none)
   else none)
  else none)
 else some (.inr (.inl ((x.2.1.1, ()), v22, ())))
def ps68 : List VS := [.val Y5, .val (.int .i64)]
def rs68 : List VS := [.own 198 Y25, .val (.int .i64), .val (.int .i64)]
noncomputable def f68 (x : S25 × Int × Unit) : Option (((List S6) × Int × Int × Unit) × (Unit)) :=
 let t1 := x.1
 let o2 := x.2.1
 bif (inR o2 (t1.length : Int)) then (
  let v4 := ((t1.getD o2.toNat ((⟨#[]⟩ : ByteArray), (0 : Int), (0 : Int), false, (0 : Int), ([] : List S0), ([] : List S1), ([] : List S2), ([] : List S3))).2.2.2.2.2.2.2.1.length : Int)
  bif (inE v4 ((5026338869833 : Nat) : Int)) then (
   let v6 := (t1.getD o2.toNat ((⟨#[]⟩ : ByteArray), (0 : Int), (0 : Int), false, (0 : Int), ([] : List S0), ([] : List S1), ([] : List S2), ([] : List S3))).2.2.2.2.1
   bif (inE v6 ((35184372088832 : Nat) : Int)) then (
    (loopF f68_20 ((t1, ()), ((t1.getD o2.toNat ((⟨#[]⟩ : ByteArray), (0 : Int), (0 : Int), false, (0 : Int), ([] : List S0), ([] : List S1), ([] : List S2), ([] : List S3))), ()), (List.replicate v4.toNat (false, ([] : List Int), ([] : List S4))), (true, (List.replicate v6.toNat (0 : Int)), ([] : List S4), ()), (t1.getD o2.toNat ((⟨#[]⟩ : ByteArray), (0 : Int), (0 : Int), false, (0 : Int), ([] : List S0), ([] : List S1), ([] : List S2), ([] : List S3))).2.2.1, (0 : Int), ())).bind fun z15 =>
    let v16 := z15.2.2.1
    bif z15.2.1.1.2.2.2.1 then (
     bif (inR z15.2.1.1.2.2.1 (z15.2.2.2.1.2.1.length : Int)) then (
      bif (inR (0 : Int) (v16.length : Int)) then (
       let v19 := (z15.2.1.1.2.2.2.2.2.2.2.1.length : Int)
       bif (inE v19 ((281474976710656 : Nat) : Int)) then (
        let row20 := (List.replicate v19.toNat false)
        bif (inR (0 : Int) (row20.length : Int)) then (
         (loopF f68_60 ((z15.1.1, ()), (z15.2.1.1, ()), (v16.set (0 : Int).toNat (z15.2.2.2.1.1, (z15.2.2.2.1.2.1.set z15.2.1.1.2.2.1.toNat (3 : Int)), z15.2.2.2.1.2.2.1)), (row20.set (0 : Int).toNat true), (0 : Int), ())).bind fun y75 => match y75 with
          | .inl z67 => (
           let v68 := z67.2.1
           (f134 (z67.1.1, v68, ())).bind fun r69 =>
           bif (ble (0 : Int) r69.1.1) then some ((([] : List S6), (14 : Int), r69.1.1, ()), ())
           else some ((v68, (0 : Int), (0 : Int), ()), ()))
          | .inr z71 => (
           some ((z71.1, z71.2.1, z71.2.2.1, ()), ())))
        else none)
       else none)
      else none)
     else none)
    else bif (inR (0 : Int) (v16.length : Int)) then (
     let v77 := (z15.2.1.1.2.2.2.2.2.2.2.1.length : Int)
     bif (inE v77 ((281474976710656 : Nat) : Int)) then (
      let row78 := (List.replicate v77.toNat false)
      bif (inR (0 : Int) (row78.length : Int)) then (
       (loopF f68_60 ((z15.1.1, ()), (z15.2.1.1, ()), (v16.set (0 : Int).toNat (z15.2.2.2.1.1, z15.2.2.2.1.2.1, z15.2.2.2.1.2.2.1)), (row78.set (0 : Int).toNat true), (0 : Int), ())).bind fun y88 => match y88 with
        | .inl z80 => (
         let v81 := z80.2.1
         (f134 (z80.1.1, v81, ())).bind fun r82 =>
         bif (ble (0 : Int) r82.1.1) then some ((([] : List S6), (14 : Int), r82.1.1, ()), ())
         else some ((v81, (0 : Int), (0 : Int), ()), ()))
        | .inr z84 => (
         some ((z84.1, z84.2.1, z84.2.2.1, ()), ())))
      else none)
     else none)
    else none)
   else none)
  else none)
 else none
/-! ### loop.example/loom/impl.CheckCode -/
def sh27_20 : Sh := ⟨[1, 2, 16, 17], [.box 32 [.sc Y5] 0, .box 64 [.sc Y23] 0, .val (.int .i64), .val (.int .i64)], []⟩
def outs27_20 : List (Ex × Sh) := [((.exit 0), ⟨[2], [.box 64 [.sc Y23] 0], []⟩), (.ret, ⟨[2], [.box 64 [.sc Y23] 0], []⟩)]
noncomputable def f27_20 (x : (S25 × Unit) × (S26 × Unit) × Int × Int × Unit) : Option (((S25 × Unit) × (S26 × Unit) × Int × Int × Unit) ⊕ (((S26 × Unit) × Unit) ⊕ ((S26 × Unit) × Unit))) :=
 let v5 := x.2.2.1
 let v6 := x.2.2.2.1
 bif (blt v6 v5) then (
  (f68 (x.1.1, v6, ())).bind fun r8 =>
  bif (bne r8.1.2.1 (0 : Int)) then some (.inr (.inr (((r8.1.2.1, v6, r8.1.2.2.1), ()), ())))
  else some (.inl ((x.1.1, ()), (x.2.1.1, ()), v5, (wr (v6 + (1 : Int))), ())))
 else some (.inr (.inl ((x.2.1.1, ()), ())))
def ps27 : List VS := [.val Y5]
def rs27 : List VS := [.val Y23]
noncomputable def f27 (x : S25 × Unit) : Option ((S26 × Unit) × (Unit)) :=
 let c1 := x.1
 (f67 (c1, ())).bind fun r2 =>
 bif (!((beq r2.1.1.1 (0 : Int)) && ((beq r2.1.1.2.1 (0 : Int)) && ((beq r2.1.1.2.2 (0 : Int)) && true)))) then some ((r2.1.1, ()), ())
 else (
  (loopF f27_20 ((c1, ()), (((0 : Int), (0 : Int), (0 : Int)), ()), (c1.length : Int), (0 : Int), ())).bind fun y13 => match y13 with
   | .inl _ => (
    some ((((0 : Int), (0 : Int), (0 : Int)), ()), ()))
   | .inr z12 => (
    some ((z12.1.1, ()), ())))
/-! ### closure69 -/
def ps69 : List VS := [.val (.int .i64), .box 118 [.sc Y2] 0, .box 3 [.sc (.int .i64)] 0]
def rs69 : List VS := [.val .bool]
noncomputable def f69 (x : Int × (S2 × Unit) × (Int × Unit) × Unit) : Option ((Bool × Unit) × ((S2 × Unit) × (Int × Unit) × Unit)) :=
 let r1 := x.1
 some ((((bne r1 x.2.1.1.2.1) && (bne r1 x.2.2.1.1)), ()), (x.2.1.1, ()), (x.2.2.1.1, ()), ())
/-! ### loop.example/loom/impl.quick -/
def sh28_20 : Sh := ⟨[0, 1, 2, 3, 6, 7, 8, 9], [.val Y4, .val (.int .i64), .box 28 [.deep 74 Z1, .sc (.int .i64)] 1, .box 71 [.sc Y4] 0, .box 76 [.sc Y6] 0, .box 118 [.sc Y2] 0, .box 76 [.sc Y6] 0, .val (.int .i64)], []⟩
def outs28_20 : List (Ex × Sh) := [((.exit 0), ⟨[0, 1, 2, 3, 6, 7, 8, 9], [.val Y4, .val (.int .i64), .box 28 [.deep 74 Z1, .sc (.int .i64)] 1, .box 71 [.sc Y4] 0, .box 76 [.sc Y6] 0, .box 118 [.sc Y2] 0, .box 76 [.sc Y6] 0, .val (.int .i64)], []⟩)]
noncomputable def f28_20 (x : S9 × Int × ((List S8) × Int × Unit) × (S9 × Unit) × (S7 × Unit) × (S2 × Unit) × (S7 × Unit) × Int × Unit) : Option ((S9 × Int × ((List S8) × Int × Unit) × (S9 × Unit) × (S7 × Unit) × (S2 × Unit) × (S7 × Unit) × Int × Unit) ⊕ (S9 × Int × ((List S8) × Int × Unit) × (S9 × Unit) × (S7 × Unit) × (S2 × Unit) × (S7 × Unit) × Int × Unit)) :=
 let t13 := x.1
 let o14 := x.2.1
 let v15 := x.2.2.2.2.2.2.2.1
 bif (blt (wr (o14 + v15)) (x.2.2.2.1.1.2.2.2.2.2.2.2.1.length : Int)) then (
  let v19 := (wr (o14 + v15))
  bif (inR v19 (x.2.2.2.1.1.2.2.2.2.2.2.2.1.length : Int)) then (
   bif (beq (x.2.2.2.1.1.2.2.2.2.2.2.2.1.getD v19.toNat ((0 : Int), (0 : Int), (0 : Int), (0 : Int), (0 : Int))).1 (42 : Int)) then (
    let v22 := (wr (o14 + v15))
    bif (inR v22 (x.2.2.2.1.1.2.2.2.2.2.2.2.1.length : Int)) then (
     bif (beq (x.2.2.2.1.1.2.2.2.2.2.2.2.1.getD v22.toNat ((0 : Int), (0 : Int), (0 : Int), (0 : Int), (0 : Int))).2.1 (wr (x.2.2.2.2.2.1.1.2.1 + v15))) then (
      some (.inl (t13, o14, (x.2.2.1.1, x.2.2.1.2.1, ()), (x.2.2.2.1.1, ()), (x.2.2.2.2.1.1, ()), (x.2.2.2.2.2.1.1, ()), (x.2.2.2.2.2.2.1.1, ()), (wr (v15 + (1 : Int))), ())))
     else some (.inr (t13, o14, (x.2.2.1.1, x.2.2.1.2.1, ()), (x.2.2.2.1.1, ()), (x.2.2.2.2.1.1, ()), (x.2.2.2.2.2.1.1, ()), (x.2.2.2.2.2.2.1.1, ()), v15, ())))
    else none)
   else some (.inr (t13, o14, (x.2.2.1.1, x.2.2.1.2.1, ()), (x.2.2.2.1.1, ()), (x.2.2.2.2.1.1, ()), (x.2.2.2.2.2.1.1, ()), (x.2.2.2.2.2.2.1.1, ()), v15, ())))
  else none)
 else some (.inr (t13, o14, (x.2.2.1.1, x.2.2.1.2.1, ()), (x.2.2.2.1.1, ()), (x.2.2.2.2.1.1, ()), (x.2.2.2.2.2.1.1, ()), (x.2.2.2.2.2.2.1.1, ()), v15, ()))
def sh28_17 : Sh := ⟨[0, 1, 2, 3, 6, 7, 8, 32], [.val Y4, .val (.int .i64), .box 28 [.deep 74 Z1, .sc (.int .i64)] 1, .box 71 [.sc Y4] 0, .box 76 [.sc Y6] 0, .box 118 [.sc Y2] 0, .box 76 [.sc Y6] 0, .val .bool], []⟩
def outs28_17 : List (Ex × Sh) := [(.normal, ⟨[0, 1, 2, 3, 6, 7, 8], [.val Y4, .val (.int .i64), .box 28 [.deep 74 Z1, .sc (.int .i64)] 1, .box 71 [.sc Y4] 0, .box 76 [.sc Y6] 0, .box 118 [.sc Y2] 0, .box 76 [.sc Y6] 0], []⟩), (.ret, ⟨[0, 1, 2, 6], [.val Y4, .val (.int .i64), .box 28 [.deep 74 Z1, .sc (.int .i64)] 1, .box 76 [.sc Y6] 0], []⟩)]
noncomputable def f28_17 (x : S9 × Int × ((List S8) × Int × Unit) × (S9 × Unit) × (S7 × Unit) × (S2 × Unit) × (S7 × Unit) × Bool × Unit) : Option ((S9 × Int × ((List S8) × Int × Unit) × (S9 × Unit) × (S7 × Unit) × (S2 × Unit) × (S7 × Unit) × Unit) ⊕ (S9 × Int × ((List S8) × Int × Unit) × (S7 × Unit) × Unit)) :=
 let t10 := x.1
 let o11 := x.2.1
 bif x.2.2.2.2.2.2.2.1 then (
  (loopF f28_20 (t10, o11, (x.2.2.1.1, x.2.2.1.2.1, ()), (x.2.2.2.1.1, ()), (x.2.2.2.2.1.1, ()), (x.2.2.2.2.2.1.1, ()), (x.2.2.2.2.2.2.1.1, ()), (1 : Int), ())).bind fun z27 =>
  let t28 := z27.1
  let o29 := z27.2.1
  let v30 := z27.2.2.2.2.2.2.2.1
  bif (ble (2 : Int) v30) then (
   some (.inr (t28, o29, (z27.2.2.1.1, z27.2.2.1.2.1, ()), (((46 : Int), z27.2.2.2.2.2.1.1.2.1, v30, (0 : Int), (0 : Int), (0 : Int), (0 : Int)), ()), ())))
  else some (.inl (t28, o29, (z27.2.2.1.1, z27.2.2.1.2.1, ()), (z27.2.2.2.1.1, ()), (z27.2.2.2.2.1.1, ()), (z27.2.2.2.2.2.1.1, ()), (z27.2.2.2.2.2.2.1.1, ()), ())))
 else some (.inl (t10, o11, (x.2.2.1.1, x.2.2.1.2.1, ()), (x.2.2.2.1.1, ()), (x.2.2.2.2.1.1, ()), (x.2.2.2.2.2.1.1, ()), (x.2.2.2.2.2.2.1.1, ()), ()))
def sh28_97 : Sh := ⟨[0, 1, 2, 6, 7, 8, 10, 196], [.val Y4, .val (.int .i64), .box 28 [.deep 74 Z1, .sc (.int .i64)] 1, .box 76 [.sc Y6] 0, .box 118 [.sc Y2] 0, .box 76 [.sc Y6] 0, .box 118 [.sc Y2] 0, .val .bool], []⟩
def outs28_97 : List (Ex × Sh) := [(.normal, ⟨[0, 1, 2, 6, 8], [.val Y4, .val (.int .i64), .box 28 [.deep 74 Z1, .sc (.int .i64)] 1, .box 76 [.sc Y6] 0, .box 76 [.sc Y6] 0], []⟩), (.ret, ⟨[0, 1, 2, 6], [.val Y4, .val (.int .i64), .box 28 [.deep 74 Z1, .sc (.int .i64)] 1, .box 76 [.sc Y6] 0], []⟩)]
noncomputable def f28_97 (x : S9 × Int × ((List S8) × Int × Unit) × (S7 × Unit) × (S2 × Unit) × (S7 × Unit) × (S2 × Unit) × Bool × Unit) : Option ((S9 × Int × ((List S8) × Int × Unit) × (S7 × Unit) × (S7 × Unit) × Unit) ⊕ (S9 × Int × ((List S8) × Int × Unit) × (S7 × Unit) × Unit)) :=
 let t67 := x.1
 let o68 := x.2.1
 bif x.2.2.2.2.2.2.2.1 then (
  let v70 := (wr (x.2.2.1.2.1 + (1 : Int)))
  some (.inr (t67, o68, (x.2.2.1.1, v70, ()), (((45 : Int), x.2.2.2.2.2.2.1.1.2.1, x.2.2.2.2.2.2.1.1.2.2.1, x.2.2.2.2.1.1.2.2.1, (wr (v70 - (1 : Int))), (0 : Int), x.2.2.2.2.1.1.2.1), ()), ())))
 else some (.inl (t67, o68, (x.2.2.1.1, x.2.2.1.2.1, ()), (x.2.2.2.1.1, ()), (x.2.2.2.2.2.1.1, ()), ()))
def sh28_89 : Sh := ⟨[0, 1, 2, 3, 6, 7, 8, 10, 11, 164], [.val Y4, .val (.int .i64), .box 28 [.deep 74 Z1, .sc (.int .i64)] 1, .box 71 [.sc Y4] 0, .box 76 [.sc Y6] 0, .box 118 [.sc Y2] 0, .box 76 [.sc Y6] 0, .box 118 [.sc Y2] 0, .box 3 [.sc (.int .i64)] 0, .val .bool], [(12, .clo 69 [7, 11])]⟩
def outs28_89 : List (Ex × Sh) := [(.normal, ⟨[0, 1, 2, 6, 8], [.val Y4, .val (.int .i64), .box 28 [.deep 74 Z1, .sc (.int .i64)] 1, .box 76 [.sc Y6] 0, .box 76 [.sc Y6] 0], []⟩), (.ret, ⟨[0, 1, 2, 6], [.val Y4, .val (.int .i64), .box 28 [.deep 74 Z1, .sc (.int .i64)] 1, .box 76 [.sc Y6] 0], []⟩)]
noncomputable def f28_89 (x : S9 × Int × ((List S8) × Int × Unit) × (S9 × Unit) × (S7 × Unit) × (S2 × Unit) × (S7 × Unit) × (S2 × Unit) × (Int × Unit) × Bool × Unit) : Option ((S9 × Int × ((List S8) × Int × Unit) × (S7 × Unit) × (S7 × Unit) × Unit) ⊕ (S9 × Int × ((List S8) × Int × Unit) × (S7 × Unit) × Unit)) :=
 let t59 := x.1
 let o60 := x.2.1
 bif x.2.2.2.2.2.2.2.2.2.1 then (
  some (.inr (t59, o60, (x.2.2.1.1, x.2.2.1.2.1, ()), (((44 : Int), x.2.2.2.2.2.2.2.1.1.2.1, x.2.2.2.2.2.2.2.1.1.2.2.1, x.2.2.2.2.2.2.2.1.1.2.2.2.1, x.2.2.2.2.2.1.1.2.2.1, (0 : Int), x.2.2.2.2.2.1.1.2.1), ()), ())))
 else (
  (joinB (beq x.2.2.2.2.2.1.1.1 (4 : Int)) (bif (inR x.2.2.2.2.2.1.1.2.2.1 (x.2.2.2.1.1.2.2.2.2.2.2.1.length : Int)) then (some (beq (x.2.2.2.1.1.2.2.2.2.2.2.1.getD x.2.2.2.2.2.1.1.2.2.1.toNat ((0 : Int), (0 : Int), (0 : Nat), (⟨#[]⟩ : ByteArray), (0 : Int))).1 (4 : Int))) else none) (some false)).bind fun c63 =>
  bif ((c63 && (beq x.2.2.2.2.2.2.2.1.1.1 (15 : Int))) && (beq x.2.2.2.2.2.2.2.1.1.2.2.2.1 x.2.2.2.2.2.2.2.2.1.1)) then (
   (f69 (x.2.2.2.2.2.2.2.1.1.2.2.1, (x.2.2.2.2.2.1.1, ()), (x.2.2.2.2.2.2.2.2.1.1, ()), ())).bind fun r66 =>
   (f28_97 (t59, o60, (x.2.2.1.1, x.2.2.1.2.1, ()), (x.2.2.2.2.1.1, ()), (r66.2.1.1, ()), (x.2.2.2.2.2.2.1.1, ()), (x.2.2.2.2.2.2.2.1.1, ()), r66.1.1, ())).bind fun y78 => match y78 with
    | .inl z72 => (
     some (.inl (z72.1, z72.2.1, (z72.2.2.1.1, z72.2.2.1.2.1, ()), (z72.2.2.2.1.1, ()), (z72.2.2.2.2.1.1, ()), ())))
    | .inr z75 => (
     some (.inr (z75.1, z75.2.1, (z75.2.2.1.1, z75.2.2.1.2.1, ()), (z75.2.2.2.1.1, ()), ()))))
  else (
   (f28_97 (t59, o60, (x.2.2.1.1, x.2.2.1.2.1, ()), (x.2.2.2.2.1.1, ()), (x.2.2.2.2.2.1.1, ()), (x.2.2.2.2.2.2.1.1, ()), (x.2.2.2.2.2.2.2.1.1, ()), false, ())).bind fun y85 => match y85 with
    | .inl z79 => (
     some (.inl (z79.1, z79.2.1, (z79.2.2.1.1, z79.2.2.1.2.1, ()), (z79.2.2.2.1.1, ()), (z79.2.2.2.2.1.1, ()), ())))
    | .inr z82 => (
     some (.inr (z82.1, z82.2.1, (z82.2.2.1.1, z82.2.2.1.2.1, ()), (z82.2.2.2.1.1, ()), ())))))
def sh28_81 : Sh := ⟨[0, 1, 2, 3, 6, 7, 8, 10, 11, 132], [.val Y4, .val (.int .i64), .box 28 [.deep 74 Z1, .sc (.int .i64)] 1, .box 71 [.sc Y4] 0, .box 76 [.sc Y6] 0, .box 118 [.sc Y2] 0, .box 76 [.sc Y6] 0, .box 118 [.sc Y2] 0, .box 3 [.sc (.int .i64)] 0, .val .bool], [(12, .clo 69 [7, 11])]⟩
def outs28_81 : List (Ex × Sh) := [(.normal, ⟨[0, 1, 2, 6, 8], [.val Y4, .val (.int .i64), .box 28 [.deep 74 Z1, .sc (.int .i64)] 1, .box 76 [.sc Y6] 0, .box 76 [.sc Y6] 0], []⟩), (.ret, ⟨[0, 1, 2, 6], [.val Y4, .val (.int .i64), .box 28 [.deep 74 Z1, .sc (.int .i64)] 1, .box 76 [.sc Y6] 0], []⟩)]
noncomputable def f28_81 (x : S9 × Int × ((List S8) × Int × Unit) × (S9 × Unit) × (S7 × Unit) × (S2 × Unit) × (S7 × Unit) × (S2 × Unit) × (Int × Unit) × Bool × Unit) : Option ((S9 × Int × ((List S8) × Int × Unit) × (S7 × Unit) × (S7 × Unit) × Unit) ⊕ (S9 × Int × ((List S8) × Int × Unit) × (S7 × Unit) × Unit)) :=
 let t52 := x.1
 let o53 := x.2.1
 bif x.2.2.2.2.2.2.2.2.2.1 then (
  some (.inr (t52, o53, (x.2.2.1.1, x.2.2.1.2.1, ()), (((44 : Int), x.2.2.2.2.2.2.2.1.1.2.1, x.2.2.2.2.2.2.2.1.1.2.2.1, x.2.2.2.2.2.2.2.1.1.2.2.2.2, x.2.2.2.2.2.1.1.2.2.1, (1 : Int), x.2.2.2.2.2.1.1.2.1), ()), ())))
 else bif (((beq x.2.2.2.2.2.1.1.1 (4 : Int)) && (beq x.2.2.2.2.2.2.2.1.1.1 (18 : Int))) && (beq x.2.2.2.2.2.2.2.1.1.2.2.2.2 x.2.2.2.2.2.2.2.2.1.1)) then (
  (f69 (x.2.2.2.2.2.2.2.1.1.2.2.2.1, (x.2.2.2.2.2.1.1, ()), (x.2.2.2.2.2.2.2.2.1.1, ()), ())).bind fun r58 =>
  (f28_89 (t52, o53, (x.2.2.1.1, x.2.2.1.2.1, ()), (x.2.2.2.1.1, ()), (x.2.2.2.2.1.1, ()), (r58.2.1.1, ()), (x.2.2.2.2.2.2.1.1, ()), (x.2.2.2.2.2.2.2.1.1, ()), (r58.2.2.1.1, ()), r58.1.1, ())).bind fun y92 => match y92 with
   | .inl z86 => (
    some (.inl (z86.1, z86.2.1, (z86.2.2.1.1, z86.2.2.1.2.1, ()), (z86.2.2.2.1.1, ()), (z86.2.2.2.2.1.1, ()), ())))
   | .inr z89 => (
    some (.inr (z89.1, z89.2.1, (z89.2.2.1.1, z89.2.2.1.2.1, ()), (z89.2.2.2.1.1, ()), ()))))
 else (
  (f28_89 (t52, o53, (x.2.2.1.1, x.2.2.1.2.1, ()), (x.2.2.2.1.1, ()), (x.2.2.2.2.1.1, ()), (x.2.2.2.2.2.1.1, ()), (x.2.2.2.2.2.2.1.1, ()), (x.2.2.2.2.2.2.2.1.1, ()), (x.2.2.2.2.2.2.2.2.1.1, ()), false, ())).bind fun y99 => match y99 with
   | .inl z93 => (
    some (.inl (z93.1, z93.2.1, (z93.2.2.1.1, z93.2.2.1.2.1, ()), (z93.2.2.2.1.1, ()), (z93.2.2.2.2.1.1, ()), ())))
   | .inr z96 => (
    some (.inr (z96.1, z96.2.1, (z96.2.2.1.1, z96.2.2.1.2.1, ()), (z96.2.2.2.1.1, ()), ()))))
def sh28_61 : Sh := ⟨[0, 1, 2, 3, 6, 7, 8, 10, 11, 91], [.val Y4, .val (.int .i64), .box 28 [.deep 74 Z1, .sc (.int .i64)] 1, .box 71 [.sc Y4] 0, .box 76 [.sc Y6] 0, .box 118 [.sc Y2] 0, .box 76 [.sc Y6] 0, .box 118 [.sc Y2] 0, .box 3 [.sc (.int .i64)] 0, .val .bool], [(12, .clo 69 [7, 11])]⟩
def outs28_61 : List (Ex × Sh) := [(.normal, ⟨[0, 1, 2, 6, 8], [.val Y4, .val (.int .i64), .box 28 [.deep 74 Z1, .sc (.int .i64)] 1, .box 76 [.sc Y6] 0, .box 76 [.sc Y6] 0], []⟩), (.ret, ⟨[0, 1, 2, 6], [.val Y4, .val (.int .i64), .box 28 [.deep 74 Z1, .sc (.int .i64)] 1, .box 76 [.sc Y6] 0], []⟩)]
noncomputable def f28_61 (x : S9 × Int × ((List S8) × Int × Unit) × (S9 × Unit) × (S7 × Unit) × (S2 × Unit) × (S7 × Unit) × (S2 × Unit) × (Int × Unit) × Bool × Unit) : Option ((S9 × Int × ((List S8) × Int × Unit) × (S7 × Unit) × (S7 × Unit) × Unit) ⊕ (S9 × Int × ((List S8) × Int × Unit) × (S7 × Unit) × Unit)) :=
 let t44 := x.1
 let o45 := x.2.1
 bif x.2.2.2.2.2.2.2.2.2.1 then (
  bif (beq x.2.2.2.2.2.2.2.1.1.1 (20 : Int)) then (
   some (.inr (t44, o45, (x.2.2.1.1, x.2.2.1.2.1, ()), (((43 : Int), x.2.2.2.2.2.1.1.2.1, x.2.2.2.2.2.1.1.2.2.1, x.2.2.2.2.2.1.1.2.2.2.1, x.2.2.2.2.2.1.1.2.2.2.2, x.2.2.2.2.2.2.2.1.1.2.2.1, (1 : Int)), ()), ())))
  else some (.inr (t44, o45, (x.2.2.1.1, x.2.2.1.2.1, ()), (((43 : Int), x.2.2.2.2.2.1.1.2.1, x.2.2.2.2.2.1.1.2.2.1, x.2.2.2.2.2.1.1.2.2.2.1, x.2.2.2.2.2.1.1.2.2.2.2, x.2.2.2.2.2.2.2.1.1.2.2.1, (0 : Int)), ()), ())))
 else bif (((beq x.2.2.2.2.2.1.1.1 (4 : Int)) && (beq x.2.2.2.2.2.2.2.1.1.1 (18 : Int))) && (beq x.2.2.2.2.2.2.2.1.1.2.2.2.1 x.2.2.2.2.2.2.2.2.1.1)) then (
  (f69 (x.2.2.2.2.2.2.2.1.1.2.2.2.2, (x.2.2.2.2.2.1.1, ()), (x.2.2.2.2.2.2.2.2.1.1, ()), ())).bind fun r51 =>
  (f28_81 (t44, o45, (x.2.2.1.1, x.2.2.1.2.1, ()), (x.2.2.2.1.1, ()), (x.2.2.2.2.1.1, ()), (r51.2.1.1, ()), (x.2.2.2.2.2.2.1.1, ()), (x.2.2.2.2.2.2.2.1.1, ()), (r51.2.2.1.1, ()), r51.1.1, ())).bind fun y106 => match y106 with
   | .inl z100 => (
    some (.inl (z100.1, z100.2.1, (z100.2.2.1.1, z100.2.2.1.2.1, ()), (z100.2.2.2.1.1, ()), (z100.2.2.2.2.1.1, ()), ())))
   | .inr z103 => (
    some (.inr (z103.1, z103.2.1, (z103.2.2.1.1, z103.2.2.1.2.1, ()), (z103.2.2.2.1.1, ()), ()))))
 else (
  (f28_81 (t44, o45, (x.2.2.1.1, x.2.2.1.2.1, ()), (x.2.2.2.1.1, ()), (x.2.2.2.2.1.1, ()), (x.2.2.2.2.2.1.1, ()), (x.2.2.2.2.2.2.1.1, ()), (x.2.2.2.2.2.2.2.1.1, ()), (x.2.2.2.2.2.2.2.2.1.1, ()), false, ())).bind fun y113 => match y113 with
   | .inl z107 => (
    some (.inl (z107.1, z107.2.1, (z107.2.2.1.1, z107.2.2.1.2.1, ()), (z107.2.2.2.1.1, ()), (z107.2.2.2.2.1.1, ()), ())))
   | .inr z110 => (
    some (.inr (z110.1, z110.2.1, (z110.2.2.1.1, z110.2.2.1.2.1, ()), (z110.2.2.2.1.1, ()), ()))))
def ps28 : List VS := [.val Y4, .val (.int .i64), .box 28 [.deep 74 Z1, .sc (.int .i64)] 1]
def rs28 : List VS := [.val Y6]
noncomputable def f28 (x : S9 × Int × ((List S8) × Int × Unit) × Unit) : Option ((S7 × Unit) × (((List S8) × Int × Unit) × Unit)) :=
 let t1 := x.1
 let o2 := x.2.1
 bif (inR o2 (t1.2.2.2.2.2.2.2.1.length : Int)) then (
  (f28_17 (t1, o2, (x.2.2.1.1, x.2.2.1.2.1, ()), (t1, ()), (((0 : Int), (0 : Int), (0 : Int), (0 : Int), (0 : Int), (0 : Int), (0 : Int)), ()), ((t1.2.2.2.2.2.2.2.1.getD o2.toNat ((0 : Int), (0 : Int), (0 : Int), (0 : Int), (0 : Int))), ()), (((t1.2.2.2.2.2.2.2.1.getD o2.toNat ((0 : Int), (0 : Int), (0 : Int), (0 : Int), (0 : Int))).1, (t1.2.2.2.2.2.2.2.1.getD o2.toNat ((0 : Int), (0 : Int), (0 : Int), (0 : Int), (0 : Int))).2.1, (t1.2.2.2.2.2.2.2.1.getD o2.toNat ((0 : Int), (0 : Int), (0 : Int), (0 : Int), (0 : Int))).2.2.1, (t1.2.2.2.2.2.2.2.1.getD o2.toNat ((0 : Int), (0 : Int), (0 : Int), (0 : Int), (0 : Int))).2.2.2.1, (t1.2.2.2.2.2.2.2.1.getD o2.toNat ((0 : Int), (0 : Int), (0 : Int), (0 : Int), (0 : Int))).2.2.2.2, (0 : Int), (0 : Int)), ()), (beq (t1.2.2.2.2.2.2.2.1.getD o2.toNat ((0 : Int), (0 : Int), (0 : Int), (0 : Int), (0 : Int))).1 (42 : Int)), ())).bind fun y124 => match y124 with
   | .inl z32 => (
    let o34 := z32.2.1
    bif (ble (z32.2.2.2.1.1.2.2.2.2.2.2.2.1.length : Int) (wr (o34 + (1 : Int)))) then (
     some ((z32.2.2.2.2.2.2.1.1, ()), (z32.2.2.1.1, z32.2.2.1.2.1, ()), ()))
    else (
     let v38 := (wr (o34 + (1 : Int)))
     bif (inR v38 (z32.2.2.2.1.1.2.2.2.2.2.2.2.1.length : Int)) then (
      let v39 := (wr ((-1 : Int) - z32.2.2.2.2.2.1.1.2.1))
      (f28_61 (z32.1, o34, (z32.2.2.1.1, z32.2.2.1.2.1, ()), (z32.2.2.2.1.1, ()), (z32.2.2.2.2.1.1, ()), (z32.2.2.2.2.2.1.1, ()), (z32.2.2.2.2.2.2.1.1, ()), ((z32.2.2.2.1.1.2.2.2.2.2.2.2.1.getD v38.toNat ((0 : Int), (0 : Int), (0 : Int), (0 : Int), (0 : Int))), ()), (v39, ()), ((((beq z32.2.2.2.2.2.1.1.1 (18 : Int)) && (ble (13 : Int) z32.2.2.2.2.2.1.1.2.2.1)) && ((beq (z32.2.2.2.1.1.2.2.2.2.2.2.2.1.getD v38.toNat ((0 : Int), (0 : Int), (0 : Int), (0 : Int), (0 : Int))).1 (20 : Int)) || (beq (z32.2.2.2.1.1.2.2.2.2.2.2.2.1.getD v38.toNat ((0 : Int), (0 : Int), (0 : Int), (0 : Int), (0 : Int))).1 (21 : Int)))) && (beq (z32.2.2.2.1.1.2.2.2.2.2.2.2.1.getD v38.toNat ((0 : Int), (0 : Int), (0 : Int), (0 : Int), (0 : Int))).2.1 v39)), ())).bind fun y120 => match y120 with
       | .inl z114 => (
        some ((z114.2.2.2.2.1.1, ()), (z114.2.2.1.1, z114.2.2.1.2.1, ()), ()))
       | .inr z117 => (
        some ((z117.2.2.2.1.1, ()), (z117.2.2.1.1, z117.2.2.1.2.1, ()), ())))
     else none))
   | .inr z121 => (
    some ((z121.2.2.2.1.1, ()), (z121.2.2.1.1, z121.2.2.1.2.1, ()), ())))
 else none
/-! ### loop.example/loom/impl.Prepare -/
def sh8_36 : Sh := ⟨[2, 3, 5, 6, 14, 15, 16, 22, 23], [.box 28 [.deep 74 Z1, .sc (.int .i64)] 0, .box 28 [.deep 74 Z1, .sc (.int .i64)] 0, .box 71 [.sc Y4] 0, .box 74 [.own 76 Y6] 0, .val (.row Y4), .val (.int .i64), .val (.int .i64), .val (.int .i64), .val (.int .i64)], []⟩
def outs8_36 : List (Ex × Sh) := [((.exit 2), ⟨[2, 3, 6, 14, 15, 16], [.box 28 [.deep 74 Z1, .sc (.int .i64)] 0, .box 28 [.deep 74 Z1, .sc (.int .i64)] 0, .box 74 [.own 76 Y6] 0, .val (.row Y4), .val (.int .i64), .val (.int .i64)], []⟩)]
noncomputable def f8_36 (x : ((List S8) × Int × Unit) × ((List S8) × Int × Unit) × (S9 × Unit) × ((List S7) × Unit) × (List S9) × Int × Int × Int × Int × Unit) : Option ((((List S8) × Int × Unit) × ((List S8) × Int × Unit) × (S9 × Unit) × ((List S7) × Unit) × (List S9) × Int × Int × Int × Int × Unit) ⊕ (((List S8) × Int × Unit) × ((List S8) × Int × Unit) × ((List S7) × Unit) × (List S9) × Int × Int × Unit)) :=
 let v11 := x.2.2.2.2.1
 let v12 := x.2.2.2.2.2.1
 let v13 := x.2.2.2.2.2.2.1
 let v14 := x.2.2.2.2.2.2.2.1
 let v15 := x.2.2.2.2.2.2.2.2.1
 bif (blt v15 v14) then (
  (f28 (x.2.2.1.1, v15, (x.2.1.1, x.2.1.2.1, ()), ())).bind fun r17 =>
  bif (nle (x.2.2.2.1.1.length + ([r17.1.1]).length) 2513169434916) then (
   some (.inl ((x.1.1, x.1.2.1, ()), (r17.2.1.1, r17.2.1.2.1, ()), (x.2.2.1.1, ()), ((x.2.2.2.1.1 ++ ([r17.1.1])), ()), v11, v12, v13, v14, (wr (v15 + (1 : Int))), ())))
  else none)
 else some (.inr ((x.1.1, x.1.2.1, ()), (x.2.1.1, x.2.1.2.1, ()), (x.2.2.2.1.1, ()), v11, v12, v13, ()))
def sh8_20 : Sh := ⟨[2, 3, 14, 15, 16], [.box 28 [.deep 74 Z1, .sc (.int .i64)] 0, .box 28 [.deep 74 Z1, .sc (.int .i64)] 0, .val (.row Y4), .val (.int .i64), .val (.int .i64)], []⟩
def outs8_20 : List (Ex × Sh) := [((.exit 0), ⟨[2, 3], [.box 28 [.deep 74 Z1, .sc (.int .i64)] 0, .box 28 [.deep 74 Z1, .sc (.int .i64)] 0], []⟩)]
noncomputable def f8_20 (x : ((List S8) × Int × Unit) × ((List S8) × Int × Unit) × (List S9) × Int × Int × Unit) : Option ((((List S8) × Int × Unit) × ((List S8) × Int × Unit) × (List S9) × Int × Int × Unit) ⊕ (((List S8) × Int × Unit) × ((List S8) × Int × Unit) × Unit)) :=
 let v5 := x.2.2.1
 let v6 := x.2.2.2.1
 let v7 := x.2.2.2.2.1
 bif (blt v7 v6) then (
  bif (inR v7 (v5.length : Int)) then (
   (loopF f8_36 ((x.1.1, x.1.2.1, ()), (x.2.1.1, x.2.1.2.1, ()), ((v5.getD v7.toNat ((⟨#[]⟩ : ByteArray), (0 : Int), (0 : Int), false, (0 : Int), ([] : List S0), ([] : List S1), ([] : List S2), ([] : List S3))), ()), (([] : List S7), ()), v5, v6, v7, ((v5.getD v7.toNat ((⟨#[]⟩ : ByteArray), (0 : Int), (0 : Int), false, (0 : Int), ([] : List S0), ([] : List S1), ([] : List S2), ([] : List S3))).2.2.2.2.2.2.2.1.length : Int), (0 : Int), ())).bind fun z21 =>
   let row25 := ([z21.2.2.1.1])
   bif (nle (z21.2.1.1.length + row25.length) 5864062014805) then (
    some (.inl ((z21.1.1, z21.1.2.1, ()), ((z21.2.1.1 ++ row25), z21.2.1.2.1, ()), z21.2.2.2.1, z21.2.2.2.2.1, (wr (z21.2.2.2.2.2.1 + (1 : Int))), ())))
   else none)
  else none)
 else some (.inr ((x.1.1, x.1.2.1, ()), (x.2.1.1, x.2.1.2.1, ()), ()))
def ps8 : List VS := [.val Y5]
def rs8 : List VS := [.rc [.deep 74 Z1, .sc (.int .i64)]]
noncomputable def f8 (x : S25 × Unit) : Option ((((List S8) × Int × Unit) × Unit) × (Unit)) :=
 let c1 := x.1
 (f27 (c1, ())).bind fun r2 =>
 bif (!((beq r2.1.1.1 (0 : Int)) && ((beq r2.1.1.2.1 (0 : Int)) && ((beq r2.1.1.2.2 (0 : Int)) && true)))) then some (((([] : List S8), (0 : Int), ()), ()), ())
 else (
  (loopF f8_20 ((([] : List S8), (0 : Int), ()), (([] : List S8), (0 : Int), ()), c1, (c1.length : Int), (0 : Int), ())).bind fun z28 =>
  some (((z28.2.1.1, z28.2.1.2.1, ()), ()), ()))
/-! ### loop.example/loom/laws.eqQIns -/
def ps175 : List VS := [.val Y6, .val Y6]
def rs175 : List VS := [.val .bool]
noncomputable def f175 (x : S7 × S7 × Unit) : Option ((Bool × Unit) × (Unit)) :=
 let a1 := x.1
 let b2 := x.2.1
 bif (bne a1.1 b2.1) then some ((false, ()), ())
 else bif (bne a1.2.1 b2.2.1) then some ((false, ()), ())
 else bif (bne a1.2.2.1 b2.2.2.1) then some ((false, ()), ())
 else bif (bne a1.2.2.2.1 b2.2.2.2.1) then some ((false, ()), ())
 else bif (bne a1.2.2.2.2.1 b2.2.2.2.2.1) then some ((false, ()), ())
 else bif (bne a1.2.2.2.2.2.1 b2.2.2.2.2.2.1) then some ((false, ()), ())
 else bif (bne a1.2.2.2.2.2.2 b2.2.2.2.2.2.2) then some ((false, ()), ())
 else some ((true, ()), ())
/-! ### loop.example/loom/laws.eqQInsS -/
def sh135_16 : Sh := ⟨[0, 1, 5], [.val (.row Y6), .val (.row Y6), .val (.int .i64)], []⟩
def outs135_16 : List (Ex × Sh) := [((.exit 0), ⟨[], [], []⟩), (.ret, ⟨[4], [.val .bool], []⟩)]
noncomputable def f135_16 (x : (List S7) × (List S7) × Int × Unit) : Option (((List S7) × (List S7) × Int × Unit) ⊕ ((Unit) ⊕ (Bool × Unit))) :=
 let a6 := x.1
 let b7 := x.2.1
 let i8 := x.2.2.1
 bif (blt i8 (a6.length : Int)) then (
  bif (inR i8 (a6.length : Int)) then (
   bif (inR i8 (b7.length : Int)) then (
    (f175 ((a6.getD i8.toNat ((0 : Int), (0 : Int), (0 : Int), (0 : Int), (0 : Int), (0 : Int), (0 : Int))), (b7.getD i8.toNat ((0 : Int), (0 : Int), (0 : Int), (0 : Int), (0 : Int), (0 : Int), (0 : Int))), ())).bind fun r11 =>
    bif (!r11.1.1) then some (.inr (.inr (false, ())))
    else some (.inl (a6, b7, (wr (i8 + (1 : Int))), ())))
   else none)
  else none)
 else some (.inr (.inl ()))
def ps135 : List VS := [.val (.row Y6), .val (.row Y6)]
def rs135 : List VS := [.val .bool]
noncomputable def f135 (x : (List S7) × (List S7) × Unit) : Option ((Bool × Unit) × (Unit)) :=
 let a1 := x.1
 let b2 := x.2.1
 bif (bne (a1.length : Int) (b2.length : Int)) then some ((false, ()), ())
 else (
  (loopF f135_16 (a1, b2, (0 : Int), ())).bind fun y17 => match y17 with
   | .inl _ => (
    some ((true, ()), ()))
   | .inr z15 => (
    some ((z15.1, ()), ())))
/-! ### loop.example/loom/laws.eqQProto -/
def ps70 : List VS := [.val Y7, .val Y7]
def rs70 : List VS := [.val .bool]
noncomputable def f70 (x : S8 × S8 × Unit) : Option ((Bool × Unit) × (Unit)) :=
 (f135 (x.1, x.2.1, ())).bind fun r3 =>
 bif (!r3.1.1) then some ((false, ()), ())
 else some ((true, ()), ())
/-! ### loop.example/loom/laws.eqQProtoS -/
def sh29_16 : Sh := ⟨[0, 1, 5], [.val (.row Y7), .val (.row Y7), .val (.int .i64)], []⟩
def outs29_16 : List (Ex × Sh) := [((.exit 0), ⟨[], [], []⟩), (.ret, ⟨[4], [.val .bool], []⟩)]
noncomputable def f29_16 (x : (List S8) × (List S8) × Int × Unit) : Option (((List S8) × (List S8) × Int × Unit) ⊕ ((Unit) ⊕ (Bool × Unit))) :=
 let a6 := x.1
 let b7 := x.2.1
 let i8 := x.2.2.1
 bif (blt i8 (a6.length : Int)) then (
  bif (inR i8 (a6.length : Int)) then (
   bif (inR i8 (b7.length : Int)) then (
    (f70 ((a6.getD i8.toNat ([] : List S7)), (b7.getD i8.toNat ([] : List S7)), ())).bind fun r11 =>
    bif (!r11.1.1) then some (.inr (.inr (false, ())))
    else some (.inl (a6, b7, (wr (i8 + (1 : Int))), ())))
   else none)
  else none)
 else some (.inr (.inl ()))
def ps29 : List VS := [.val (.row Y7), .val (.row Y7)]
def rs29 : List VS := [.val .bool]
noncomputable def f29 (x : (List S8) × (List S8) × Unit) : Option ((Bool × Unit) × (Unit)) :=
 let a1 := x.1
 let b2 := x.2.1
 bif (bne (a1.length : Int) (b2.length : Int)) then some ((false, ()), ())
 else (
  (loopF f29_16 (a1, b2, (0 : Int), ())).bind fun y17 => match y17 with
   | .inl _ => (
    some ((true, ()), ()))
   | .inr z15 => (
    some ((z15.1, ()), ())))
/-! ### loop.example/loom/laws.eqQuick -/
def ps9 : List VS := [.val Y8, .val Y8]
def rs9 : List VS := [.val .bool]
noncomputable def f9 (x : S27 × S27 × Unit) : Option ((Bool × Unit) × (Unit)) :=
 let a1 := x.1
 let b2 := x.2.1
 (f29 (a1.1, b2.1, ())).bind fun r3 =>
 bif (!r3.1.1) then some ((false, ()), ())
 else bif (bne a1.2 b2.2) then some ((false, ()), ())
 else some ((true, ()), ())
/-! ### loop.example/loom/laws.sameFloat -/
def ps145 : List VS := [.val .flt, .val .flt]
def rs145 : List VS := [.val .bool]
noncomputable def f145 (x : Nat × Nat × Unit) : Option ((Bool × Unit) × (Unit)) :=
 let a1 := x.1
 let b2 := x.2.1
 bif ((fOrd a1 a1 != some .eq) || (fOrd b2 b2 != some .eq)) then (
  some ((((fOrd a1 a1 != some .eq) && (fOrd b2 b2 != some .eq)), ()), ()))
 else bif ((fOrd a1 (0 : Nat) == some .eq) && (fOrd b2 (0 : Nat) == some .eq)) then (
  (FloatKind.f64.format.div (4607182418800017408 : Nat) a1).bind fun v9 =>
  (FloatKind.f64.format.div (4607182418800017408 : Nat) b2).bind fun v11 =>
  some (((beqB (fOrd v9 (0 : Nat) == some .gt) (fOrd v11 (0 : Nat) == some .gt)), ()), ()))
 else some (((fOrd a1 b2 == some .eq), ()), ())
/-! ### loop.example/loom/laws.eqValue -/
def ps95 : List VS := [.val Y1, .val Y1]
def rs95 : List VS := [.val .bool]
noncomputable def f95 (x : S1 × S1 × Unit) : Option ((Bool × Unit) × (Unit)) :=
 let a1 := x.1
 let b2 := x.2.1
 bif (bne a1.1 b2.1) then some ((false, ()), ())
 else bif (bne a1.2.1 b2.2.1) then some ((false, ()), ())
 else (
  (f145 (a1.2.2.1, b2.2.2.1, ())).bind fun r5 =>
  bif (!r5.1.1) then some ((false, ()), ())
  else bif (!(beqS a1.2.2.2.1 b2.2.2.2.1)) then some ((false, ()), ())
  else bif (bne a1.2.2.2.2 b2.2.2.2.2) then some ((false, ()), ())
  else some ((true, ()), ()))
/-! ### loop.example/loom/laws.eqValueS -/
def sh44_16 : Sh := ⟨[0, 1, 5], [.val (.row Y1), .val (.row Y1), .val (.int .i64)], []⟩
def outs44_16 : List (Ex × Sh) := [((.exit 0), ⟨[], [], []⟩), (.ret, ⟨[4], [.val .bool], []⟩)]
noncomputable def f44_16 (x : (List S1) × (List S1) × Int × Unit) : Option (((List S1) × (List S1) × Int × Unit) ⊕ ((Unit) ⊕ (Bool × Unit))) :=
 let a6 := x.1
 let b7 := x.2.1
 let i8 := x.2.2.1
 bif (blt i8 (a6.length : Int)) then (
  bif (inR i8 (a6.length : Int)) then (
   bif (inR i8 (b7.length : Int)) then (
    (f95 ((a6.getD i8.toNat ((0 : Int), (0 : Int), (0 : Nat), (⟨#[]⟩ : ByteArray), (0 : Int))), (b7.getD i8.toNat ((0 : Int), (0 : Int), (0 : Nat), (⟨#[]⟩ : ByteArray), (0 : Int))), ())).bind fun r11 =>
    bif (!r11.1.1) then some (.inr (.inr (false, ())))
    else some (.inl (a6, b7, (wr (i8 + (1 : Int))), ())))
   else none)
  else none)
 else some (.inr (.inl ()))
def ps44 : List VS := [.val (.row Y1), .val (.row Y1)]
def rs44 : List VS := [.val .bool]
noncomputable def f44 (x : (List S1) × (List S1) × Unit) : Option ((Bool × Unit) × (Unit)) :=
 let a1 := x.1
 let b2 := x.2.1
 bif (bne (a1.length : Int) (b2.length : Int)) then some ((false, ()), ())
 else (
  (loopF f44_16 (a1, b2, (0 : Int), ())).bind fun y17 => match y17 with
   | .inl _ => (
    some ((true, ()), ()))
   | .inr z15 => (
    some ((z15.1, ()), ())))
/-! ### loop.example/loom/laws.eqUp -/
def ps176 : List VS := [.val Y0, .val Y0]
def rs176 : List VS := [.val .bool]
noncomputable def f176 (x : S0 × S0 × Unit) : Option ((Bool × Unit) × (Unit)) :=
 let a1 := x.1
 let b2 := x.2.1
 bif (!(beqB a1.1 b2.1)) then some ((false, ()), ())
 else bif (bne a1.2 b2.2) then some ((false, ()), ())
 else some ((true, ()), ())
/-! ### loop.example/loom/laws.eqUpS -/
def sh136_16 : Sh := ⟨[0, 1, 5], [.val (.row Y0), .val (.row Y0), .val (.int .i64)], []⟩
def outs136_16 : List (Ex × Sh) := [((.exit 0), ⟨[], [], []⟩), (.ret, ⟨[4], [.val .bool], []⟩)]
noncomputable def f136_16 (x : (List S0) × (List S0) × Int × Unit) : Option (((List S0) × (List S0) × Int × Unit) ⊕ ((Unit) ⊕ (Bool × Unit))) :=
 let a6 := x.1
 let b7 := x.2.1
 let i8 := x.2.2.1
 bif (blt i8 (a6.length : Int)) then (
  bif (inR i8 (a6.length : Int)) then (
   bif (inR i8 (b7.length : Int)) then (
    (f176 ((a6.getD i8.toNat (false, (0 : Int))), (b7.getD i8.toNat (false, (0 : Int))), ())).bind fun r11 =>
    bif (!r11.1.1) then some (.inr (.inr (false, ())))
    else some (.inl (a6, b7, (wr (i8 + (1 : Int))), ())))
   else none)
  else none)
 else some (.inr (.inl ()))
def ps136 : List VS := [.val (.row Y0), .val (.row Y0)]
def rs136 : List VS := [.val .bool]
noncomputable def f136 (x : (List S0) × (List S0) × Unit) : Option ((Bool × Unit) × (Unit)) :=
 let a1 := x.1
 let b2 := x.2.1
 bif (bne (a1.length : Int) (b2.length : Int)) then some ((false, ()), ())
 else (
  (loopF f136_16 (a1, b2, (0 : Int), ())).bind fun y17 => match y17 with
   | .inl _ => (
    some ((true, ()), ()))
   | .inr z15 => (
    some ((z15.1, ()), ())))
/-! ### loop.example/loom/laws.eqIns -/
def ps177 : List VS := [.val Y2, .val Y2]
def rs177 : List VS := [.val .bool]
noncomputable def f177 (x : S2 × S2 × Unit) : Option ((Bool × Unit) × (Unit)) :=
 let a1 := x.1
 let b2 := x.2.1
 bif (bne a1.1 b2.1) then some ((false, ()), ())
 else bif (bne a1.2.1 b2.2.1) then some ((false, ()), ())
 else bif (bne a1.2.2.1 b2.2.2.1) then some ((false, ()), ())
 else bif (bne a1.2.2.2.1 b2.2.2.2.1) then some ((false, ()), ())
 else bif (bne a1.2.2.2.2 b2.2.2.2.2) then some ((false, ()), ())
 else some ((true, ()), ())
/-! ### loop.example/loom/laws.eqInsS -/
def sh137_16 : Sh := ⟨[0, 1, 5], [.val (.row Y2), .val (.row Y2), .val (.int .i64)], []⟩
def outs137_16 : List (Ex × Sh) := [((.exit 0), ⟨[], [], []⟩), (.ret, ⟨[4], [.val .bool], []⟩)]
noncomputable def f137_16 (x : (List S2) × (List S2) × Int × Unit) : Option (((List S2) × (List S2) × Int × Unit) ⊕ ((Unit) ⊕ (Bool × Unit))) :=
 let a6 := x.1
 let b7 := x.2.1
 let i8 := x.2.2.1
 bif (blt i8 (a6.length : Int)) then (
  bif (inR i8 (a6.length : Int)) then (
   bif (inR i8 (b7.length : Int)) then (
    (f177 ((a6.getD i8.toNat ((0 : Int), (0 : Int), (0 : Int), (0 : Int), (0 : Int))), (b7.getD i8.toNat ((0 : Int), (0 : Int), (0 : Int), (0 : Int), (0 : Int))), ())).bind fun r11 =>
    bif (!r11.1.1) then some (.inr (.inr (false, ())))
    else some (.inl (a6, b7, (wr (i8 + (1 : Int))), ())))
   else none)
  else none)
 else some (.inr (.inl ()))
def ps137 : List VS := [.val (.row Y2), .val (.row Y2)]
def rs137 : List VS := [.val .bool]
noncomputable def f137 (x : (List S2) × (List S2) × Unit) : Option ((Bool × Unit) × (Unit)) :=
 let a1 := x.1
 let b2 := x.2.1
 bif (bne (a1.length : Int) (b2.length : Int)) then some ((false, ()), ())
 else (
  (loopF f137_16 (a1, b2, (0 : Int), ())).bind fun y17 => match y17 with
   | .inl _ => (
    some ((true, ()), ()))
   | .inr z15 => (
    some ((z15.1, ()), ())))
/-! ### loop.example/loom/laws.eqNamed -/
def ps178 : List VS := [.val Y3, .val Y3]
def rs178 : List VS := [.val .bool]
noncomputable def f178 (x : S3 × S3 × Unit) : Option ((Bool × Unit) × (Unit)) :=
 let a1 := x.1
 let b2 := x.2.1
 bif (!(beqS a1.1 b2.1)) then some ((false, ()), ())
 else bif (bne a1.2.1 b2.2.1) then some ((false, ()), ())
 else bif (bne a1.2.2.1 b2.2.2.1) then some ((false, ()), ())
 else bif (bne a1.2.2.2 b2.2.2.2) then some ((false, ()), ())
 else some ((true, ()), ())
/-! ### loop.example/loom/laws.eqNamedS -/
def sh138_16 : Sh := ⟨[0, 1, 5], [.val (.row Y3), .val (.row Y3), .val (.int .i64)], []⟩
def outs138_16 : List (Ex × Sh) := [((.exit 0), ⟨[], [], []⟩), (.ret, ⟨[4], [.val .bool], []⟩)]
noncomputable def f138_16 (x : (List S3) × (List S3) × Int × Unit) : Option (((List S3) × (List S3) × Int × Unit) ⊕ ((Unit) ⊕ (Bool × Unit))) :=
 let a6 := x.1
 let b7 := x.2.1
 let i8 := x.2.2.1
 bif (blt i8 (a6.length : Int)) then (
  bif (inR i8 (a6.length : Int)) then (
   bif (inR i8 (b7.length : Int)) then (
    (f178 ((a6.getD i8.toNat ((⟨#[]⟩ : ByteArray), (0 : Int), (0 : Int), (0 : Int))), (b7.getD i8.toNat ((⟨#[]⟩ : ByteArray), (0 : Int), (0 : Int), (0 : Int))), ())).bind fun r11 =>
    bif (!r11.1.1) then some (.inr (.inr (false, ())))
    else some (.inl (a6, b7, (wr (i8 + (1 : Int))), ())))
   else none)
  else none)
 else some (.inr (.inl ()))
def ps138 : List VS := [.val (.row Y3), .val (.row Y3)]
def rs138 : List VS := [.val .bool]
noncomputable def f138 (x : (List S3) × (List S3) × Unit) : Option ((Bool × Unit) × (Unit)) :=
 let a1 := x.1
 let b2 := x.2.1
 bif (bne (a1.length : Int) (b2.length : Int)) then some ((false, ()), ())
 else (
  (loopF f138_16 (a1, b2, (0 : Int), ())).bind fun y17 => match y17 with
   | .inl _ => (
    some ((true, ()), ()))
   | .inr z15 => (
    some ((z15.1, ()), ())))
/-! ### loop.example/loom/laws.eqProto -/
def ps71 : List VS := [.val Y4, .val Y4]
def rs71 : List VS := [.val .bool]
noncomputable def f71 (x : S9 × S9 × Unit) : Option ((Bool × Unit) × (Unit)) :=
 let a1 := x.1
 let b2 := x.2.1
 bif (!(beqS a1.1 b2.1)) then some ((false, ()), ())
 else bif (bne a1.2.1 b2.2.1) then some ((false, ()), ())
 else bif (bne a1.2.2.1 b2.2.2.1) then some ((false, ()), ())
 else bif (!(beqB a1.2.2.2.1 b2.2.2.2.1)) then some ((false, ()), ())
 else bif (bne a1.2.2.2.2.1 b2.2.2.2.2.1) then some ((false, ()), ())
 else (
  (f136 (a1.2.2.2.2.2.1, b2.2.2.2.2.2.1, ())).bind fun r8 =>
  bif (!r8.1.1) then some ((false, ()), ())
  else (
   (f44 (a1.2.2.2.2.2.2.1, b2.2.2.2.2.2.2.1, ())).bind fun r10 =>
   bif (!r10.1.1) then some ((false, ()), ())
   else (
    (f137 (a1.2.2.2.2.2.2.2.1, b2.2.2.2.2.2.2.2.1, ())).bind fun r12 =>
    bif (!r12.1.1) then some ((false, ()), ())
    else (
     (f138 (a1.2.2.2.2.2.2.2.2, b2.2.2.2.2.2.2.2.2, ())).bind fun r14 =>
     bif (!r14.1.1) then some ((false, ()), ())
     else some ((true, ()), ())))))
/-! ### loop.example/loom/laws.eqProtoS -/
def sh30_16 : Sh := ⟨[0, 1, 5], [.val (.row Y4), .val (.row Y4), .val (.int .i64)], []⟩
def outs30_16 : List (Ex × Sh) := [((.exit 0), ⟨[], [], []⟩), (.ret, ⟨[4], [.val .bool], []⟩)]
noncomputable def f30_16 (x : (List S9) × (List S9) × Int × Unit) : Option (((List S9) × (List S9) × Int × Unit) ⊕ ((Unit) ⊕ (Bool × Unit))) :=
 let a6 := x.1
 let b7 := x.2.1
 let i8 := x.2.2.1
 bif (blt i8 (a6.length : Int)) then (
  bif (inR i8 (a6.length : Int)) then (
   bif (inR i8 (b7.length : Int)) then (
    (f71 ((a6.getD i8.toNat ((⟨#[]⟩ : ByteArray), (0 : Int), (0 : Int), false, (0 : Int), ([] : List S0), ([] : List S1), ([] : List S2), ([] : List S3))), (b7.getD i8.toNat ((⟨#[]⟩ : ByteArray), (0 : Int), (0 : Int), false, (0 : Int), ([] : List S0), ([] : List S1), ([] : List S2), ([] : List S3))), ())).bind fun r11 =>
    bif (!r11.1.1) then some (.inr (.inr (false, ())))
    else some (.inl (a6, b7, (wr (i8 + (1 : Int))), ())))
   else none)
  else none)
 else some (.inr (.inl ()))
def ps30 : List VS := [.val (.row Y4), .val (.row Y4)]
def rs30 : List VS := [.val .bool]
noncomputable def f30 (x : (List S9) × (List S9) × Unit) : Option ((Bool × Unit) × (Unit)) :=
 let a1 := x.1
 let b2 := x.2.1
 bif (bne (a1.length : Int) (b2.length : Int)) then some ((false, ()), ())
 else (
  (loopF f30_16 (a1, b2, (0 : Int), ())).bind fun y17 => match y17 with
   | .inl _ => (
    some ((true, ()), ()))
   | .inr z15 => (
    some ((z15.1, ()), ())))
/-! ### loop.example/loom/laws.eqCode -/
def ps10 : List VS := [.val Y5, .val Y5]
def rs10 : List VS := [.val .bool]
noncomputable def f10 (x : S25 × S25 × Unit) : Option ((Bool × Unit) × (Unit)) :=
 (f30 (x.1, x.2.1, ())).bind fun r3 =>
 bif (!r3.1.1) then some ((false, ()), ())
 else some ((true, ()), ())
/-! ### loop.example/loom/laws.markText -/
def sh72_16 : Sh := ⟨[0, 3], [.val (.int .i64), .val .str], []⟩
def outs72_16 : List (Ex × Sh) := [((.exit 0), ⟨[3], [.val .str], []⟩)]
noncomputable def f72_16 (x : Int × ByteArray × Unit) : Option ((Int × ByteArray × Unit) ⊕ (ByteArray × Unit)) :=
 let k3 := x.1
 let out4 := x.2.1
 bif (blt (0 : Int) k3) then (
  let v10 := (bytesOf ([(IntKind.wrap .u8 (wr ((48 : Int) + (k3.tmod (10 : Int)))))]))
  bif (nle (v10.size + out4.size) 9223372036854775807) then some (.inl ((wr (k3.tdiv (10 : Int))), (v10 ++ out4), ()))
  else none)
 else some (.inr (out4, ()))
def ps72 : List VS := [.val (.int .i64)]
def rs72 : List VS := [.val .str]
noncomputable def f72 (x : Int × Unit) : Option ((ByteArray × Unit) × (Unit)) :=
 let k1 := x.1
 bif (ble k1 (0 : Int)) then some (((⟨#[109, 48]⟩ : ByteArray), ()), ())
 else (
  (loopF f72_16 (k1, (⟨#[]⟩ : ByteArray), ())).bind fun z13 =>
  let out14 := z13.1
  bif (nle ((⟨#[109]⟩ : ByteArray).size + out14.size) 9223372036854775807) then some ((((⟨#[109]⟩ : ByteArray) ++ out14), ()), ())
  else none)
/-! ### loop.example/loom/laws.markValueS -/
def sh52_8 : Sh := ⟨[0, 1, 5], [.own 128 Y1, .val (.int .i64), .val (.int .i64)], []⟩
def outs52_8 : List (Ex × Sh) := [((.exit 0), ⟨[0, 1], [.own 128 Y1, .val (.int .i64)], []⟩)]
noncomputable def f52_8 (x : (List S1) × Int × Int × Unit) : Option (((List S1) × Int × Int × Unit) ⊕ ((List S1) × Int × Unit)) :=
 let a3 := x.1
 let k4 := x.2.1
 let i5 := x.2.2.1
 bif (blt i5 (a3.length : Int)) then (
  bif (inR i5 (a3.length : Int)) then (
   let row8 := (a3.set i5.toNat (k4, (a3.getD i5.toNat ((0 : Int), (0 : Int), (0 : Nat), (⟨#[]⟩ : ByteArray), (0 : Int))).2))
   let v9 := (wr (k4 + (1 : Int)))
   bif (inR i5 (row8.length : Int)) then (
    let row10 := (row8.set i5.toNat ((row8.getD i5.toNat ((0 : Int), (0 : Int), (0 : Nat), (⟨#[]⟩ : ByteArray), (0 : Int))).1, v9, (row8.getD i5.toNat ((0 : Int), (0 : Int), (0 : Nat), (⟨#[]⟩ : ByteArray), (0 : Int))).2.2))
    let v11 := (wr (v9 + (1 : Int)))
    bif (inR i5 (row10.length : Int)) then (
     let row13 := (row10.set i5.toNat ((row10.getD i5.toNat ((0 : Int), (0 : Int), (0 : Nat), (⟨#[]⟩ : ByteArray), (0 : Int))).1, (row10.getD i5.toNat ((0 : Int), (0 : Int), (0 : Nat), (⟨#[]⟩ : ByteArray), (0 : Int))).2.1, (FloatKind.f64.nearest v11), (row10.getD i5.toNat ((0 : Int), (0 : Int), (0 : Nat), (⟨#[]⟩ : ByteArray), (0 : Int))).2.2.2))
     let v14 := (wr (v11 + (1 : Int)))
     (f72 (v14, ())).bind fun r15 =>
     bif (inR i5 (row13.length : Int)) then (
      let row16 := (row13.set i5.toNat ((row13.getD i5.toNat ((0 : Int), (0 : Int), (0 : Nat), (⟨#[]⟩ : ByteArray), (0 : Int))).1, (row13.getD i5.toNat ((0 : Int), (0 : Int), (0 : Nat), (⟨#[]⟩ : ByteArray), (0 : Int))).2.1, (row13.getD i5.toNat ((0 : Int), (0 : Int), (0 : Nat), (⟨#[]⟩ : ByteArray), (0 : Int))).2.2.1, r15.1.1, (row13.getD i5.toNat ((0 : Int), (0 : Int), (0 : Nat), (⟨#[]⟩ : ByteArray), (0 : Int))).2.2.2.2))
      let v17 := (wr (v14 + (1 : Int)))
      bif (inR i5 (row16.length : Int)) then (
       some (.inl ((row16.set i5.toNat ((row16.getD i5.toNat ((0 : Int), (0 : Int), (0 : Nat), (⟨#[]⟩ : ByteArray), (0 : Int))).1, (row16.getD i5.toNat ((0 : Int), (0 : Int), (0 : Nat), (⟨#[]⟩ : ByteArray), (0 : Int))).2.1, (row16.getD i5.toNat ((0 : Int), (0 : Int), (0 : Nat), (⟨#[]⟩ : ByteArray), (0 : Int))).2.2.1, (row16.getD i5.toNat ((0 : Int), (0 : Int), (0 : Nat), (⟨#[]⟩ : ByteArray), (0 : Int))).2.2.2.1, v17)), (wr (v17 + (1 : Int))), (wr (i5 + (1 : Int))), ())))
      else none)
     else none)
    else none)
   else none)
  else none)
 else some (.inr (a3, k4, ()))
def ps52 : List VS := [.own 128 Y1, .val (.int .i64)]
def rs52 : List VS := [.val (.int .i64)]
noncomputable def f52 (x : (List S1) × Int × Unit) : Option ((Int × Unit) × ((List S1) × Unit)) :=
 (loopF f52_8 (x.1, x.2.1, (0 : Int), ())).bind fun z21 =>
 some ((z21.2.1, ()), z21.1, ())
/-! ### loop.example/loom/laws.markUpS -/
def sh73_8 : Sh := ⟨[0, 1, 5], [.own 224 Y0, .val (.int .i64), .val (.int .i64)], []⟩
def outs73_8 : List (Ex × Sh) := [((.exit 0), ⟨[0, 1], [.own 224 Y0, .val (.int .i64)], []⟩)]
noncomputable def f73_8 (x : (List S0) × Int × Int × Unit) : Option (((List S0) × Int × Int × Unit) ⊕ ((List S0) × Int × Unit)) :=
 let a3 := x.1
 let k4 := x.2.1
 let i5 := x.2.2.1
 bif (blt i5 (a3.length : Int)) then (
  bif (inR i5 (a3.length : Int)) then (
   let row10 := (a3.set i5.toNat ((beq (k4.tmod (3 : Int)) (0 : Int)), (a3.getD i5.toNat (false, (0 : Int))).2))
   let v11 := (wr (k4 + (1 : Int)))
   bif (inR i5 (row10.length : Int)) then (
    some (.inl ((row10.set i5.toNat ((row10.getD i5.toNat (false, (0 : Int))).1, v11)), (wr (v11 + (1 : Int))), (wr (i5 + (1 : Int))), ())))
   else none)
  else none)
 else some (.inr (a3, k4, ()))
def ps73 : List VS := [.own 224 Y0, .val (.int .i64)]
def rs73 : List VS := [.val (.int .i64)]
noncomputable def f73 (x : (List S0) × Int × Unit) : Option ((Int × Unit) × ((List S0) × Unit)) :=
 (loopF f73_8 (x.1, x.2.1, (0 : Int), ())).bind fun z15 =>
 some ((z15.2.1, ()), z15.1, ())
/-! ### loop.example/loom/laws.markInsS -/
def sh74_8 : Sh := ⟨[0, 1, 5], [.own 118 Y2, .val (.int .i64), .val (.int .i64)], []⟩
def outs74_8 : List (Ex × Sh) := [((.exit 0), ⟨[0, 1], [.own 118 Y2, .val (.int .i64)], []⟩)]
noncomputable def f74_8 (x : (List S2) × Int × Int × Unit) : Option (((List S2) × Int × Int × Unit) ⊕ ((List S2) × Int × Unit)) :=
 let a3 := x.1
 let k4 := x.2.1
 let i5 := x.2.2.1
 bif (blt i5 (a3.length : Int)) then (
  bif (inR i5 (a3.length : Int)) then (
   let row8 := (a3.set i5.toNat (k4, (a3.getD i5.toNat ((0 : Int), (0 : Int), (0 : Int), (0 : Int), (0 : Int))).2))
   let v9 := (wr (k4 + (1 : Int)))
   bif (inR i5 (row8.length : Int)) then (
    let row10 := (row8.set i5.toNat ((row8.getD i5.toNat ((0 : Int), (0 : Int), (0 : Int), (0 : Int), (0 : Int))).1, v9, (row8.getD i5.toNat ((0 : Int), (0 : Int), (0 : Int), (0 : Int), (0 : Int))).2.2))
    let v11 := (wr (v9 + (1 : Int)))
    bif (inR i5 (row10.length : Int)) then (
     let row12 := (row10.set i5.toNat ((row10.getD i5.toNat ((0 : Int), (0 : Int), (0 : Int), (0 : Int), (0 : Int))).1, (row10.getD i5.toNat ((0 : Int), (0 : Int), (0 : Int), (0 : Int), (0 : Int))).2.1, v11, (row10.getD i5.toNat ((0 : Int), (0 : Int), (0 : Int), (0 : Int), (0 : Int))).2.2.2))
     let v13 := (wr (v11 + (1 : Int)))
     bif (inR i5 (row12.length : Int)) then (
      let row14 := (row12.set i5.toNat ((row12.getD i5.toNat ((0 : Int), (0 : Int), (0 : Int), (0 : Int), (0 : Int))).1, (row12.getD i5.toNat ((0 : Int), (0 : Int), (0 : Int), (0 : Int), (0 : Int))).2.1, (row12.getD i5.toNat ((0 : Int), (0 : Int), (0 : Int), (0 : Int), (0 : Int))).2.2.1, v13, (row12.getD i5.toNat ((0 : Int), (0 : Int), (0 : Int), (0 : Int), (0 : Int))).2.2.2.2))
      let v15 := (wr (v13 + (1 : Int)))
      bif (inR i5 (row14.length : Int)) then (
       some (.inl ((row14.set i5.toNat ((row14.getD i5.toNat ((0 : Int), (0 : Int), (0 : Int), (0 : Int), (0 : Int))).1, (row14.getD i5.toNat ((0 : Int), (0 : Int), (0 : Int), (0 : Int), (0 : Int))).2.1, (row14.getD i5.toNat ((0 : Int), (0 : Int), (0 : Int), (0 : Int), (0 : Int))).2.2.1, (row14.getD i5.toNat ((0 : Int), (0 : Int), (0 : Int), (0 : Int), (0 : Int))).2.2.2.1, v15)), (wr (v15 + (1 : Int))), (wr (i5 + (1 : Int))), ())))
      else none)
     else none)
    else none)
   else none)
  else none)
 else some (.inr (a3, k4, ()))
def ps74 : List VS := [.own 118 Y2, .val (.int .i64)]
def rs74 : List VS := [.val (.int .i64)]
noncomputable def f74 (x : (List S2) × Int × Unit) : Option ((Int × Unit) × ((List S2) × Unit)) :=
 (loopF f74_8 (x.1, x.2.1, (0 : Int), ())).bind fun z19 =>
 some ((z19.2.1, ()), z19.1, ())
/-! ### loop.example/loom/laws.markNamedS -/
def sh75_8 : Sh := ⟨[0, 1, 5], [.own 221 Y3, .val (.int .i64), .val (.int .i64)], []⟩
def outs75_8 : List (Ex × Sh) := [((.exit 0), ⟨[0, 1], [.own 221 Y3, .val (.int .i64)], []⟩)]
noncomputable def f75_8 (x : (List S3) × Int × Int × Unit) : Option (((List S3) × Int × Int × Unit) ⊕ ((List S3) × Int × Unit)) :=
 let a3 := x.1
 let k4 := x.2.1
 let i5 := x.2.2.1
 bif (blt i5 (a3.length : Int)) then (
  (f72 (k4, ())).bind fun r8 =>
  bif (inR i5 (a3.length : Int)) then (
   let row9 := (a3.set i5.toNat (r8.1.1, (a3.getD i5.toNat ((⟨#[]⟩ : ByteArray), (0 : Int), (0 : Int), (0 : Int))).2))
   let v10 := (wr (k4 + (1 : Int)))
   bif (inR i5 (row9.length : Int)) then (
    let row11 := (row9.set i5.toNat ((row9.getD i5.toNat ((⟨#[]⟩ : ByteArray), (0 : Int), (0 : Int), (0 : Int))).1, v10, (row9.getD i5.toNat ((⟨#[]⟩ : ByteArray), (0 : Int), (0 : Int), (0 : Int))).2.2))
    let v12 := (wr (v10 + (1 : Int)))
    bif (inR i5 (row11.length : Int)) then (
     let row13 := (row11.set i5.toNat ((row11.getD i5.toNat ((⟨#[]⟩ : ByteArray), (0 : Int), (0 : Int), (0 : Int))).1, (row11.getD i5.toNat ((⟨#[]⟩ : ByteArray), (0 : Int), (0 : Int), (0 : Int))).2.1, v12, (row11.getD i5.toNat ((⟨#[]⟩ : ByteArray), (0 : Int), (0 : Int), (0 : Int))).2.2.2))
     let v14 := (wr (v12 + (1 : Int)))
     bif (inR i5 (row13.length : Int)) then (
      some (.inl ((row13.set i5.toNat ((row13.getD i5.toNat ((⟨#[]⟩ : ByteArray), (0 : Int), (0 : Int), (0 : Int))).1, (row13.getD i5.toNat ((⟨#[]⟩ : ByteArray), (0 : Int), (0 : Int), (0 : Int))).2.1, (row13.getD i5.toNat ((⟨#[]⟩ : ByteArray), (0 : Int), (0 : Int), (0 : Int))).2.2.1, v14)), (wr (v14 + (1 : Int))), (wr (i5 + (1 : Int))), ())))
     else none)
    else none)
   else none)
  else none)
 else some (.inr (a3, k4, ()))
def ps75 : List VS := [.own 221 Y3, .val (.int .i64)]
def rs75 : List VS := [.val (.int .i64)]
noncomputable def f75 (x : (List S3) × Int × Unit) : Option ((Int × Unit) × ((List S3) × Unit)) :=
 (loopF f75_8 (x.1, x.2.1, (0 : Int), ())).bind fun z18 =>
 some ((z18.2.1, ()), z18.1, ())
/-! ### loop.example/loom/laws.markProtoS -/
def sh31_8 : Sh := ⟨[0, 1, 5], [.deep 71 Z0 true, .val (.int .i64), .val (.int .i64)], []⟩
def outs31_8 : List (Ex × Sh) := [((.exit 0), ⟨[0, 1], [.deep 71 Z0 true, .val (.int .i64)], []⟩)]
noncomputable def f31_8 (x : (List S9) × Int × Int × Unit) : Option (((List S9) × Int × Int × Unit) ⊕ ((List S9) × Int × Unit)) :=
 let a3 := x.1
 let k4 := x.2.1
 let i5 := x.2.2.1
 bif (blt i5 (a3.length : Int)) then (
  (f72 (k4, ())).bind fun r8 =>
  bif (inR i5 (a3.length : Int)) then (
   let row9 := (put0 a3 i5 r8.1.1)
   let v10 := (wr (k4 + (1 : Int)))
   bif (inR i5 (row9.length : Int)) then (
    let row11 := (put1 row9 i5 v10)
    let v12 := (wr (v10 + (1 : Int)))
    bif (inR i5 (row11.length : Int)) then (
     let row13 := (put2 row11 i5 v12)
     let v14 := (wr (v12 + (1 : Int)))
     bif (inR i5 (row13.length : Int)) then (
      let row17 := (put3 row13 i5 (beq (v14.tmod (3 : Int)) (0 : Int)))
      let v18 := (wr (v14 + (1 : Int)))
      bif (inR i5 (row17.length : Int)) then (
       let row19 := (put4 row17 i5 v18)
       bif (inR i5 (row19.length : Int)) then (
        (f73 ((row19.getD i5.toNat ((⟨#[]⟩ : ByteArray), (0 : Int), (0 : Int), false, (0 : Int), ([] : List S0), ([] : List S1), ([] : List S2), ([] : List S3))).2.2.2.2.2.1, (wr (v18 + (1 : Int))), ())).bind fun r21 =>
        bif (inR i5 (row19.length : Int)) then (
         (f52 ((row19.getD i5.toNat ((⟨#[]⟩ : ByteArray), (0 : Int), (0 : Int), false, (0 : Int), ([] : List S0), ([] : List S1), ([] : List S2), ([] : List S3))).2.2.2.2.2.2.1, r21.1.1, ())).bind fun r22 =>
         bif (inR i5 (row19.length : Int)) then (
          (f74 ((row19.getD i5.toNat ((⟨#[]⟩ : ByteArray), (0 : Int), (0 : Int), false, (0 : Int), ([] : List S0), ([] : List S1), ([] : List S2), ([] : List S3))).2.2.2.2.2.2.2.1, r22.1.1, ())).bind fun r23 =>
          bif (inR i5 (row19.length : Int)) then (
           (f75 ((row19.getD i5.toNat ((⟨#[]⟩ : ByteArray), (0 : Int), (0 : Int), false, (0 : Int), ([] : List S0), ([] : List S1), ([] : List S2), ([] : List S3))).2.2.2.2.2.2.2.2, r23.1.1, ())).bind fun r24 =>
           some (.inl ((put8 (put7 (put6 (put5 row19 i5 r24.2.1) i5 r23.2.1) i5 r22.2.1) i5 r21.2.1), r24.1.1, (wr (i5 + (1 : Int))), ())))
          else none)
         else none)
        else none)
       else none)
      else none)
     else none)
    else none)
   else none)
  else none)
 else some (.inr (a3, k4, ()))
def ps31 : List VS := [.deep 71 Z0 true, .val (.int .i64)]
def rs31 : List VS := [.val (.int .i64)]
noncomputable def f31 (x : (List S9) × Int × Unit) : Option ((Int × Unit) × ((List S9) × Unit)) :=
 (loopF f31_8 (x.1, x.2.1, (0 : Int), ())).bind fun z26 =>
 some ((z26.2.1, ()), z26.1, ())
/-! ### loop.example/loom/laws.markCode -/
def ps11 : List VS := [.lent [.deep 71 Z0], .val (.int .i64)]
def rs11 : List VS := [.val (.int .i64)]
noncomputable def f11 (x : ((List S9) × Unit) × Int × Unit) : Option ((Int × Unit) × (((List S9) × Unit) × Unit)) :=
 (f31 (x.1.1, x.2.1, ())).bind fun r2 =>
 some ((r2.1.1, ()), (r2.2.1, ()), ())
/-! ### loop.example/loom/laws.markQInsS -/
def sh76_8 : Sh := ⟨[0, 1, 5], [.own 76 Y6, .val (.int .i64), .val (.int .i64)], []⟩
def outs76_8 : List (Ex × Sh) := [((.exit 0), ⟨[0, 1], [.own 76 Y6, .val (.int .i64)], []⟩)]
noncomputable def f76_8 (x : (List S7) × Int × Int × Unit) : Option (((List S7) × Int × Int × Unit) ⊕ ((List S7) × Int × Unit)) :=
 let a3 := x.1
 let k4 := x.2.1
 let i5 := x.2.2.1
 bif (blt i5 (a3.length : Int)) then (
  bif (inR i5 (a3.length : Int)) then (
   let row8 := (a3.set i5.toNat (k4, (a3.getD i5.toNat ((0 : Int), (0 : Int), (0 : Int), (0 : Int), (0 : Int), (0 : Int), (0 : Int))).2))
   let v9 := (wr (k4 + (1 : Int)))
   bif (inR i5 (row8.length : Int)) then (
    let row10 := (row8.set i5.toNat ((row8.getD i5.toNat ((0 : Int), (0 : Int), (0 : Int), (0 : Int), (0 : Int), (0 : Int), (0 : Int))).1, v9, (row8.getD i5.toNat ((0 : Int), (0 : Int), (0 : Int), (0 : Int), (0 : Int), (0 : Int), (0 : Int))).2.2))
    let v11 := (wr (v9 + (1 : Int)))
    bif (inR i5 (row10.length : Int)) then (
     let row12 := (row10.set i5.toNat ((row10.getD i5.toNat ((0 : Int), (0 : Int), (0 : Int), (0 : Int), (0 : Int), (0 : Int), (0 : Int))).1, (row10.getD i5.toNat ((0 : Int), (0 : Int), (0 : Int), (0 : Int), (0 : Int), (0 : Int), (0 : Int))).2.1, v11, (row10.getD i5.toNat ((0 : Int), (0 : Int), (0 : Int), (0 : Int), (0 : Int), (0 : Int), (0 : Int))).2.2.2))
     let v13 := (wr (v11 + (1 : Int)))
     bif (inR i5 (row12.length : Int)) then (
      let row14 := (row12.set i5.toNat ((row12.getD i5.toNat ((0 : Int), (0 : Int), (0 : Int), (0 : Int), (0 : Int), (0 : Int), (0 : Int))).1, (row12.getD i5.toNat ((0 : Int), (0 : Int), (0 : Int), (0 : Int), (0 : Int), (0 : Int), (0 : Int))).2.1, (row12.getD i5.toNat ((0 : Int), (0 : Int), (0 : Int), (0 : Int), (0 : Int), (0 : Int), (0 : Int))).2.2.1, v13, (row12.getD i5.toNat ((0 : Int), (0 : Int), (0 : Int), (0 : Int), (0 : Int), (0 : Int), (0 : Int))).2.2.2.2))
      let v15 := (wr (v13 + (1 : Int)))
      bif (inR i5 (row14.length : Int)) then (
       let row16 := (row14.set i5.toNat ((row14.getD i5.toNat ((0 : Int), (0 : Int), (0 : Int), (0 : Int), (0 : Int), (0 : Int), (0 : Int))).1, (row14.getD i5.toNat ((0 : Int), (0 : Int), (0 : Int), (0 : Int), (0 : Int), (0 : Int), (0 : Int))).2.1, (row14.getD i5.toNat ((0 : Int), (0 : Int), (0 : Int), (0 : Int), (0 : Int), (0 : Int), (0 : Int))).2.2.1, (row14.getD i5.toNat ((0 : Int), (0 : Int), (0 : Int), (0 : Int), (0 : Int), (0 : Int), (0 : Int))).2.2.2.1, v15, (row14.getD i5.toNat ((0 : Int), (0 : Int), (0 : Int), (0 : Int), (0 : Int), (0 : Int), (0 : Int))).2.2.2.2.2))
       let v17 := (wr (v15 + (1 : Int)))
       bif (inR i5 (row16.length : Int)) then (
        let row18 := (row16.set i5.toNat ((row16.getD i5.toNat ((0 : Int), (0 : Int), (0 : Int), (0 : Int), (0 : Int), (0 : Int), (0 : Int))).1, (row16.getD i5.toNat ((0 : Int), (0 : Int), (0 : Int), (0 : Int), (0 : Int), (0 : Int), (0 : Int))).2.1, (row16.getD i5.toNat ((0 : Int), (0 : Int), (0 : Int), (0 : Int), (0 : Int), (0 : Int), (0 : Int))).2.2.1, (row16.getD i5.toNat ((0 : Int), (0 : Int), (0 : Int), (0 : Int), (0 : Int), (0 : Int), (0 : Int))).2.2.2.1, (row16.getD i5.toNat ((0 : Int), (0 : Int), (0 : Int), (0 : Int), (0 : Int), (0 : Int), (0 : Int))).2.2.2.2.1, v17, (row16.getD i5.toNat ((0 : Int), (0 : Int), (0 : Int), (0 : Int), (0 : Int), (0 : Int), (0 : Int))).2.2.2.2.2.2))
        let v19 := (wr (v17 + (1 : Int)))
        bif (inR i5 (row18.length : Int)) then (
         some (.inl ((row18.set i5.toNat ((row18.getD i5.toNat ((0 : Int), (0 : Int), (0 : Int), (0 : Int), (0 : Int), (0 : Int), (0 : Int))).1, (row18.getD i5.toNat ((0 : Int), (0 : Int), (0 : Int), (0 : Int), (0 : Int), (0 : Int), (0 : Int))).2.1, (row18.getD i5.toNat ((0 : Int), (0 : Int), (0 : Int), (0 : Int), (0 : Int), (0 : Int), (0 : Int))).2.2.1, (row18.getD i5.toNat ((0 : Int), (0 : Int), (0 : Int), (0 : Int), (0 : Int), (0 : Int), (0 : Int))).2.2.2.1, (row18.getD i5.toNat ((0 : Int), (0 : Int), (0 : Int), (0 : Int), (0 : Int), (0 : Int), (0 : Int))).2.2.2.2.1, (row18.getD i5.toNat ((0 : Int), (0 : Int), (0 : Int), (0 : Int), (0 : Int), (0 : Int), (0 : Int))).2.2.2.2.2.1, v19)), (wr (v19 + (1 : Int))), (wr (i5 + (1 : Int))), ())))
        else none)
       else none)
      else none)
     else none)
    else none)
   else none)
  else none)
 else some (.inr (a3, k4, ()))
def ps76 : List VS := [.own 76 Y6, .val (.int .i64)]
def rs76 : List VS := [.val (.int .i64)]
noncomputable def f76 (x : (List S7) × Int × Unit) : Option ((Int × Unit) × ((List S7) × Unit)) :=
 (loopF f76_8 (x.1, x.2.1, (0 : Int), ())).bind fun z23 =>
 some ((z23.2.1, ()), z23.1, ())
/-! ### loop.example/loom/laws.markQProtoS -/
def sh32_8 : Sh := ⟨[0, 1, 5], [.deep 74 Z1 true, .val (.int .i64), .val (.int .i64)], []⟩
def outs32_8 : List (Ex × Sh) := [((.exit 0), ⟨[0, 1], [.deep 74 Z1 true, .val (.int .i64)], []⟩)]
noncomputable def f32_8 (x : (List S8) × Int × Int × Unit) : Option (((List S8) × Int × Int × Unit) ⊕ ((List S8) × Int × Unit)) :=
 let a3 := x.1
 let k4 := x.2.1
 let i5 := x.2.2.1
 bif (blt i5 (a3.length : Int)) then (
  bif (inR i5 (a3.length : Int)) then (
   (f76 ((a3.getD i5.toNat ([] : List S7)), k4, ())).bind fun r8 =>
   some (.inl ((put9 a3 i5 r8.2.1), r8.1.1, (wr (i5 + (1 : Int))), ())))
  else none)
 else some (.inr (a3, k4, ()))
def ps32 : List VS := [.deep 74 Z1 true, .val (.int .i64)]
def rs32 : List VS := [.val (.int .i64)]
noncomputable def f32 (x : (List S8) × Int × Unit) : Option ((Int × Unit) × ((List S8) × Unit)) :=
 (loopF f32_8 (x.1, x.2.1, (0 : Int), ())).bind fun z10 =>
 some ((z10.2.1, ()), z10.1, ())
/-! ### loop.example/loom/laws.markQuick -/
def ps12 : List VS := [.lent [.deep 74 Z1, .sc (.int .i64)], .val (.int .i64)]
def rs12 : List VS := [.val (.int .i64)]
noncomputable def f12 (x : ((List S8) × Int × Unit) × Int × Unit) : Option ((Int × Unit) × (((List S8) × Int × Unit) × Unit)) :=
 (f32 (x.1.1, x.2.1, ())).bind fun r2 =>
 some ((r2.1.1, ()), (r2.2.1, x.1.2.1, ()), ())
/-! ### loop.example/loom/laws.heldQInsS -/
def sh77_8 : Sh := ⟨[0, 1, 5], [.val (.row Y6), .val (.int .i64), .val (.int .i64)], []⟩
def outs77_8 : List (Ex × Sh) := [((.exit 0), ⟨[1], [.val (.int .i64)], []⟩), (.ret, ⟨[4], [.val (.int .i64)], []⟩)]
noncomputable def f77_8 (x : (List S7) × Int × Int × Unit) : Option (((List S7) × Int × Int × Unit) ⊕ ((Int × Unit) ⊕ (Int × Unit))) :=
 let a3 := x.1
 let k4 := x.2.1
 let i5 := x.2.2.1
 bif (blt i5 (a3.length : Int)) then (
  bif (inR i5 (a3.length : Int)) then (
   bif (bne (a3.getD i5.toNat ((0 : Int), (0 : Int), (0 : Int), (0 : Int), (0 : Int), (0 : Int), (0 : Int))).1 k4) then some (.inr (.inr ((-1 : Int), ())))
   else (
    let v10 := (wr (k4 + (1 : Int)))
    bif (inR i5 (a3.length : Int)) then (
     bif (bne (a3.getD i5.toNat ((0 : Int), (0 : Int), (0 : Int), (0 : Int), (0 : Int), (0 : Int), (0 : Int))).2.1 v10) then some (.inr (.inr ((-1 : Int), ())))
     else (
      let v13 := (wr (v10 + (1 : Int)))
      bif (inR i5 (a3.length : Int)) then (
       bif (bne (a3.getD i5.toNat ((0 : Int), (0 : Int), (0 : Int), (0 : Int), (0 : Int), (0 : Int), (0 : Int))).2.2.1 v13) then some (.inr (.inr ((-1 : Int), ())))
       else (
        let v16 := (wr (v13 + (1 : Int)))
        bif (inR i5 (a3.length : Int)) then (
         bif (bne (a3.getD i5.toNat ((0 : Int), (0 : Int), (0 : Int), (0 : Int), (0 : Int), (0 : Int), (0 : Int))).2.2.2.1 v16) then some (.inr (.inr ((-1 : Int), ())))
         else (
          let v19 := (wr (v16 + (1 : Int)))
          bif (inR i5 (a3.length : Int)) then (
           bif (bne (a3.getD i5.toNat ((0 : Int), (0 : Int), (0 : Int), (0 : Int), (0 : Int), (0 : Int), (0 : Int))).2.2.2.2.1 v19) then some (.inr (.inr ((-1 : Int), ())))
           else (
            let v22 := (wr (v19 + (1 : Int)))
            bif (inR i5 (a3.length : Int)) then (
             bif (bne (a3.getD i5.toNat ((0 : Int), (0 : Int), (0 : Int), (0 : Int), (0 : Int), (0 : Int), (0 : Int))).2.2.2.2.2.1 v22) then some (.inr (.inr ((-1 : Int), ())))
             else (
              let v25 := (wr (v22 + (1 : Int)))
              bif (inR i5 (a3.length : Int)) then (
               bif (bne (a3.getD i5.toNat ((0 : Int), (0 : Int), (0 : Int), (0 : Int), (0 : Int), (0 : Int), (0 : Int))).2.2.2.2.2.2 v25) then some (.inr (.inr ((-1 : Int), ())))
               else some (.inl (a3, (wr (v25 + (1 : Int))), (wr (i5 + (1 : Int))), ())))
              else none))
            else none))
          else none))
        else none))
      else none))
    else none))
  else none)
 else some (.inr (.inl (k4, ())))
def ps77 : List VS := [.val (.row Y6), .val (.int .i64)]
def rs77 : List VS := [.val (.int .i64)]
noncomputable def f77 (x : (List S7) × Int × Unit) : Option ((Int × Unit) × (Unit)) :=
 (loopF f77_8 (x.1, x.2.1, (0 : Int), ())).bind fun y34 => match y34 with
  | .inl z30 => (
   some ((z30.1, ()), ()))
  | .inr z32 => (
   some ((z32.1, ()), ()))
/-! ### loop.example/loom/laws.heldQProtoS -/
def sh33_8 : Sh := ⟨[0, 1, 5], [.val (.row Y7), .val (.int .i64), .val (.int .i64)], []⟩
def outs33_8 : List (Ex × Sh) := [((.exit 0), ⟨[1], [.val (.int .i64)], []⟩), (.ret, ⟨[4], [.val (.int .i64)], []⟩)]
noncomputable def f33_8 (x : (List S8) × Int × Int × Unit) : Option (((List S8) × Int × Int × Unit) ⊕ ((Int × Unit) ⊕ (Int × Unit))) :=
 let a3 := x.1
 let k4 := x.2.1
 let i5 := x.2.2.1
 bif (blt i5 (a3.length : Int)) then (
  bif (inR i5 (a3.length : Int)) then (
   (f77 ((a3.getD i5.toNat ([] : List S7)), k4, ())).bind fun r9 =>
   bif (blt r9.1.1 (0 : Int)) then some (.inr (.inr ((-1 : Int), ())))
   else some (.inl (a3, r9.1.1, (wr (i5 + (1 : Int))), ())))
  else none)
 else some (.inr (.inl (k4, ())))
def ps33 : List VS := [.val (.row Y7), .val (.int .i64)]
def rs33 : List VS := [.val (.int .i64)]
noncomputable def f33 (x : (List S8) × Int × Unit) : Option ((Int × Unit) × (Unit)) :=
 (loopF f33_8 (x.1, x.2.1, (0 : Int), ())).bind fun y16 => match y16 with
  | .inl z12 => (
   some ((z12.1, ()), ()))
  | .inr z14 => (
   some ((z14.1, ()), ()))
/-! ### loop.example/loom/laws.heldQuick -/
def ps13 : List VS := [.val Y8, .val (.int .i64)]
def rs13 : List VS := [.val (.int .i64)]
noncomputable def f13 (x : S27 × Int × Unit) : Option ((Int × Unit) × (Unit)) :=
 (f33 (x.1.1, x.2.1, ())).bind fun r3 =>
 bif (blt r3.1.1 (0 : Int)) then some (((-1 : Int), ()), ())
 else some ((r3.1.1, ()), ())
/-! ### loop.example/loom/laws.FnExactPrepare -/
def ps3 : List VS := [.val Y5]
def rs3 : List VS := [.val .bool]
noncomputable def f3 (x : S25 × Unit) : Option ((Bool × Unit) × (Unit)) :=
 let aC1 := x.1
 (f5 (aC1, (1048576 : Int), ())).bind fun r2 =>
 bif (blt r2.1.1 (0 : Int)) then some ((true, ()), ())
 else (
  (f7 (aC1, ())).bind fun r4 =>
  (f6 (r4.1.1.1, ())).bind fun r5 =>
  (f7 (aC1, ())).bind fun r6 =>
  (f8 (r6.1.1.1, ())).bind fun r7 =>
  (f9 ((r7.1.1.1, r7.1.1.2.1), r5.1.1, ())).bind fun r8 =>
  bif (!r8.1.1) then some ((false, ()), ())
  else (
   (f7 (aC1, ())).bind fun r10 =>
   (f10 (r6.1.1.1, r10.1.1.1, ())).bind fun r11 =>
   bif (!r11.1.1) then some ((false, ()), ())
   else (
    (f11 ((r6.1.1.1, ()), (1 : Int), ())).bind fun r13 =>
    (joinB (blt r13.1.1 (0 : Int)) (some true) ((f9 ((r7.1.1.1, r7.1.1.2.1), r5.1.1, ())).bind fun r15 => (some (!r15.1.1)))).bind fun c16 =>
    bif c16 then some ((false, ()), ())
    else (
     (f12 ((r7.1.1.1, r7.1.1.2.1, ()), (1 : Int), ())).bind fun r17 =>
     (f13 ((r17.2.1.1, r7.1.1.2.1), (1 : Int), ())).bind fun r18 =>
     bif (blt r18.1.1 (0 : Int)) then some ((false, ()), ())
     else bif (bne r18.1.1 r17.1.1) then some ((false, ()), ())
     else (
      (f7 (aC1, ())).bind fun r21 =>
      (f8 (r21.1.1.1, ())).bind fun r22 =>
      (f9 ((r22.1.1.1, r22.1.1.2.1), r5.1.1, ())).bind fun r23 =>
      bif (!r23.1.1) then some ((false, ()), ())
      else (
       (f13 ((r17.2.1.1, r7.1.1.2.1), (1 : Int), ())).bind fun r25 =>
       bif (blt r25.1.1 (0 : Int)) then some ((false, ()), ())
       else bif (bne r25.1.1 r17.1.1) then some ((false, ()), ())
       else some ((true, ()), ())))))))
end Go.Ev.L6
