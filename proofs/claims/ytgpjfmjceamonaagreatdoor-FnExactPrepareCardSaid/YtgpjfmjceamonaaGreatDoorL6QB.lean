/-
 The law FnExactPrepare in plain terms: what an instruction reads.
-/
import Derived.Test.YtgpjfmjceamonaaGreatDoorL6QA
namespace Go.Ev.L6
open Go.Proofs
/-! ### The program's way -/
def isPl (r : Int) : Bool := beq r 4 || (beq r 5 || beq r 6)
def opq (x : Int) : Int := bif blt x 0 then wr (-1 - x) else x
def heldT (n : S2) (k : Nat) (q : Int) (e : Nat) : Option Unit := bif (blt (e : Int) (k : Int) && isPl (ro n.1 e)) && beq (fl n e) q then some () else none
def upT2 (ts : List Int) (us : List S0) (j : Nat) : Option Unit := bif (us.getD j U0).1 && bne (ts.getD (us.getD j U0).2.toNat 0) 2 then some () else none
def upl (c : S25) (x : Int) (ts : List Int) : Bool := (fnd (upT2 ts (c.getD x.toNat P0).2.2.2.2.2.1) (c.getD x.toNat P0).2.2.2.2.2.1.length 0).isNone
def rdI (c : S25) (n : S2) (k : Nat) (t : List Int × List Int) : (List Int × List Int) ⊕ Unit :=
 bif beq (ro n.1 k) 2 || beq (ro n.1 k) 3 then
  bif bne (t.1.getD (opq (fl n k)).toNat 0) (bif beq (ro n.1 k) 3 then 3 else 1) then .inr ()
  else bif blt (fl n k) 0 then
   (match fnd (heldT n k (opq (fl n k))) 4 0 with
    | some _ => .inr ()
    | none => .inl (t.1.set (opq (fl n k)).toNat 0, t.2 ++ [opq (fl n k)]))
  else .inl t
 else bif beq (ro n.1 k) 4 then bif beq (t.1.getD (fl n k).toNat 0) 1 then .inl t else .inr ()
 else bif beq (ro n.1 k) 5 then bif beq (t.1.getD (fl n k).toNat 0) 2 then .inl t else .inr ()
 else bif beq (ro n.1 k) 6 then bif beq (t.1.getD (fl n k).toNat 0) 3 then .inl t else .inr ()
 else bif beq (ro n.1 k) 18 then bif beq (t.1.getD (fl n k).toNat 0) 1 && (beq (t.1.getD (fl n k + 1).toNat 0) 1 && beq (t.1.getD (fl n k + 2).toNat 0) 1) then .inl t else .inr ()
 else bif beq (ro n.1 k) 19 then bif beq (t.1.getD (fl n k).toNat 0) 1 && beq (t.1.getD (fl n k + 1).toNat 0) 0 then .inl t else .inr ()
 else bif beq (ro n.1 k) 20 then bif beq (t.1.getD (fl n k).toNat 0) 1 && beq (t.1.getD (fl n k + 1).toNat 0) 1 then .inl t else .inr ()
 else bif beq (ro n.1 k) 11 then bif upl c (fl n k) t.1 then .inl t else .inr ()
 else .inl t
abbrev roT (op : Int) : S28 := ((tlook tbl1 op).getD 0 0, (tlook tbl1 op).getD 1 0, (tlook tbl1 op).getD 2 0, (tlook tbl1 op).getD 3 0)
theorem ro4 (op : Int) {k : Nat} (hk : k < 4) : [(tlook tbl1 op).getD 0 0, (tlook tbl1 op).getD 1 0, (tlook tbl1 op).getD 2 0, (tlook tbl1 op).getD 3 0].getD k 0 = ro op k := by
 have hk' : k = 0 ∨ k = 1 ∨ k = 2 ∨ k = 3 := by omega
 rcases hk' with rfl | rfl | rfl | rfl <;> rfl
theorem fl4 (n : S2) (k : Nat) : [n.2.1, n.2.2.1, n.2.2.2.1, n.2.2.2.2].getD k 0 = fl n k := rfl
theorem f131_88_loop (at1 : Int) (c : S25) (s : S6) (n : S2) (b : Bool) (ts : List Int) (gs : List S4) (tk : List Int) (k : Nat) (m : List (Int × Int)) (q : Int) (v : S28) (v2 : Int) :
  loopF f131_88 (at1, (c, ()), (s, ()), (n, ()), (b, ts, gs, ()), tk, (k : Int), m, q, v, v2, roT n.1, (0 : Int), ()) = some (match fnd (heldT n k q) 4 0 with | none => .inl (at1, (c, ()), (s, ()), (n, ()), (b, ts, gs, ()), tk, m, q, v, v2, ()) | some _ => .inr (10, [], ())) := by
 refine loop_fnd0 (body := f131_88) (fun e => (at1, (c, ()), (s, ()), (n, ()), (b, ts, gs, ()), tk, (k : Int), m, q, v, v2, roT n.1, (e : Int), ())) (fun o : Option Unit => match o with | none => .inl (at1, (c, ()), (s, ()), (n, ()), (b, ts, gs, ()), tk, m, q, v, v2, ()) | some _ => .inr (10, [], ())) (heldT n k q) 4 (fun e he => ?_) ?_
 ·simp only [f131_88, f169, Int.toNat_natCast, Option.bind_some]
  rw [show (4 : Int) = ((4 : Nat) : Int) from rfl, blt_nat he, inR_nat he, wr_succ he (by omega), ro4 _ he, fl4]
  simp only [cond_true, jB, Option.bind_some, heldT, isPl]
  cases (blt (e : Int) (k : Int) && (beq (ro n.1 e) ((4 : Nat) : Int) || (beq (ro n.1 e) 5 || beq (ro n.1 e) 6))) <;> cases beq (fl n e) q <;> rfl
 ·simp only [f131_88]
  rfl
theorem f131_172_loop (at1 : Int) (c : S25) (s : S6) (n : S2) (b : Bool) (ts : List Int) (gs : List S4) (tk : List Int) (m : List (Int × Int)) (v : S28) (v2 : Int) (us : List S0) (hl : us.length ≤ 1048576) (hu : ∀ u, u ∈ us → u.1 = true → 0 ≤ u.2 ∧ u.2 < (ts.length : Int)) :
  loopF f131_172 (at1, (c, ()), (s, ()), (n, ()), (b, ts, gs, ()), tk, m, v, v2, us, (us.length : Int), (0 : Int), ()) = some (match fnd (upT2 ts us) us.length 0 with | none => .inl (at1, (c, ()), (s, ()), (n, ()), (b, ts, gs, ()), tk, m, v, v2, ()) | some _ => .inr (10, [], ())) := by
 refine loop_fnd0 (body := f131_172) (fun e => (at1, (c, ()), (s, ()), (n, ()), (b, ts, gs, ()), tk, m, v, v2, us, (us.length : Int), (e : Int), ())) (fun o : Option Unit => match o with | none => .inl (at1, (c, ()), (s, ()), (n, ()), (b, ts, gs, ()), tk, m, v, v2, ()) | some _ => .inr (10, [], ())) (upT2 ts us) us.length (fun e he => ?_) ?_
 ·have hu' := hu _ (getD_mem (d := U0) he)
  simp only [f131_172, Int.toNat_natCast]
  rw [blt_nat he, inR_nat he, wr_succ he hl]
  simp only [cond_true, upT2]
  generalize us.getD e U0 = u at hu'
  cases h1 : u.1 with
  | true =>
   obtain ⟨a, b⟩ := hu' h1
   rw [inR_true a b]
   simp only [cond_true, jB, Option.bind_some, Bool.true_and]
   cases bne (ts.getD u.2.toNat 0) 2 <;> rfl
  | false =>
   rw [joinB_eq]
   rfl
 ·simp only [f131_172]
  rw [blt_not]
  rfl
/-! ### Bounds of fields -/
theorem fokP {c : S25} {p : S9} {r x : Int} (hR : 0 ≤ p.2.2.2.2.1 ∧ p.2.2.2.2.1 ≤ 250) (hr : r = 1 ∨ r = 4 ∨ r = 5 ∨ r = 6) (h : fok c p r x = true) : 0 ≤ x ∧ x < p.2.2.2.2.1 := by
 have h' : (ble 0 x && ble x (wr (p.2.2.2.2.1 - 1))) = true := by
  rcases hr with rfl | rfl | rfl | rfl <;> exact h
 rw [Bool.and_eq_true, ble_iff, ble_iff, wr_eq (by omega) (by omega)] at h'
 omega
theorem fokV {c : S25} {p : S9} {r x : Int} (hR : 0 ≤ p.2.2.2.2.1 ∧ p.2.2.2.2.1 ≤ 250) (hr : r = 2 ∨ r = 3) (h : fok c p r x = true) : 0 ≤ opq x ∧ opq x < p.2.2.2.2.1 := by
 have h' : (ble 0 (opq x) && ble (opq x) (wr (p.2.2.2.2.1 - 1))) = true := by
  rcases hr with rfl | rfl <;> exact h
 rw [Bool.and_eq_true, ble_iff, ble_iff, wr_eq (by omega) (by omega)] at h'
 omega
theorem fok18 {c : S25} {p : S9} {x : Int} (hR : 0 ≤ p.2.2.2.2.1 ∧ p.2.2.2.2.1 ≤ 250) (h : fok c p 18 x = true) : 0 ≤ x ∧ x + 2 < p.2.2.2.2.1 := by
 have h' : (ble 0 x && ble x (wr (p.2.2.2.2.1 - 3))) = true := h
 rw [Bool.and_eq_true, ble_iff, ble_iff, wr_eq (by omega) (by omega)] at h'
 omega
theorem fokT {c : S25} {p : S9} {r x : Int} (hR : 0 ≤ p.2.2.2.2.1 ∧ p.2.2.2.2.1 ≤ 250) (hr : r = 17 ∨ r = 19 ∨ r = 20) (h : fok c p r x = true) : 0 ≤ x ∧ x + 1 < p.2.2.2.2.1 := by
 have h' : (ble 0 x && ble x (wr (p.2.2.2.2.1 - 2))) = true := by
  rcases hr with rfl | rfl | rfl <;> exact h
 rw [Bool.and_eq_true, ble_iff, ble_iff, wr_eq (by omega) (by omega)] at h'
 omega
theorem fok12 {c : S25} {p : S9} {x : Int} (hl : p.2.2.2.2.2.2.2.1.length ≤ 1048576) (h : fok c p 12 x = true) : 0 ≤ x ∧ x < (p.2.2.2.2.2.2.2.1.length : Int) := by
 have h' : (ble 0 x && ble x (wr ((p.2.2.2.2.2.2.2.1.length : Int) - 1))) = true := h
 rw [Bool.and_eq_true, ble_iff, ble_iff, wr_eq (by omega) (by omega)] at h'
 omega
theorem fok16 {c : S25} {p : S9} {x : Int} (h : fok c p 16 x = true) : 0 ≤ x ∧ x ≤ p.2.2.2.2.1 := by
 have h' : (ble 0 x && ble x p.2.2.2.2.1) = true := h
 rw [Bool.and_eq_true, ble_iff, ble_iff] at h'
 exact h'
/-! ### A field, the program's way -/
theorem mapChk1 {ts : List Int} {x v : Int} (h : inR x (ts.length : Int) = true) : mapChk ts [(x, v)] = some (beq (ts.getD x.toNat 0) v) := by
 unfold mapChk
 simp only [List.all_cons, List.all_nil, Bool.and_true]
 rw [h]
 rfl
theorem mapChk2 {ts : List Int} {x v y w : Int} (h : inR x (ts.length : Int) = true) (h2 : inR y (ts.length : Int) = true) : mapChk ts [(x, v), (y, w)] = some (beq (ts.getD x.toNat 0) v && beq (ts.getD y.toNat 0) w) := by
 unfold mapChk
 simp only [List.all_cons, List.all_nil, Bool.and_true]
 rw [h, h2]
 rfl
theorem mapChk3 {ts : List Int} {x v y w z u : Int} (h : inR x (ts.length : Int) = true) (h2 : inR y (ts.length : Int) = true) (h3 : inR z (ts.length : Int) = true) : mapChk ts [(x, v), (y, w), (z, u)] = some (beq (ts.getD x.toNat 0) v && (beq (ts.getD y.toNat 0) w && beq (ts.getD z.toNat 0) u)) := by
 unfold mapChk
 simp only [List.all_cons, List.all_nil, Bool.and_true]
 rw [h, h2, h3]
 rfl
theorem mapChk0 (ts : List Int) : mapChk ts [] = some true := rfl
theorem mupd1 {k k' v v' : Int} (h : k ≠ k') (r : List (Int × Int)) : mupd ((k, v) :: r) k' v' = (k, v) :: mupd r k' v' := by
 rw [mupd, show (k == k') = false from beq_eq_false_iff_ne.2 h]
 rfl
theorem ro_dec (r : Int) : (beq r 2 || beq r 3) = true ∨ r = 4 ∨ r = 5 ∨ r = 6 ∨ r = 18 ∨ r = 19 ∨ r = 20 ∨ r = 11 ∨ ((beq r 2 || beq r 3) = false ∧ beq r 4 = false ∧ beq r 5 = false ∧ beq r 6 = false ∧ beq r 18 = false ∧ beq r 19 = false ∧ beq r 20 = false ∧ beq r 11 = false) := by
 have h : ∀ a : Int, beq r a = true ∨ beq r a = false := fun a => by cases beq r a <;> simp
 rcases h 4 with h4 | h4
 ·exact .inr (.inl (beq_iff.1 h4))
 rcases h 5 with h5 | h5
 ·exact .inr (.inr (.inl (beq_iff.1 h5)))
 rcases h 6 with h6 | h6
 ·exact .inr (.inr (.inr (.inl (beq_iff.1 h6))))
 rcases h 18 with h7 | h7
 ·exact .inr (.inr (.inr (.inr (.inl (beq_iff.1 h7)))))
 rcases h 19 with h8 | h8
 ·exact .inr (.inr (.inr (.inr (.inr (.inl (beq_iff.1 h8))))))
 rcases h 20 with h9 | h9
 ·exact .inr (.inr (.inr (.inr (.inr (.inr (.inl (beq_iff.1 h9)))))))
 rcases h 11 with h10 | h10
 ·exact .inr (.inr (.inr (.inr (.inr (.inr (.inr (.inl (beq_iff.1 h10))))))))
 cases h2 : (beq r 2 || beq r 3) with
 | true => exact .inl rfl
 | false => exact .inr (.inr (.inr (.inr (.inr (.inr (.inr (.inr ⟨rfl, h4, h5, h6, h7, h8, h9, h10⟩)))))))
theorem nle_app {α : Type} {l : List α} {x : α} {k N : Nat} (h : l.length ≤ k) (hk : k + 1 ≤ N) : nle (l.length + [x].length) N = true := nle_true (by simp only [List.length_cons, List.length_nil]; omega)
theorem f131_20_step (at1 : Int) (c : S25) (s : S6) (p : S9) (n : S2) (b : Bool) (ts : List Int) (gs : List S4) (tk : List Int) (k : Nat) (hk : k < 4)
  (hn : IN c p n) (hR : 0 ≤ p.2.2.2.2.1 ∧ p.2.2.2.2.1 ≤ 250) (hts : (ts.length : Int) = p.2.2.2.2.1) (htk : tk.length ≤ k) (hc : c.length ≤ 1048576) (hus : ∀ p, p ∈ c → p.2.2.2.2.2.1.length ≤ 1048576) :
  f131_20 (at1, (c, ()), (s, ()), (n, ()), (b, ts, gs, ()), tk, roT n.1, (k : Int), ()) = some (match rdI c n k (ts, tk) with | .inl t => .inl (at1, (c, ()), (s, ()), (n, ()), (b, t.1, gs, ()), t.2, roT n.1, ((k + 1 : Nat) : Int), ()) | .inr _ => .inr (.inr (10, [], ()))) := by
 have hfo := hn.fo k hk
 simp only [f131_20, f169, Int.toNat_natCast, Option.bind_some]
 rw [show (4 : Int) = ((4 : Nat) : Int) from rfl, blt_nat hk, inR_nat hk, ro4 _ hk, fl4]
 simp only [cond_true]
 have h4' : ∀ r : Int, beq r ((4 : Nat) : Int) = beq r 4 := fun _ => rfl
 simp only [h4']
 unfold rdI
 have hx : I64 (fl n k) := fl_b hn.nb k
 rcases ro_dec (ro n.1 k) with h | h | h | h | h | h | h | h | ⟨h2, h4, h5, h6, h7, h8, h9, h10⟩
 · -- an operand
  have hr : ro n.1 k = 2 ∨ ro n.1 k = 3 := by
   rw [Bool.or_eq_true, beq_iff, beq_iff] at h
   exact h
  obtain ⟨q0, q1⟩ := fokV hR hr hfo
  rw [h]
  simp only [cond_true]
  rw [show (bif blt (fl n k) 0 then wr (-1 - fl n k) else fl n k) = opq (fl n k) from rfl, inR_true q0 (by omega)]
  simp only [cond_true]
  cases hb : bne (ts.getD (opq (fl n k)).toNat 0) (bif beq (ro n.1 k) 3 then 3 else 1) with
  | true => rfl
  | false =>
   simp only [cond_false]
   cases hl : blt (fl n k) 0 with
   | true =>
    simp only [cond_true]
    rw [f131_88_loop]
    cases fnd (heldT n k (opq (fl n k))) 4 0 with
    | some _ => rfl
    | none =>
     simp only [Option.bind_some]
     rw [inR_true q0 (by omega), nle_app htk (by omega)]
     simp only [cond_true, f131_195, mapChk0, Option.bind_some]
     rw [wr_succ hk (by omega)]
   | false =>
    simp only [cond_false, f131_195, mapChk0, Option.bind_some, cond_true]
    rw [wr_succ hk (by omega)]
 ·rw [h] at hfo
  obtain ⟨q0, q1⟩ := fokP hR (.inr (.inl rfl)) hfo
  rw [h]
  simp only [show (beq 4 2 || beq 4 3) = false from rfl, show beq 4 4 = true from rfl, cond_true, cond_false]
  simp only [f131_195, mupd]
  rw [mapChk1 (inR_true q0 (by omega))]
  cases beq (ts.getD (fl n k).toNat 0) 1 with
  | true =>
   simp only [Option.bind_some, cond_true]
   rw [wr_succ hk (by omega)]
  | false => rfl
 ·rw [h] at hfo
  obtain ⟨q0, q1⟩ := fokP hR (.inr (.inr (.inl rfl))) hfo
  rw [h]
  simp only [show (beq 5 2 || beq 5 3) = false from rfl, show beq 5 4 = false from rfl, show beq 5 5 = true from rfl, cond_true, cond_false]
  simp only [f131_195, mupd]
  rw [mapChk1 (inR_true q0 (by omega))]
  cases beq (ts.getD (fl n k).toNat 0) 2 with
  | true =>
   simp only [Option.bind_some, cond_true]
   rw [wr_succ hk (by omega)]
  | false => rfl
 ·rw [h] at hfo
  obtain ⟨q0, q1⟩ := fokP hR (.inr (.inr (.inr rfl))) hfo
  rw [h]
  simp only [show (beq 6 2 || beq 6 3) = false from rfl, show beq 6 4 = false from rfl, show beq 6 5 = false from rfl, show beq 6 6 = true from rfl, cond_true, cond_false]
  simp only [f131_195, mupd]
  rw [mapChk1 (inR_true q0 (by omega))]
  cases beq (ts.getD (fl n k).toNat 0) 3 with
  | true =>
   simp only [Option.bind_some, cond_true]
   rw [wr_succ hk (by omega)]
  | false => rfl
 ·rw [h] at hfo
  obtain ⟨q0, q1⟩ := fok18 hR hfo
  rw [h]
  simp only [show (beq 18 2 || beq 18 3) = false from rfl, show beq 18 4 = false from rfl, show beq 18 5 = false from rfl, show beq 18 6 = false from rfl, show beq 18 18 = true from rfl, cond_true, cond_false]
  rw [wr_eq (n := fl n k + 1) (by omega) (by omega), wr_eq (n := fl n k + 2) (by omega) (by omega)]
  rw [show mupd (mupd (mupd [] (fl n k) 1) (fl n k + 1) 1) (fl n k + 2) 1 = [(fl n k, 1), (fl n k + 1, 1), (fl n k + 2, 1)] from by
   rw [show mupd [] (fl n k) 1 = [(fl n k, 1)] from rfl, mupd1 (by omega), show mupd [] (fl n k + 1) 1 = [(fl n k + 1, 1)] from rfl, mupd1 (by omega), mupd1 (by omega)]
   rfl]
  simp only [f131_195]
  rw [mapChk3 (inR_true q0 (by omega)) (inR_true (by omega) (by omega)) (inR_true (by omega) (by omega))]
  cases (beq (ts.getD (fl n k).toNat 0) 1 && (beq (ts.getD (fl n k + 1).toNat 0) 1 && beq (ts.getD (fl n k + 2).toNat 0) 1)) with
  | true =>
   simp only [Option.bind_some, cond_true]
   rw [wr_succ hk (by omega)]
  | false => rfl
 ·rw [h] at hfo
  obtain ⟨q0, q1⟩ := fokT hR (.inr (.inl rfl)) hfo
  rw [h]
  simp only [show (beq 19 2 || beq 19 3) = false from rfl, show beq 19 4 = false from rfl, show beq 19 5 = false from rfl, show beq 19 6 = false from rfl, show beq 19 18 = false from rfl, show beq 19 19 = true from rfl, cond_true, cond_false]
  rw [wr_eq (n := fl n k + 1) (by omega) (by omega)]
  rw [show mupd (mupd [] (fl n k) 1) (fl n k + 1) 0 = [(fl n k, 1), (fl n k + 1, 0)] from by
   rw [show mupd [] (fl n k) 1 = [(fl n k, 1)] from rfl, mupd1 (by omega)]
   rfl]
  simp only [f131_195]
  rw [mapChk2 (inR_true q0 (by omega)) (inR_true (by omega) (by omega))]
  cases (beq (ts.getD (fl n k).toNat 0) 1 && beq (ts.getD (fl n k + 1).toNat 0) 0) with
  | true =>
   simp only [Option.bind_some, cond_true]
   rw [wr_succ hk (by omega)]
  | false => rfl
 ·rw [h] at hfo
  obtain ⟨q0, q1⟩ := fokT hR (.inr (.inr rfl)) hfo
  rw [h]
  simp only [show (beq 20 2 || beq 20 3) = false from rfl, show beq 20 4 = false from rfl, show beq 20 5 = false from rfl, show beq 20 6 = false from rfl, show beq 20 18 = false from rfl, show beq 20 19 = false from rfl, show beq 20 20 = true from rfl, cond_true, cond_false]
  rw [wr_eq (n := fl n k + 1) (by omega) (by omega)]
  rw [show mupd (mupd [] (fl n k) 1) (fl n k + 1) 1 = [(fl n k, 1), (fl n k + 1, 1)] from by
   rw [show mupd [] (fl n k) 1 = [(fl n k, 1)] from rfl, mupd1 (by omega)]
   rfl]
  simp only [f131_195]
  rw [mapChk2 (inR_true q0 (by omega)) (inR_true (by omega) (by omega))]
  cases (beq (ts.getD (fl n k).toNat 0) 1 && beq (ts.getD (fl n k + 1).toNat 0) 1) with
  | true =>
   simp only [Option.bind_some, cond_true]
   rw [wr_succ hk (by omega)]
  | false => rfl
 ·have h0 := h
  rw [h] at hfo
  obtain ⟨q0, q1⟩ := fok11 hc hfo
  have ht := tab_ok hn.th hk
  unfold tabP at ht
  simp only [Bool.and_eq_true, Bool.or_eq_true, decide_eq_true_eq, Bool.not_eq_true', decide_eq_false_iff_not] at ht
  have h11 : n.1 = 11 ∧ k = 1 := by
   rcases ht.1.2 with h' | h'
   ·exact absurd h h'
   ·exact h'
  obtain ⟨h11, rfl⟩ := h11
  have hfl : fl n 1 = n.2.2.1 := rfl
  rw [hfl] at q0 q1 ⊢
  rw [h]
  simp only [show (beq 11 2 || beq 11 3) = false from rfl, show beq 11 4 = false from rfl, show beq 11 5 = false from rfl, show beq 11 6 = false from rfl, show beq 11 18 = false from rfl, show beq 11 19 = false from rfl, show beq 11 20 = false from rfl, show beq 11 11 = true from rfl, cond_true, cond_false]
  rw [inR_true q0 q1]
  simp only [cond_true]
  rw [f131_172_loop _ _ _ _ _ _ _ _ _ _ _ _ (hus _ (getD_mem (by omega))) (fun u hu h1 => by rw [hts]; exact hn.up h11 u hu h1)]
  unfold upl
  cases fnd (upT2 ts (c.getD n.2.2.1.toNat P0).2.2.2.2.2.1) (c.getD n.2.2.1.toNat P0).2.2.2.2.2.1.length 0 with
  | none =>
   simp only [Option.bind_some, f131_195, mapChk0, cond_true]
   rw [wr_succ hk (by omega)]
   rfl
  | some _ => rfl
 ·rw [h2, h4, h5, h6, h7, h8, h9, h10]
  simp only [cond_false, f131_195, mapChk0, Option.bind_some, cond_true]
  rw [wr_succ hk (by omega)]
end Go.Ev.L6
namespace Go.Ev.L6
open Go.Proofs
theorem rdI_inv {c : S25} {n : S2} {k : Nat} {t t' : List Int × List Int} (h : rdI c n k t = .inl t') : t'.1.length = t.1.length ∧ t'.2.length ≤ t.2.length + 1 := by
 unfold rdI at h
 cases h1 : (beq (ro n.1 k) 2 || beq (ro n.1 k) 3) <;> rw [h1] at h <;> simp only [cond_true, cond_false] at h
 ·cases h2 : beq (ro n.1 k) 4 <;> rw [h2] at h <;> simp only [cond_true, cond_false] at h
  ·cases h3 : beq (ro n.1 k) 5 <;> rw [h3] at h <;> simp only [cond_true, cond_false] at h
   ·cases h4 : beq (ro n.1 k) 6 <;> rw [h4] at h <;> simp only [cond_true, cond_false] at h
    ·cases h5 : beq (ro n.1 k) 18 <;> rw [h5] at h <;> simp only [cond_true, cond_false] at h
     ·cases h6 : beq (ro n.1 k) 19 <;> rw [h6] at h <;> simp only [cond_true, cond_false] at h
      ·cases h7 : beq (ro n.1 k) 20 <;> rw [h7] at h <;> simp only [cond_true, cond_false] at h
       ·cases h8 : beq (ro n.1 k) 11 <;> rw [h8] at h <;> simp only [cond_true, cond_false] at h
        ·cases h
         exact ⟨rfl, Nat.le_succ _⟩
        ·revert h
         cases upl c (fl n k) t.1 <;> intro h <;> cases h
         exact ⟨rfl, Nat.le_succ _⟩
       ·revert h
        cases (beq (t.1.getD (fl n k).toNat 0) 1 && beq (t.1.getD (fl n k + 1).toNat 0) 1) <;> intro h <;> cases h
        exact ⟨rfl, Nat.le_succ _⟩
      ·revert h
       cases (beq (t.1.getD (fl n k).toNat 0) 1 && beq (t.1.getD (fl n k + 1).toNat 0) 0) <;> intro h <;> cases h
       exact ⟨rfl, Nat.le_succ _⟩
     ·revert h
      cases (beq (t.1.getD (fl n k).toNat 0) 1 && (beq (t.1.getD (fl n k + 1).toNat 0) 1 && beq (t.1.getD (fl n k + 2).toNat 0) 1)) <;> intro h <;> cases h
      exact ⟨rfl, Nat.le_succ _⟩
    ·revert h
     cases beq (t.1.getD (fl n k).toNat 0) 3 <;> intro h <;> cases h
     exact ⟨rfl, Nat.le_succ _⟩
   ·revert h
    cases beq (t.1.getD (fl n k).toNat 0) 2 <;> intro h <;> cases h
    exact ⟨rfl, Nat.le_succ _⟩
  ·revert h
   cases beq (t.1.getD (fl n k).toNat 0) 1 <;> intro h <;> cases h
   exact ⟨rfl, Nat.le_succ _⟩
 ·cases h2 : bne (t.1.getD (opq (fl n k)).toNat 0) (bif beq (ro n.1 k) 3 then 3 else 1) <;> rw [h2] at h <;> simp only [cond_true, cond_false] at h
  ·cases h3 : blt (fl n k) 0 <;> rw [h3] at h <;> simp only [cond_true, cond_false] at h
   ·cases h
    exact ⟨rfl, Nat.le_succ _⟩
   ·cases h4 : fnd (heldT n k (opq (fl n k))) 4 0 <;> rw [h4] at h <;> cases h
    exact ⟨List.length_set, by simp⟩
  ·cases h
theorem f131_20_loop (at1 : Int) (c : S25) (s : S6) (p : S9) (n : S2) (b : Bool) (ts : List Int) (gs : List S4)
  (hn : IN c p n) (hR : 0 ≤ p.2.2.2.2.1 ∧ p.2.2.2.2.1 ≤ 250) (hts : (ts.length : Int) = p.2.2.2.2.1) (hc : c.length ≤ 1048576) (hus : ∀ p, p ∈ c → p.2.2.2.2.2.1.length ≤ 1048576) :
  loopF f131_20 (at1, (c, ()), (s, ()), (n, ()), (b, ts, gs, ()), [], roT n.1, (0 : Int), ()) = some (match run (rdI c n) 4 0 (ts, []) with | .inl t => .inl (at1, (s, ()), (n, ()), (b, t.1, gs, ()), t.2, ()) | .inr _ => .inr (10, [], ())) := by
 refine loop_run (body := f131_20) (mk := fun k (t : List Int × List Int) => (at1, (c, ()), (s, ()), (n, ()), (b, t.1, gs, ()), t.2, roT n.1, (k : Int), ())) (fin := fun o : (List Int × List Int) ⊕ Unit => match o with | .inl t => .inl (at1, (s, ()), (n, ()), (b, t.1, gs, ()), t.2, ()) | .inr _ => .inr (10, [], ())) (step := rdI c n) (I := fun k t => t.1.length = ts.length ∧ t.2.length ≤ k) (n := 4) (fun k t hk ht => ?_) (fun k t t' hk ht h => ?_) (fun t _ => ?_) 4 0 (ts, []) (by omega) ⟨rfl, Nat.le_refl _⟩
 ·show f131_20 (at1, (c, ()), (s, ()), (n, ()), (b, t.1, gs, ()), t.2, roT n.1, (k : Int), ()) = _
  rw [f131_20_step at1 c s p n b t.1 gs t.2 k hk hn hR (by rw [ht.1]; exact hts) ht.2 hc hus]
  cases rdI c n k (t.1, t.2) <;> rfl
 ·have := rdI_inv h
  exact ⟨by rw [this.1, ht.1], by omega⟩
 ·simp only [f131_20]
  rfl
/-! ### The specification's way -/
def stT (st : List Int) (q : Int) (j : Nat) : Option Unit := bif beq (st.getD j 0) q then some () else none
abbrev T3 := List Int × List Int × List Int
def rdS (n : S2) (k : Nat) (t : T3) : T3 ⊕ List Int :=
 bif beq ((sro n.1).getD k 0) 2 || beq ((sro n.1).getD k 0) 3 then
  bif bne (t.1.getD (opq (fl n k)).toNat 0) (bif beq ((sro n.1).getD k 0) 3 then 3 else 1) then .inr t.1
  else bif blt (fl n k) 0 then
   (match fnd (stT t.2.2 (opq (fl n k))) t.2.2.length 0 with
    | some _ => .inr t.1
    | none => .inl (t.1.set (opq (fl n k)).toNat 0, t.2.1 ++ [opq (fl n k)], t.2.2))
  else .inl t
 else bif beq ((sro n.1).getD k 0) 4 then bif beq (t.1.getD (fl n k).toNat 0) 1 then .inl (t.1, t.2.1, t.2.2 ++ [fl n k]) else .inr t.1
 else bif beq ((sro n.1).getD k 0) 5 then bif beq (t.1.getD (fl n k).toNat 0) 2 then .inl (t.1, t.2.1, t.2.2 ++ [fl n k]) else .inr t.1
 else bif beq ((sro n.1).getD k 0) 6 then bif beq (t.1.getD (fl n k).toNat 0) 3 then .inl (t.1, t.2.1, t.2.2 ++ [fl n k]) else .inr t.1
 else bif beq ((sro n.1).getD k 0) 18 then bif beq (t.1.getD (fl n k).toNat 0) 1 && (beq (t.1.getD (fl n k + 1).toNat 0) 1 && beq (t.1.getD (fl n k + 2).toNat 0) 1) then .inl (t.1, t.2.1, t.2.2 ++ [fl n k]) else .inr t.1
 else bif beq ((sro n.1).getD k 0) 19 then bif beq (t.1.getD (fl n k).toNat 0) 1 && beq (t.1.getD (fl n k + 1).toNat 0) 0 then .inl (t.1, t.2.1 ++ [fl n k], t.2.2 ++ [fl n k]) else .inr t.1
 else bif beq ((sro n.1).getD k 0) 20 then bif beq (t.1.getD (fl n k).toNat 0) 1 && beq (t.1.getD (fl n k + 1).toNat 0) 1 then .inl (t.1, t.2.1, t.2.2 ++ [fl n k]) else .inr t.1
 else .inl t
theorem f115_64_loop (c : S25) (pi : Int) (n : S2) (ts : List Int) (tk st : List Int) (rs : List Int) (v37 q : Int) (fs : List Int) (v40 v41 : Int) (hl : st.length ≤ 1048576) :
  loopF f115_64 (c, pi, n, ts, (c, ()), (n, ()), tk, st, rs, v37, q, fs, v40, v41, (st.length : Int), (0 : Int), ()) = some (match fnd (stT st q) st.length 0 with | none => .inl (c, pi, n, ts, (c, ()), (n, ()), tk, st, rs, v37, q, fs, v40, v41, ()) | some _ => .inr (c, pi, n, ts, [], false, ())) := by
 refine loop_fnd0 (body := f115_64) (fun e => (c, pi, n, ts, (c, ()), (n, ()), tk, st, rs, v37, q, fs, v40, v41, (st.length : Int), (e : Int), ())) (fun o : Option Unit => match o with | none => .inl (c, pi, n, ts, (c, ()), (n, ()), tk, st, rs, v37, q, fs, v40, v41, ()) | some _ => .inr (c, pi, n, ts, [], false, ())) (stT st q) st.length (fun e he => ?_) ?_
 ·simp only [f115_64, Int.toNat_natCast]
  rw [blt_nat he, inR_nat he, wr_succ he hl]
  simp only [cond_true, stT]
  cases beq (st.getD e 0) q <;> rfl
 ·simp only [f115_64]
  rw [blt_not]
  rfl
/-- One more place, and the next. -/
theorem f115_124_stop (c : S25) (pi : Int) (n : S2) (ts tk st rs : List Int) (v73 x m d : Int) (fs : List Int) (v78 v79 : Int) (h : ble d m = false) :
  loopF f115_124 (c, pi, n, ts, (c, ()), (n, ()), tk, st, rs, v73, x, m, d, fs, v78, v79, ()) = some (.inl (c, pi, n, ts, (c, ()), (n, ()), tk, st, rs, v73, x, fs, v78, v79, ())) := by
 rw [loopF_step]
 simp only [f115_124]
 rw [h]
 rfl
theorem f115_124_go (c : S25) (pi : Int) (n : S2) (ts tk st rs : List Int) (v73 x m d : Int) (fs : List Int) (v78 v79 : Int) (h : ble d m = true) (hd : 0 ≤ d ∧ d ≤ 5) (hx : inR (x + d) (ts.length : Int) = true) (hx0 : 0 ≤ x ∧ x ≤ 250) :
  loopF f115_124 (c, pi, n, ts, (c, ()), (n, ()), tk, st, rs, v73, x, m, d, fs, v78, v79, ()) = bif beq (ts.getD (x + d).toNat 0) 1 then loopF f115_124 (c, pi, n, ts, (c, ()), (n, ()), tk, st, rs, v73, x, m, d + 1, fs, v78, v79, ()) else some (.inr (c, pi, n, ts, [], false, ())) := by
 rw [loopF_step]
 simp only [f115_124]
 rw [h, wr_eq (n := x + d) (by omega) (by omega), wr_eq (n := d + 1) (by omega) (by omega), hx, bne_not]
 simp only [cond_true]
 cases beq (ts.getD (x + d).toNat 0) 1 <;> rfl
theorem f115_20_step (c : S25) (pi : Int) (p : S9) (n : S2) (ts tk st : List Int) (k : Nat) (hk : k < 4)
  (hn : IN c p n) (hR : 0 ≤ p.2.2.2.2.1 ∧ p.2.2.2.2.1 ≤ 250) (hts : (ts.length : Int) = p.2.2.2.2.1) (htk : tk.length ≤ k) (hst : st.length ≤ k) :
  f115_20 (c, pi, n, ts, (c, ()), (n, ()), tk, st, sro n.1, [n.2.1, n.2.2.1, n.2.2.2.1, n.2.2.2.2], (4 : Int), (k : Int), ()) = some (match rdS n k (ts, tk, st) with | .inl t => .inl (c, pi, n, t.1, (c, ()), (n, ()), t.2.1, t.2.2, sro n.1, [n.2.1, n.2.2.1, n.2.2.2.1, n.2.2.2.2], (4 : Int), ((k + 1 : Nat) : Int), ()) | .inr ts' => .inr (.inr (c, pi, n, ts', [], false, ()))) := by
 have hfo := hn.fo k hk
 have hlen := sro_len hn.th
 have ht := tab_ok hn.th hk
 unfold tabP at ht
 simp only [Bool.and_eq_true, Bool.or_eq_true, decide_eq_true_eq] at ht
 have ht := ht.1.1.1.1
 have hx : I64 (fl n k) := fl_b hn.nb k
 have hinS : inR (k : Int) ((sro n.1).length : Int) = true := by rw [hlen]; exact inR_nat hk
 have e0 : f115_20 (c, pi, n, ts, (c, ()), (n, ()), tk, st, sro n.1, [n.2.1, n.2.2.1, n.2.2.2.1, n.2.2.2.2], (4 : Int), (k : Int), ()) = f115_20 (c, pi, n, ts, (c, ()), (n, ()), tk, st, sro n.1, [n.2.1, n.2.2.1, n.2.2.2.1, n.2.2.2.2], ((4 : Nat) : Int), (k : Int), ()) := rfl
 rw [e0]
 simp only [f115_20, Int.toNat_natCast]
 rw [blt_nat hk, show ([n.2.1, n.2.2.1, n.2.2.2.1, n.2.2.2.2].length : Int) = ((4 : Nat) : Int) from rfl, inR_nat hk, hinS, fl4]
 simp only [cond_true]
 unfold rdS
 generalize hr : (sro n.1).getD k 0 = r'
 rw [hr] at ht
 rcases ro_dec (ro n.1 k) with h | h | h | h | h | h | h | h | ⟨h2, h4, h5, h6, h7, h8, h9, h10⟩
 ·have hr2 : ro n.1 k = 2 ∨ ro n.1 k = 3 := by
   rw [Bool.or_eq_true, beq_iff, beq_iff] at h
   exact h
  have hr' : r' = ro n.1 k := by
   rcases ht.1.1 with h1 | h1
   ·rw [h1]
    rcases hr2 with h2 | h2 <;> rw [h2] <;> rfl
   ·have := h1.1.1.2
    omega
  obtain ⟨q0, q1⟩ := fokV hR hr2 hfo
  subst hr'
  have hw : ∃ w, f161 (ro n.1 k, ()) = some ((w, true, ()), ()) ∧ w = (bif beq (ro n.1 k) 3 then 3 else 1) ∧ beq w 0 = false := by
   rcases hr2 with h2 | h2 <;> rw [h2] <;> exact ⟨_, rfl, rfl, rfl⟩
  obtain ⟨w, hw1, hw2, hw3⟩ := hw
  have h18 : beq (ro n.1 k) 18 = false := by rcases hr2 with h2 | h2 <;> rw [h2] <;> rfl
  have h19 : beq (ro n.1 k) 19 = false := by rcases hr2 with h2 | h2 <;> rw [h2] <;> rfl
  have h20 : beq (ro n.1 k) 20 = false := by rcases hr2 with h2 | h2 <;> rw [h2] <;> rfl
  rw [hw1, h]
  simp only [Option.bind_some, cond_true]
  rw [hw3]
  simp only [cond_false, Bool.true_and, Bool.not_true]
  rw [show (bif blt (fl n k) 0 then wr (-1 - fl n k) else fl n k) = opq (fl n k) from rfl, inR_true q0 (by omega), ← hw2]
  simp only [cond_true]
  cases hb : bne (ts.getD (opq (fl n k)).toNat 0) w with
  | true => rfl
  | false =>
   simp only [cond_false]
   cases hl : blt (fl n k) 0 with
   | true =>
    simp only [cond_true]
    rw [f115_64_loop _ _ _ _ _ _ _ _ _ _ _ _ (by omega)]
    cases fnd (stT st (opq (fl n k))) st.length 0 with
    | some _ => rfl
    | none =>
     simp only [Option.bind_some, Int.toNat_natCast]
     rw [inR_true q0 (by omega), nle_app htk (by omega), hinS, hr, h18]
     simp only [cond_true, cond_false]
     rw [h20]
     simp only [cond_false]
     rw [f115_124_stop _ _ _ _ _ _ _ _ _ _ _ _ _ _ rfl]
     simp only [Option.bind_some, Int.toNat_natCast]
     rw [hinS, hr, h19, wr_succ hk (by omega)]
     rfl
   | false =>
    simp only [cond_false]
    rw [h18]
    simp only [cond_false]
    rw [h20]
    simp only [cond_false]
    rw [f115_124_stop _ _ _ _ _ _ _ _ _ _ _ _ _ _ rfl]
    simp only [Option.bind_some, Int.toNat_natCast]
    rw [hinS, hr, h19, wr_succ hk (by omega)]
    rfl
 ·have hr' : r' = 4 := by
   rcases ht.1.1 with h1 | h1
   ·rw [h1, h]
    rfl
   ·have := h1.1.1.2
    omega
  rw [h] at hfo
  obtain ⟨q0, q1⟩ := fokP hR (.inr (.inl rfl)) hfo
  subst hr'
  simp only [show f161 ((4 : Int), ()) = some ((1, false, ()), ()) from rfl, Option.bind_some, show beq 1 0 = false from rfl, Bool.false_and, Bool.not_false, cond_true, cond_false, show (beq 4 2 || beq 4 3) = false from rfl, show beq 4 4 = true from rfl]
  rw [inR_true q0 (by omega), nle_app hst (by omega), bne_not]
  simp only [cond_true]
  cases hb : beq (ts.getD (fl n k).toNat 0) 1 with
  | false => rfl
  | true =>
   simp only [Bool.not_true, cond_true, cond_false, show beq 4 18 = false from rfl, show beq 4 20 = false from rfl]
   rw [f115_124_stop _ _ _ _ _ _ _ _ _ _ _ _ _ _ rfl]
   simp only [Option.bind_some, Int.toNat_natCast]
   rw [hinS, hr, show beq 4 19 = false from rfl, wr_succ hk (by omega)]
   rfl
 ·have hr' : r' = 5 := by
   rcases ht.1.1 with h1 | h1
   ·rw [h1, h]
    rfl
   ·have := h1.1.1.2
    omega
  rw [h] at hfo
  obtain ⟨q0, q1⟩ := fokP hR (.inr (.inr (.inl rfl))) hfo
  subst hr'
  simp only [show f161 ((5 : Int), ()) = some ((2, false, ()), ()) from rfl, Option.bind_some, show beq 2 0 = false from rfl, Bool.false_and, Bool.not_false, cond_true, cond_false, show (beq 5 2 || beq 5 3) = false from rfl, show beq 5 4 = false from rfl, show beq 5 5 = true from rfl]
  rw [inR_true q0 (by omega), nle_app hst (by omega), bne_not]
  simp only [cond_true]
  cases hb : beq (ts.getD (fl n k).toNat 0) 2 with
  | false => rfl
  | true =>
   simp only [Bool.not_true, cond_true, cond_false, show beq 5 18 = false from rfl, show beq 5 20 = false from rfl]
   rw [f115_124_stop _ _ _ _ _ _ _ _ _ _ _ _ _ _ rfl]
   simp only [Option.bind_some, Int.toNat_natCast]
   rw [hinS, hr, show beq 5 19 = false from rfl, wr_succ hk (by omega)]
   rfl
 ·have hr' : r' = 6 := by
   rcases ht.1.1 with h1 | h1
   ·rw [h1, h]
    rfl
   ·have := h1.1.1.2
    omega
  rw [h] at hfo
  obtain ⟨q0, q1⟩ := fokP hR (.inr (.inr (.inr rfl))) hfo
  subst hr'
  simp only [show f161 ((6 : Int), ()) = some ((3, false, ()), ()) from rfl, Option.bind_some, show beq 3 0 = false from rfl, Bool.false_and, Bool.not_false, cond_true, cond_false, show (beq 6 2 || beq 6 3) = false from rfl, show beq 6 4 = false from rfl, show beq 6 5 = false from rfl, show beq 6 6 = true from rfl]
  rw [inR_true q0 (by omega), nle_app hst (by omega), bne_not]
  simp only [cond_true]
  cases hb : beq (ts.getD (fl n k).toNat 0) 3 with
  | false => rfl
  | true =>
   simp only [Bool.not_true, cond_true, cond_false, show beq 6 18 = false from rfl, show beq 6 20 = false from rfl]
   rw [f115_124_stop _ _ _ _ _ _ _ _ _ _ _ _ _ _ rfl]
   simp only [Option.bind_some, Int.toNat_natCast]
   rw [hinS, hr, show beq 6 19 = false from rfl, wr_succ hk (by omega)]
   rfl
 ·have hr' : r' = 18 := by
   rcases ht.1.1 with h1 | h1
   ·rw [h1, h]
    rfl
   ·have := h1.1.1.2
    omega
  rw [h] at hfo
  obtain ⟨q0, q1⟩ := fok18 hR hfo
  subst hr'
  simp only [show f161 ((18 : Int), ()) = some ((1, false, ()), ()) from rfl, Option.bind_some, show beq 1 0 = false from rfl, Bool.false_and, Bool.not_false, cond_true, cond_false, show (beq 18 2 || beq 18 3) = false from rfl, show beq 18 4 = false from rfl, show beq 18 5 = false from rfl, show beq 18 6 = false from rfl, show beq 18 18 = true from rfl]
  rw [inR_true q0 (by omega), nle_app hst (by omega), bne_not]
  simp only [cond_true]
  cases hb : beq (ts.getD (fl n k).toNat 0) 1 with
  | false => rfl
  | true =>
   simp only [Bool.not_true, cond_false, Bool.true_and]
   rw [f115_124_go _ _ _ _ _ _ _ _ _ _ _ _ _ _ rfl (by omega) (inR_true (by omega) (by omega)) (by omega)]
   cases hb1 : beq (ts.getD (fl n k + 1).toNat 0) 1 with
   | false => rfl
   | true =>
    simp only [cond_true, Bool.true_and]
    rw [f115_124_go _ _ _ _ _ _ _ _ _ _ _ _ _ _ rfl (by omega) (inR_true (by omega) (by omega)) (by omega), show fl n k + (1 + 1) = fl n k + 2 from rfl]
    cases hb2 : beq (ts.getD (fl n k + 2).toNat 0) 1 with
    | false => rfl
    | true =>
     simp only [cond_true]
     rw [f115_124_stop _ _ _ _ _ _ _ _ _ _ _ _ _ _ rfl]
     simp only [Option.bind_some, Int.toNat_natCast]
     rw [hinS, hr, show beq 18 19 = false from rfl, wr_succ hk (by omega)]
     rfl
 ·have hr' : r' = 19 := by
   rcases ht.1.1 with h1 | h1
   ·rw [h1, h]
    rfl
   ·have := h1.1.1.2
    omega
  rw [h] at hfo
  obtain ⟨q0, q1⟩ := fokT hR (.inr (.inl rfl)) hfo
  subst hr'
  simp only [show f161 ((19 : Int), ()) = some ((1, false, ()), ()) from rfl, Option.bind_some, show beq 1 0 = false from rfl, Bool.false_and, Bool.not_false, cond_true, cond_false, show (beq 19 2 || beq 19 3) = false from rfl, show beq 19 4 = false from rfl, show beq 19 5 = false from rfl, show beq 19 6 = false from rfl, show beq 19 18 = false from rfl, show beq 19 19 = true from rfl]
  rw [inR_true q0 (by omega), nle_app hst (by omega), bne_not]
  simp only [cond_true]
  cases hb : beq (ts.getD (fl n k).toNat 0) 1 with
  | false => rfl
  | true =>
   simp only [Bool.not_true, cond_false, Bool.true_and, show beq 19 20 = false from rfl]
   rw [f115_124_stop _ _ _ _ _ _ _ _ _ _ _ _ _ _ rfl]
   simp only [Option.bind_some, Int.toNat_natCast]
   rw [hinS, hr, show beq 19 19 = true from rfl, wr_eq (n := fl n k + 1) (by omega) (by omega), inR_true (show 0 ≤ fl n k + 1 by omega) (by omega), bne_not, nle_app htk (by omega), wr_succ hk (by omega)]
   cases beq (ts.getD (fl n k + 1).toNat 0) 0 <;> rfl
 ·have hr' : r' = 20 := by
   rcases ht.1.1 with h1 | h1
   ·rw [h1, h]
    rfl
   ·have := h1.1.1.2
    omega
  rw [h] at hfo
  obtain ⟨q0, q1⟩ := fokT hR (.inr (.inr rfl)) hfo
  subst hr'
  simp only [show f161 ((20 : Int), ()) = some ((1, false, ()), ()) from rfl, Option.bind_some, show beq 1 0 = false from rfl, Bool.false_and, Bool.not_false, cond_true, cond_false, show (beq 20 2 || beq 20 3) = false from rfl, show beq 20 4 = false from rfl, show beq 20 5 = false from rfl, show beq 20 6 = false from rfl, show beq 20 18 = false from rfl, show beq 20 19 = false from rfl, show beq 20 20 = true from rfl]
  rw [inR_true q0 (by omega), nle_app hst (by omega), bne_not]
  simp only [cond_true]
  cases hb : beq (ts.getD (fl n k).toNat 0) 1 with
  | false => rfl
  | true =>
   simp only [Bool.not_true, cond_false, Bool.true_and]
   rw [f115_124_go _ _ _ _ _ _ _ _ _ _ _ _ _ _ rfl (by omega) (inR_true (by omega) (by omega)) (by omega)]
   cases hb1 : beq (ts.getD (fl n k + 1).toNat 0) 1 with
   | false => rfl
   | true =>
    simp only [cond_true]
    rw [f115_124_stop _ _ _ _ _ _ _ _ _ _ _ _ _ _ rfl]
    simp only [Option.bind_some, Int.toNat_natCast]
    rw [hinS, hr, show beq 20 19 = false from rfl, wr_succ hk (by omega)]
    rfl
 ·have hr' : r' = 9 := by
   rcases ht.1.1 with h1 | h1
   ·rw [h1, h]
    rfl
   ·have := h1.1.1.2
    omega
  subst hr'
  simp only [show f161 ((9 : Int), ()) = some ((0, false, ()), ()) from rfl, Option.bind_some, show beq 0 0 = true from rfl, cond_true, cond_false, show (beq 9 2 || beq 9 3) = false from rfl, show beq 9 4 = false from rfl, show beq 9 5 = false from rfl, show beq 9 6 = false from rfl, show beq 9 18 = false from rfl, show beq 9 19 = false from rfl, show beq 9 20 = false from rfl]
  rw [wr_succ hk (by omega)]
  rfl
 ·have hz : ∀ a : Int, beq (ro n.1 k) a = false → ro n.1 k ≠ a := fun a ha hh => by
   rw [hh, beq_self] at ha
   cases ha
  rw [Bool.or_eq_false_iff] at h2
  have hr' : r' = 21 ∨ r' = 0 ∨ r' = 1 ∨ r' = 7 ∨ r' = 8 ∨ r' = 10 ∨ r' = 11 ∨ r' = 12 ∨ r' = 13 ∨ r' = 14 ∨ r' = 15 ∨ r' = 16 ∨ r' = 17 := by
   rcases ht.1.1 with h1 | h1
   ·have a2 := hz _ h2.1
    have a3 := hz _ h2.2
    have a4 := hz _ h4
    have a5 := hz _ h5
    have a6 := hz _ h6
    have a7 := hz _ h7
    have a8 := hz _ h8
    have a9 := hz _ h9
    have a10 := hz _ h10
    have a11 := ht.1.2
    have a12 := ht.2
    have hc : ro n.1 k = 0 ∨ ro n.1 k = 1 ∨ ro n.1 k = 7 ∨ ro n.1 k = 8 ∨ ro n.1 k = 9 ∨ ro n.1 k = 10 ∨ ro n.1 k = 12 ∨ ro n.1 k = 13 ∨ ro n.1 k = 14 ∨ ro n.1 k = 15 ∨ ro n.1 k = 16 ∨ ro n.1 k = 17 := by omega
    rcases hc with hc | hc | hc | hc | hc | hc | hc | hc | hc | hc | hc | hc <;> rw [hc] at h1 <;> rw [h1] <;> decide
   ·exact .inl h1.1.1.1
  rcases hr' with rfl | rfl | rfl | rfl | rfl | rfl | rfl | rfl | rfl | rfl | rfl | rfl | rfl <;>
  ·rw [wr_succ hk (by omega)]
   rfl
theorem rdS_inv {n : S2} {k : Nat} {t t' : T3} (h : rdS n k t = .inl t') : t'.1.length = t.1.length ∧ t'.2.1.length ≤ t.2.1.length + 1 ∧ t'.2.2.length ≤ t.2.2.length + 1 := by
 unfold rdS at h
 generalize (sro n.1).getD k 0 = r at h
 cases h1 : (beq r 2 || beq r 3) <;> rw [h1] at h <;> simp only [cond_true, cond_false] at h
 ·cases h2 : beq r 4 <;> rw [h2] at h <;> simp only [cond_true, cond_false] at h
  ·cases h3 : beq r 5 <;> rw [h3] at h <;> simp only [cond_true, cond_false] at h
   ·cases h4 : beq r 6 <;> rw [h4] at h <;> simp only [cond_true, cond_false] at h
    ·cases h5 : beq r 18 <;> rw [h5] at h <;> simp only [cond_true, cond_false] at h
     ·cases h6 : beq r 19 <;> rw [h6] at h <;> simp only [cond_true, cond_false] at h
      ·cases h7 : beq r 20 <;> rw [h7] at h <;> simp only [cond_true, cond_false] at h
       ·cases h
        exact ⟨rfl, Nat.le_succ _, Nat.le_succ _⟩
       ·revert h
        cases (beq (t.1.getD (fl n k).toNat 0) 1 && beq (t.1.getD (fl n k + 1).toNat 0) 1) <;> intro h <;> cases h
        exact ⟨rfl, Nat.le_succ _, by simp⟩
      ·revert h
       cases (beq (t.1.getD (fl n k).toNat 0) 1 && beq (t.1.getD (fl n k + 1).toNat 0) 0) <;> intro h <;> cases h
       exact ⟨rfl, by simp, by simp⟩
     ·revert h
      cases (beq (t.1.getD (fl n k).toNat 0) 1 && (beq (t.1.getD (fl n k + 1).toNat 0) 1 && beq (t.1.getD (fl n k + 2).toNat 0) 1)) <;> intro h <;> cases h
      exact ⟨rfl, Nat.le_succ _, by simp⟩
    ·revert h
     cases beq (t.1.getD (fl n k).toNat 0) 3 <;> intro h <;> cases h
     exact ⟨rfl, Nat.le_succ _, by simp⟩
   ·revert h
    cases beq (t.1.getD (fl n k).toNat 0) 2 <;> intro h <;> cases h
    exact ⟨rfl, Nat.le_succ _, by simp⟩
  ·revert h
   cases beq (t.1.getD (fl n k).toNat 0) 1 <;> intro h <;> cases h
   exact ⟨rfl, Nat.le_succ _, by simp⟩
 ·cases h2 : bne (t.1.getD (opq (fl n k)).toNat 0) (bif beq r 3 then 3 else 1) <;> rw [h2] at h <;> simp only [cond_true, cond_false] at h
  ·cases h3 : blt (fl n k) 0 <;> rw [h3] at h <;> simp only [cond_true, cond_false] at h
   ·cases h
    exact ⟨rfl, Nat.le_succ _, Nat.le_succ _⟩
   ·cases h4 : fnd (stT t.2.2 (opq (fl n k))) t.2.2.length 0 <;> rw [h4] at h <;> cases h
    exact ⟨List.length_set, by simp, Nat.le_succ _⟩
  ·cases h
theorem f115_20_loop (c : S25) (pi : Int) (p : S9) (n : S2) (ts : List Int)
  (hn : IN c p n) (hR : 0 ≤ p.2.2.2.2.1 ∧ p.2.2.2.2.1 ≤ 250) (hts : (ts.length : Int) = p.2.2.2.2.1) :
  loopF f115_20 (c, pi, n, ts, (c, ()), (n, ()), [], [], sro n.1, [n.2.1, n.2.2.1, n.2.2.2.1, n.2.2.2.2], (4 : Int), (0 : Int), ()) = some (match run (rdS n) 4 0 (ts, [], []) with | .inl t => .inl (c, pi, n, t.1, (c, ()), (n, ()), t.2.1, ()) | .inr ts' => .inr (c, pi, n, ts', [], false, ())) := by
 refine loop_run (body := f115_20) (mk := fun k (t : T3) => (c, pi, n, t.1, (c, ()), (n, ()), t.2.1, t.2.2, sro n.1, [n.2.1, n.2.2.1, n.2.2.2.1, n.2.2.2.2], (4 : Int), (k : Int), ())) (fin := fun o : T3 ⊕ List Int => match o with | .inl t => .inl (c, pi, n, t.1, (c, ()), (n, ()), t.2.1, ()) | .inr ts' => .inr (c, pi, n, ts', [], false, ())) (step := rdS n) (I := fun k t => t.1.length = ts.length ∧ t.2.1.length ≤ k ∧ t.2.2.length ≤ k) (n := 4) (fun k t hk ht => ?_) (fun k t t' hk ht h => ?_) (fun t _ => ?_) 4 0 (ts, [], []) (by omega) ⟨rfl, Nat.le_refl _, Nat.le_refl _⟩
 ·show f115_20 (c, pi, n, t.1, (c, ()), (n, ()), t.2.1, t.2.2, sro n.1, [n.2.1, n.2.2.1, n.2.2.2.1, n.2.2.2.2], (4 : Int), (k : Int), ()) = _
  rw [f115_20_step c pi p n t.1 t.2.1 t.2.2 k hk hn hR (by rw [ht.1]; exact hts) ht.2.1 ht.2.2]
  cases rdS n k (t.1, t.2.1, t.2.2) <;> rfl
 ·have := rdS_inv h
  exact ⟨by rw [this.1, ht.1], by omega, by omega⟩
 ·simp only [f115_20]
  rfl
/-! ### Both ways -/
theorem stT_none {st : List Int} {q : Int} : fnd (stT st q) st.length 0 = none ↔ q ∉ st := by
 constructor
 ·intro h hm
  obtain ⟨j, hj, hq⟩ := mem_getD 0 hm
  have := fnd_all h j hj
  unfold stT at this
  rw [hq, beq_self] at this
  cases this
 ·intro h
  refine (fnd_none (n := st.length) st.length 0 (by omega)).2 fun j _ hj => ?_
  unfold stT
  cases hb : beq (st.getD j 0) q with
  | false => rfl
  | true =>
   refine absurd ?_ h
   rw [← beq_iff.1 hb]
   exact getD_mem hj
theorem heldT_none {n : S2} {k : Nat} {q : Int} : fnd (heldT n k q) 4 0 = none ↔ ∀ e, e < 4 → e < k → isPl (ro n.1 e) = true → fl n e ≠ q := by
 constructor
 ·intro h e he hk hp hq
  have := fnd_all h e he
  unfold heldT at this
  rw [blt_true (by omega), hp, hq, beq_self] at this
  cases this
 ·intro h
  refine (fnd_none (n := 4) 4 0 (by omega)).2 fun e _ he => ?_
  unfold heldT
  cases h1 : blt (e : Int) (k : Int) with
  | false => rfl
  | true =>
   cases h2 : isPl (ro n.1 e) with
   | false => rfl
   | true =>
    cases h3 : beq (fl n e) q with
    | false => rfl
    | true =>
     exact absurd (beq_iff.1 h3) (h e he (by have := blt_iff.1 h1; omega) h2)
/-- A role whose field stays. -/
def stays (r : Int) : Bool := isPl r || (beq r 18 || (beq r 19 || beq r 20))
def ext (n : S2) (k : Nat) : List Int := bif beq n.1 40 && blt 0 (k : Int) then [n.2.1] else []
structure JJ (n : S2) (k : Nat) (s : T3) (i : List Int × List Int) : Prop where
 ts : s.1 = i.1
 tk : s.2.1 = i.2 ++ ext n k
 st : ∀ q, q ∈ s.2.2 ↔ ∃ e, e < k ∧ stays (ro n.1 e) = true ∧ fl n e = q
def Rel (n : S2) (k : Nat) : T3 ⊕ List Int → (List Int × List Int) ⊕ Unit → Prop
 | .inl a, .inl b => JJ n k a b
 | .inr _, .inr _ => True
 | _, _ => False
theorem ext_same {n : S2} {k : Nat} (h : ¬ (n.1 = 40 ∧ k = 0)) : ext n (k + 1) = ext n k := by
 unfold ext
 cases h1 : beq n.1 40 with
 | false => rfl
 | true =>
  have : k ≠ 0 := fun hk => h ⟨beq_iff.1 h1, hk⟩
  rw [blt_true (by omega), blt_true (by omega)]
theorem st_add {n : S2} {k : Nat} {st : List Int} (hs : stays (ro n.1 k) = true) (h : ∀ q, q ∈ st ↔ ∃ e, e < k ∧ stays (ro n.1 e) = true ∧ fl n e = q) : ∀ q, q ∈ st ++ [fl n k] ↔ ∃ e, e < k + 1 ∧ stays (ro n.1 e) = true ∧ fl n e = q := by
 intro q
 rw [List.mem_append, h, List.mem_singleton]
 constructor
 ·rintro (⟨e, h1, h2, h3⟩ | h1)
  ·exact ⟨e, by omega, h2, h3⟩
  ·exact ⟨k, by omega, hs, h1.symm⟩
 ·rintro ⟨e, h1, h2, h3⟩
  by_cases he : e = k
  ·subst he
   exact .inr h3.symm
  ·exact .inl ⟨e, by omega, h2, h3⟩
theorem st_skip {n : S2} {k : Nat} {st : List Int} (hs : stays (ro n.1 k) = false) (h : ∀ q, q ∈ st ↔ ∃ e, e < k ∧ stays (ro n.1 e) = true ∧ fl n e = q) : ∀ q, q ∈ st ↔ ∃ e, e < k + 1 ∧ stays (ro n.1 e) = true ∧ fl n e = q := by
 intro q
 rw [h]
 constructor
 ·rintro ⟨e, h1, h2, h3⟩
  exact ⟨e, by omega, h2, h3⟩
 ·rintro ⟨e, h1, h2, h3⟩
  refine ⟨e, ?_, h2, h3⟩
  have : e ≠ k := fun hh => by
   rw [hh, hs] at h2
   cases h2
  omega
theorem rd_step {c : S25} {n : S2} (th : thas tbl1 n.1 = true) (h11 : n.1 ≠ 11) {k : Nat} (hk : k < 4) {s : T3} {i : List Int × List Int} (j : JJ n k s i) : Rel n (k + 1) (rdS n k s) (rdI c n k i) := by
 obtain ⟨ts, tk, st⟩ := s
 obtain ⟨ts', tk'⟩ := i
 obtain ⟨j1, j2, j3⟩ := j
 have j1 : ts = ts' := j1
 have j2 : tk = tk' ++ ext n k := j2
 have j3 : ∀ q, q ∈ st ↔ ∃ e, e < k ∧ stays (ro n.1 e) = true ∧ fl n e = q := j3
 subst j1 j2
 have ht := tab_ok th hk
 unfold tabP at ht
 simp only [Bool.and_eq_true, Bool.or_eq_true, decide_eq_true_eq, Bool.not_eq_true', Bool.or_eq_false_iff, decide_eq_false_iff_not, List.all_eq_true, List.mem_range] at ht
 obtain ⟨⟨⟨⟨⟨⟨t1, t2⟩, t3⟩, t4⟩, t5⟩, t6⟩, t7⟩ := ht
 unfold rdS rdI
 generalize hr : (sro n.1).getD k 0 = r'
 rw [hr] at t1
 rcases ro_dec (ro n.1 k) with h | h | h | h | h | h | h | h | ⟨h2, h4, h5, h6, h7, h8, h9, h10⟩
 ·have hr2 : ro n.1 k = 2 ∨ ro n.1 k = 3 := by
   rw [Bool.or_eq_true, beq_iff, beq_iff] at h
   exact h
  have hr' : r' = ro n.1 k := by
   rcases t1 with h1 | h1
   ·rw [h1]
    rcases hr2 with h2 | h2 <;> rw [h2] <;> rfl
   ·have := h1.1.1.2
    omega
  subst hr'
  have t4' : n.1 ≠ 40 ∧ ∀ e, e < k → (ro n.1 e ≠ 18 ∧ ro n.1 e ≠ 19) ∧ ro n.1 e ≠ 20 := by
   rcases t4 with h1 | h1
   ·omega
   ·exact h1
  have hs : stays (ro n.1 k) = false := by
   rcases hr2 with h2 | h2 <;> rw [h2] <;> rfl
  have hx : ext n (k + 1) = ext n k := ext_same fun hh => t4'.1 hh.1
  have hx0 : ext n k = [] := by
   unfold ext
   cases h1 : beq n.1 40 with
   | false => rfl
   | true => exact absurd (beq_iff.1 h1) t4'.1
  rw [h]
  simp only [cond_true]
  cases bne (ts.getD (opq (fl n k)).toNat 0) (bif beq (ro n.1 k) 3 then 3 else 1) with
  | true => exact trivial
  | false =>
   simp only [cond_false]
   cases blt (fl n k) 0 with
   | false => exact ⟨rfl, by rw [hx], st_skip hs j3⟩
   | true =>
    have hiff : fnd (stT st (opq (fl n k))) st.length 0 = none ↔ fnd (heldT n k (opq (fl n k))) 4 0 = none := by
     rw [stT_none, heldT_none, j3]
     constructor
     ·intro hh e he hek hp hq
      refine hh ⟨e, hek, ?_, hq⟩
      unfold stays
      rw [hp]
      rfl
     ·rintro hh ⟨e, hek, hp, hq⟩
      refine hh e (by omega) hek ?_ hq
      obtain ⟨⟨a1, a2⟩, a3⟩ := t4'.2 e hek
      unfold stays at hp
      rw [Bool.or_eq_true, Bool.or_eq_true, Bool.or_eq_true, beq_iff, beq_iff, beq_iff] at hp
      rcases hp with hp | hp | hp | hp
      ·exact hp
      ·exact absurd hp a1
      ·exact absurd hp a2
      ·exact absurd hp a3
    simp only [cond_true]
    cases h1 : fnd (stT st (opq (fl n k))) st.length 0 with
    | none =>
     rw [hiff.1 h1]
     refine ⟨rfl, ?_, st_skip hs j3⟩
     show (tk' ++ ext n k) ++ [opq (fl n k)] = (tk' ++ [opq (fl n k)]) ++ ext n (k + 1)
     rw [hx, hx0, List.append_nil, List.append_nil]
    | some _ =>
     cases h2 : fnd (heldT n k (opq (fl n k))) 4 0 with
     | none =>
      rw [hiff.2 h2] at h1
      cases h1
     | some _ => exact trivial
 ·have hr' : r' = 4 := by
   rcases t1 with h1 | h1
   ·rw [h1, h]
    rfl
   ·have := h1.1.1.2
    omega
  subst hr'
  have hs : stays (ro n.1 k) = true := by rw [h]; rfl
  have hx : ext n (k + 1) = ext n k := ext_same fun hh => by
   rw [hh.1, hh.2, show ro 40 0 = 19 from by kernel_rfl] at h
   omega
  rw [h]
  simp only [show (beq 4 2 || beq 4 3) = false from rfl, show beq 4 4 = true from rfl, cond_true, cond_false]
  cases (beq (ts.getD (fl n k).toNat 0) 1) with
  | false => exact trivial
  | true => exact ⟨rfl, by rw [hx], st_add hs j3⟩
 ·have hr' : r' = 5 := by
   rcases t1 with h1 | h1
   ·rw [h1, h]
    rfl
   ·have := h1.1.1.2
    omega
  subst hr'
  have hs : stays (ro n.1 k) = true := by rw [h]; rfl
  have hx : ext n (k + 1) = ext n k := ext_same fun hh => by
   rw [hh.1, hh.2, show ro 40 0 = 19 from by kernel_rfl] at h
   omega
  rw [h]
  simp only [show (beq 5 2 || beq 5 3) = false from rfl, show beq 5 4 = false from rfl, show beq 5 5 = true from rfl, cond_true, cond_false]
  cases (beq (ts.getD (fl n k).toNat 0) 2) with
  | false => exact trivial
  | true => exact ⟨rfl, by rw [hx], st_add hs j3⟩
 ·have hr' : r' = 6 := by
   rcases t1 with h1 | h1
   ·rw [h1, h]
    rfl
   ·have := h1.1.1.2
    omega
  subst hr'
  have hs : stays (ro n.1 k) = true := by rw [h]; rfl
  have hx : ext n (k + 1) = ext n k := ext_same fun hh => by
   rw [hh.1, hh.2, show ro 40 0 = 19 from by kernel_rfl] at h
   omega
  rw [h]
  simp only [show (beq 6 2 || beq 6 3) = false from rfl, show beq 6 4 = false from rfl, show beq 6 5 = false from rfl, show beq 6 6 = true from rfl, cond_true, cond_false]
  cases (beq (ts.getD (fl n k).toNat 0) 3) with
  | false => exact trivial
  | true => exact ⟨rfl, by rw [hx], st_add hs j3⟩
 ·have hr' : r' = 18 := by
   rcases t1 with h1 | h1
   ·rw [h1, h]
    rfl
   ·have := h1.1.1.2
    omega
  subst hr'
  have hs : stays (ro n.1 k) = true := by rw [h]; rfl
  have hx : ext n (k + 1) = ext n k := ext_same fun hh => by
   rw [hh.1, hh.2, show ro 40 0 = 19 from by kernel_rfl] at h
   omega
  rw [h]
  simp only [show (beq 18 2 || beq 18 3) = false from rfl, show beq 18 4 = false from rfl, show beq 18 5 = false from rfl, show beq 18 6 = false from rfl, show beq 18 18 = true from rfl, cond_true, cond_false]
  cases (beq (ts.getD (fl n k).toNat 0) 1 && (beq (ts.getD (fl n k + 1).toNat 0) 1 && beq (ts.getD (fl n k + 2).toNat 0) 1)) with
  | false => exact trivial
  | true => exact ⟨rfl, by rw [hx], st_add hs j3⟩
 ·have hr' : r' = 19 := by
   rcases t1 with h1 | h1
   ·rw [h1, h]
    rfl
   ·have := h1.1.1.2
    omega
  subst hr'
  have hs : stays (ro n.1 k) = true := by rw [h]; rfl
  have h40 : n.1 = 40 ∧ k = 0 := by
   rcases t5 with h1 | h1
   ·exact absurd h h1
   ·exact h1
  obtain ⟨h40, rfl⟩ := h40
  rw [h]
  simp only [show (beq 19 2 || beq 19 3) = false from rfl, show beq 19 4 = false from rfl, show beq 19 5 = false from rfl, show beq 19 6 = false from rfl, show beq 19 18 = false from rfl, show beq 19 19 = true from rfl, cond_true, cond_false]
  cases (beq (ts.getD (fl n 0).toNat 0) 1 && beq (ts.getD (fl n 0 + 1).toNat 0) 0) with
  | false => exact trivial
  | true =>
   refine ⟨rfl, ?_, st_add hs j3⟩
   show (tk' ++ ext n 0) ++ [fl n 0] = tk' ++ ext n 1
   unfold ext
   rw [h40]
   show (tk' ++ []) ++ [n.2.1] = tk' ++ [n.2.1]
   rw [List.append_nil]
 ·have hr' : r' = 20 := by
   rcases t1 with h1 | h1
   ·rw [h1, h]
    rfl
   ·have := h1.1.1.2
    omega
  subst hr'
  have hs : stays (ro n.1 k) = true := by rw [h]; rfl
  have hx : ext n (k + 1) = ext n k := ext_same fun hh => by
   rw [hh.1, hh.2, show ro 40 0 = 19 from by kernel_rfl] at h
   omega
  rw [h]
  simp only [show (beq 20 2 || beq 20 3) = false from rfl, show beq 20 4 = false from rfl, show beq 20 5 = false from rfl, show beq 20 6 = false from rfl, show beq 20 18 = false from rfl, show beq 20 19 = false from rfl, show beq 20 20 = true from rfl, cond_true, cond_false]
  cases (beq (ts.getD (fl n k).toNat 0) 1 && beq (ts.getD (fl n k + 1).toNat 0) 1) with
  | false => exact trivial
  | true => exact ⟨rfl, by rw [hx], st_add hs j3⟩
 ·rcases t6 with h1 | h1
  ·exact absurd h h1
  ·exact absurd h1.1 h11
 ·have hz : ∀ a : Int, beq (ro n.1 k) a = false → ro n.1 k ≠ a := fun a ha hh => by
   rw [hh, beq_self] at ha
   cases ha
  have hs : stays (ro n.1 k) = false := by
   unfold stays isPl
   rw [h4, h5, h6, h7, h8, h9]
   rfl
  have hx : ext n (k + 1) = ext n k := ext_same fun hh => by
   rw [hh.1, hh.2, show ro 40 0 = 19 from by kernel_rfl] at h8
   cases h8
  rw [h2, h4, h5, h6, h7, h8, h9, h10]
  rw [Bool.or_eq_false_iff] at h2
  have hr' : r' = 21 ∨ r' = 0 ∨ r' = 1 ∨ r' = 7 ∨ r' = 8 ∨ r' = 10 ∨ r' = 11 ∨ r' = 12 ∨ r' = 13 ∨ r' = 14 ∨ r' = 15 ∨ r' = 16 ∨ r' = 17 := by
   rcases t1 with h1 | h1
   ·have a2 := hz _ h2.1
    have a3 := hz _ h2.2
    have a4 := hz _ h4
    have a5 := hz _ h5
    have a6 := hz _ h6
    have a7 := hz _ h7
    have a8 := hz _ h8
    have a9 := hz _ h9
    have a10 := hz _ h10
    have hc : ro n.1 k = 0 ∨ ro n.1 k = 1 ∨ ro n.1 k = 7 ∨ ro n.1 k = 8 ∨ ro n.1 k = 9 ∨ ro n.1 k = 10 ∨ ro n.1 k = 12 ∨ ro n.1 k = 13 ∨ ro n.1 k = 14 ∨ ro n.1 k = 15 ∨ ro n.1 k = 16 ∨ ro n.1 k = 17 := by omega
    rcases hc with hc | hc | hc | hc | hc | hc | hc | hc | hc | hc | hc | hc <;> rw [hc] at h1 <;> rw [h1] <;> decide
   ·exact .inl h1.1.1.1
  rcases hr' with rfl | rfl | rfl | rfl | rfl | rfl | rfl | rfl | rfl | rfl | rfl | rfl | rfl <;> exact ⟨rfl, by rw [hx], st_skip hs j3⟩
theorem rd_run {c : S25} {n : S2} (th : thas tbl1 n.1 = true) (h11 : n.1 ≠ 11) : ∀ (k i : Nat) (s : T3) (t : List Int × List Int), i + k = 4 → JJ n i s t → Rel n 4 (run (rdS n) k i s) (run (rdI c n) k i t)
 | 0, i, s, t, hi, j => by
  obtain rfl : i = 4 := by omega
  exact j
 | k + 1, i, s, t, hi, j => by
  have h := rd_step (c := c) th h11 (show i < 4 by omega) j
  unfold run
  revert h
  cases rdS n i s with
  | inl a =>
   cases rdI c n i t with
   | inl b => exact fun h => rd_run th h11 k (i + 1) a b (by omega) h
   | inr b => exact fun h => h.elim
  | inr a =>
   cases rdI c n i t with
   | inl b => exact fun h => h.elim
   | inr b => exact fun _ => trivial
/-- What is read: the types and the registers taken; nothing where code 10 is due. -/
def rdC (c : S25) (n : S2) (ts : List Int) : Option (List Int × List Int) := match run (rdI c n) 4 0 (ts, []) with
 | .inl t => some (t.1, bif beq n.1 40 then t.2 ++ [n.2.1] else t.2)
 | .inr _ => none
end Go.Ev.L6
namespace Go.Ev.L6
open Go.Proofs
/-! ### Reading -/
theorem f115_168_loop (c : S25) (pi : Int) (n : S2) (ts tk : List Int) (us : List S0) (hl : us.length ≤ 1048576) (hu : ∀ u, u ∈ us → u.1 = true → 0 ≤ u.2 ∧ u.2 < (ts.length : Int)) :
  loopF f115_168 (c, pi, n, ts, tk, us, (us.length : Int), (0 : Int), ()) = some (match fnd (upT2 ts us) us.length 0 with | none => .inl (c, pi, n, ts, tk, ()) | some _ => .inr (c, pi, n, ts, [], false, ())) := by
 refine loop_fnd0 (body := f115_168) (fun e => (c, pi, n, ts, tk, us, (us.length : Int), (e : Int), ())) (fun o : Option Unit => match o with | none => .inl (c, pi, n, ts, tk, ()) | some _ => .inr (c, pi, n, ts, [], false, ())) (upT2 ts us) us.length (fun e he => ?_) ?_
 ·have hu' := hu _ (getD_mem (d := U0) he)
  simp only [f115_168, Int.toNat_natCast]
  rw [blt_nat he, inR_nat he, wr_succ he hl]
  simp only [cond_true, upT2]
  generalize us.getD e U0 = u at hu'
  cases h1 : u.1 with
  | true =>
   obtain ⟨a, b⟩ := hu' h1
   rw [inR_true a b]
   simp only [cond_true, jB, Option.bind_some, Bool.true_and]
   cases bne (ts.getD u.2.toNat 0) 2 <;> rfl
  | false =>
   rw [joinB_eq]
   rfl
 ·simp only [f115_168]
  rw [blt_not]
  rfl
theorem rdS11 {n : S2} (h : n.1 = 11) (t : T3) : run (rdS n) 4 0 t = .inl t := by
 have hs : sro n.1 = [1, 9, 0, 0] := by
  rw [h]
  kernel_rfl
 have : ∀ k, k < 4 → rdS n k t = .inl t := by
  intro k hk
  have hk' : k = 0 ∨ k = 1 ∨ k = 2 ∨ k = 3 := by omega
  unfold rdS
  rw [hs]
  rcases hk' with rfl | rfl | rfl | rfl <;> rfl
 simp only [run, this 0 (by omega), this 1 (by omega), this 2 (by omega), this 3 (by omega)]
theorem rdI11 {c : S25} {n : S2} (h : n.1 = 11) (t : List Int × List Int) : run (rdI c n) 4 0 t = bif upl c n.2.2.1 t.1 then .inl t else .inr () := by
 have h0 : rdI c n 0 t = .inl t := by
  unfold rdI
  rw [h, show ro 11 0 = 1 from by kernel_rfl]
  rfl
 have h1 : rdI c n 1 t = bif upl c n.2.2.1 t.1 then .inl t else .inr () := by
  unfold rdI
  rw [h, show ro 11 1 = 11 from by kernel_rfl]
  rfl
 have h2 : rdI c n 2 t = .inl t := by
  unfold rdI
  rw [h, show ro 11 2 = 0 from by kernel_rfl]
  rfl
 have h3 : rdI c n 3 t = .inl t := by
  unfold rdI
  rw [h, show ro 11 3 = 0 from by kernel_rfl]
  rfl
 simp only [run, h0, h1]
 cases upl c n.2.2.1 t.1 with
 | false => rfl
 | true =>
  simp only [cond_true, h2, h3]
theorem f115_ok (c : S25) (pi : Int) (p : S9) (n : S2) (ts : List Int)
  (hn : IN c p n) (hR : 0 ≤ p.2.2.2.2.1 ∧ p.2.2.2.2.1 ≤ 250) (hts : (ts.length : Int) = p.2.2.2.2.1) (hc : c.length ≤ 1048576) (hus : ∀ p, p ∈ c → p.2.2.2.2.2.1.length ≤ 1048576) :
  ∃ ts', f115 (c, pi, n, ts, ()) = some (match rdC c n ts with | some r => ((r.2, true, ()), r.1, ()) | none => (([], false, ()), ts', ())) := by
 have hloop : loopF f115_20 (c, pi, n, ts, (c, ()), (n, ()), [], [], sro n.1, [n.2.1, n.2.2.1, n.2.2.2.1, n.2.2.2.2], ([n.2.1, n.2.2.1, n.2.2.2.1, n.2.2.2.2].length : Int), (0 : Int), ()) = _ := f115_20_loop c pi p n ts hn hR hts
 simp only [f115, f159_ok, f160, Option.bind_some]
 rw [hloop]
 by_cases h11 : n.1 = 11
 ·have hfo := hn.fo 1 (by omega)
  rw [h11, show ro 11 1 = 11 from by kernel_rfl] at hfo
  obtain ⟨q0, q1⟩ := fok11 hc hfo
  have q0 : 0 ≤ n.2.2.1 := q0
  have q1 : n.2.2.1 < (c.length : Int) := q1
  unfold rdC
  rw [rdS11 h11, rdI11 h11]
  simp only [Option.bind_some]
  rw [h11, show beq 11 11 = true from rfl, inR_true q0 q1, show beq 11 40 = false from rfl]
  simp only [cond_true, cond_false]
  rw [f115_168_loop _ _ _ _ _ _ (hus _ (getD_mem (by omega))) (fun u hu h1 => by rw [hts]; exact hn.up h11 u hu h1)]
  unfold upl
  cases fnd (upT2 ts (c.getD n.2.2.1.toNat P0).2.2.2.2.2.1) (c.getD n.2.2.1.toNat P0).2.2.2.2.2.1.length 0 <;> exact ⟨ts, rfl⟩
 ·have hrel := rd_run (c := c) hn.th h11 4 0 (ts, [], []) (ts, []) (by omega) ⟨rfl, by unfold ext; rw [show blt 0 ((0 : Nat) : Int) = false from rfl, Bool.and_false]; rfl, fun q => Iff.intro (fun h => (by cases h)) (fun ⟨e, h, _⟩ => (by omega))⟩
  have hb : beq n.1 11 = false := by
   cases hb : beq n.1 11 with
   | false => rfl
   | true => exact absurd (beq_iff.1 hb) h11
  unfold rdC
  revert hrel
  cases run (rdS n) 4 0 (ts, [], []) with
  | inl a =>
   cases run (rdI c n) 4 0 (ts, []) with
   | inl b =>
    intro hrel
    refine ⟨[], ?_⟩
    simp only [Option.bind_some]
    rw [hb]
    obtain ⟨j1, j2, -⟩ := hrel
    simp only [cond_false]
    rw [j1, j2]
    unfold ext
    rw [show blt 0 ((4 : Nat) : Int) = true from rfl, Bool.and_true]
    cases beq n.1 40 with
    | true => rfl
    | false =>
     simp only [cond_false, List.append_nil]
   | inr b => exact fun h => h.elim
  | inr a =>
   cases run (rdI c n) 4 0 (ts, []) with
   | inl b => exact fun h => h.elim
   | inr b => exact fun _ => ⟨a, rfl⟩
/-! ### Guards -/
abbrev G0 : S4 := (false, (0 : Int), (0 : Int))
def abT (gs : List S4) (keep : Int) (i : Nat) : Option Unit := bif (gs.getD i G0).1 && blt keep (gs.getD i G0).2.1 then some () else none
def abv (gs : List S4) (keep : Int) : Bool := (fnd (abT gs keep) gs.length 0).isNone
theorem f162_ok (gs : List S4) (keep : Int) (hl : gs.length ≤ 1048576) : f162 (gs, keep, ()) = some ((abv gs keep, ()), ()) := by
 simp only [f162]
 have h : loopF f162_8 (keep, gs, (gs.length : Int), (0 : Int), ()) = some (match fnd (abT gs keep) gs.length 0 with | none => .inl () | some _ => .inr (false, ())) := by
  refine loop_fnd0 (body := f162_8) (fun e => (keep, gs, (gs.length : Int), (e : Int), ())) (fun o : Option Unit => match o with | none => .inl () | some _ => .inr (false, ())) (abT gs keep) gs.length (fun e he => ?_) ?_
  ·simp only [f162_8, Int.toNat_natCast]
   rw [blt_nat he, inR_nat he, wr_succ he hl]
   simp only [cond_true, abT]
   cases ((gs.getD e G0).1 && blt keep (gs.getD e G0).2.1) <;> rfl
  ·simp only [f162_8]
   rw [blt_not]
   rfl
 rw [h]
 unfold abv
 cases fnd (abT gs keep) gs.length 0 <;> rfl
theorem f172_ok (s : S6) (keep : Int) (hl : s.2.2.length ≤ 1048576) : f172 (keep, (s, ()), ()) = some ((abv s.2.2 keep, ()), ((s, ()), ())) := by
 simp only [f172]
 have h : loopF f172_8 (keep, (s, ()), s.2.2, (s.2.2.length : Int), (0 : Int), ()) = some (match fnd (abT s.2.2 keep) s.2.2.length 0 with | none => .inl (keep, (s, ()), ()) | some _ => .inr (keep, (s, ()), false, ())) := by
  refine loop_fnd0 (body := f172_8) (fun e => (keep, (s, ()), s.2.2, (s.2.2.length : Int), (e : Int), ())) (fun o : Option Unit => match o with | none => .inl (keep, (s, ()), ()) | some _ => .inr (keep, (s, ()), false, ())) (abT s.2.2 keep) s.2.2.length (fun e he => ?_) ?_
  ·simp only [f172_8, Int.toNat_natCast]
   rw [blt_nat he, inR_nat he, wr_succ he hl]
   simp only [cond_true, abT]
   cases ((s.2.2.getD e G0).1 && blt keep (s.2.2.getD e G0).2.1) <;> rfl
  ·simp only [f172_8]
   rw [blt_not]
   rfl
 rw [h]
 unfold abv
 cases fnd (abT s.2.2 keep) s.2.2.length 0 <;> rfl
/-- A row copied by appending. -/
theorem take_succ' {α : Type} {l : List α} {i : Nat} {d : α} (h : i < l.length) : l.take i ++ [l.getD i d] = l.take (i + 1) := by
 rw [List.take_add_one, getD_lt h, List.getElem?_eq_getElem h]
 rfl
theorem f120_ok (gs : List S4) (hl : gs.length ≤ 1048576) : f120 (gs, ()) = some ((gs, ()), ()) := by
 simp only [f120]
 have h : loopF f120_12 ([], gs, (gs.length : Int), (0 : Int), ()) = some (gs, ()) := by
  refine (loop_run (body := f120_12) (mk := fun i (t : List S4) => (t, gs, (gs.length : Int), (i : Int), ())) (ε := Unit) (fin := fun o => (match o with | .inl t => t | .inr _ => [], ())) (step := fun i t => .inl (t ++ [gs.getD i G0])) (I := fun i t => t = gs.take i) (n := gs.length) (fun i t hi ht => ?_) (fun i t t' hi ht h => ?_) (fun t _ => ?_) gs.length 0 [] (by omega) rfl).trans ?_
  ·subst ht
   simp only [f120_12, Int.toNat_natCast]
   rw [blt_nat hi, inR_nat hi, wr_succ hi hl, nle_true (by rw [List.length_take, List.length_singleton]; omega)]
   rfl
  ·cases h
   subst ht
   exact take_succ' hi
  ·simp only [f120_12]
   rw [blt_not]
   rfl
  ·have : ∀ k i, i + k = gs.length → run (ε := Unit) (fun i (t : List S4) => .inl (t ++ [gs.getD i G0])) k i (gs.take i) = .inl gs := by
    intro k
    induction k with
    | zero =>
     intro i hi
     unfold run
     rw [List.take_of_length_le (by omega)]
    | succ k ih =>
     intro i hi
     unfold run
     simp only []
     rw [take_succ' (by omega)]
     exact ih (i + 1) (by omega)
   have h0 := this gs.length 0 (by omega)
   rw [List.take_zero] at h0
   rw [h0]
 rw [h]
 rfl
theorem f114_ok (gs : List Int) (hl : gs.length ≤ 1048576) : f114 (gs, ()) = some ((gs, ()), ()) := by
 simp only [f114]
 have h : loopF f114_12 ([], gs, (gs.length : Int), (0 : Int), ()) = some (gs, ()) := by
  refine (loop_run (body := f114_12) (mk := fun i (t : List Int) => (t, gs, (gs.length : Int), (i : Int), ())) (ε := Unit) (fin := fun o => (match o with | .inl t => t | .inr _ => [], ())) (step := fun i t => .inl (t ++ [gs.getD i 0])) (I := fun i t => t = gs.take i) (n := gs.length) (fun i t hi ht => ?_) (fun i t t' hi ht h => ?_) (fun t _ => ?_) gs.length 0 [] (by omega) rfl).trans ?_
  ·subst ht
   simp only [f114_12, Int.toNat_natCast]
   rw [blt_nat hi, inR_nat hi, wr_succ hi hl, nle_true (by rw [List.length_take, List.length_singleton]; omega)]
   rfl
  ·cases h
   subst ht
   exact take_succ' hi
  ·simp only [f114_12]
   rw [blt_not]
   rfl
  ·have : ∀ k i, i + k = gs.length → run (ε := Unit) (fun i (t : List Int) => .inl (t ++ [gs.getD i 0])) k i (gs.take i) = .inl gs := by
    intro k
    induction k with
    | zero =>
     intro i hi
     unfold run
     rw [List.take_of_length_le (by omega)]
    | succ k ih =>
     intro i hi
     unfold run
     simp only []
     rw [take_succ' (by omega)]
     exact ih (i + 1) (by omega)
   have h0 := this gs.length 0 (by omega)
   rw [List.take_zero] at h0
   rw [h0]
 rw [h]
 rfl
theorem f132_ok (s : S6) (h1 : s.2.1.length ≤ 1048576) (h2 : s.2.2.length ≤ 1048576) : f132 (s, ()) = some (((s.1, s.2.1, s.2.2, ()), ()), ()) := by
 simp only [f132, List.length_nil, Nat.zero_add, List.nil_append]
 rw [nle_true (by omega), nle_true (by omega)]
 rfl
def lst (gs : List S4) : S4 := gs.getD (gs.length - 1) G0
def chg (n : S2) (gs : List S4) : Option (List S4) :=
 bif beq n.1 31 then bif blt (gs.length : Int) 50 && abv gs n.2.2.1 then some (gs ++ [(true, n.2.2.1, n.2.1)]) else none
 else bif beq n.1 33 then bif blt (gs.length : Int) 50 && abv gs n.2.1 then some (gs ++ [(false, n.2.1, 0)]) else none
 else bif beq n.1 32 then bif beq (gs.length : Int) 0 || !(lst gs).1 then none else some (gs.take (gs.length - 1))
 else bif beq n.1 34 || (beq n.1 35 || beq n.1 36) then
  bif (beq (gs.length : Int) 0 || (lst gs).1) || (beq n.1 34 && !(abv gs n.2.1)) then none
  else some (bif beq n.1 34 then gs.set (gs.length - 1) ((lst gs).1, n.2.1, (lst gs).2.2) else bif beq n.1 36 then gs.take (gs.length - 1) else gs)
 else some gs
theorem beq_false {a b : Int} (h : a ≠ b) : beq a b = false := by
 cases hb : beq a b with
 | false => rfl
 | true => exact absurd (beq_iff.1 hb) h
theorem f116_ok (n : S2) (gs : List S4) (hl : gs.length ≤ 1048576) : ∃ g', f116 (n, gs, ()) = some (match chg n gs with | some g => ((g, true, ()), ()) | none => ((g', false, ()), ())) := by
 simp only [f116]
 rw [f120_ok gs hl, f162_ok _ _ hl, f162_ok _ _ hl]
 simp only [Option.bind_some, jB]
 unfold chg
 cases h31 : beq n.1 31 with
 | true =>
  simp only [cond_true]
  rw [nle_true (by rw [List.length_singleton]; omega)]
  cases blt (gs.length : Int) 50 <;> cases abv gs n.2.2.1 <;> exact ⟨gs ++ [(true, n.2.2.1, n.2.1)], rfl⟩
 | false =>
  simp only [cond_false]
  cases h33 : beq n.1 33 with
  | true =>
   simp only [cond_true]
   rw [nle_true (by rw [List.length_singleton]; omega)]
   cases blt (gs.length : Int) 50 <;> cases abv gs n.2.1 <;> exact ⟨gs ++ [(false, n.2.1, 0)], rfl⟩
  | false =>
   simp only [cond_false]
   rcases Nat.eq_zero_or_pos gs.length with h0 | h0
   ·have e0 : beq (gs.length : Int) 0 = true := beq_iff.2 (by omega)
    rw [e0, joinB_eq, joinB_eq]
    simp only [cond_true, Option.bind_some, Bool.true_or]
    cases beq n.1 32 with
    | true => exact ⟨_, rfl⟩
    | false =>
     cases (beq n.1 34 || (beq n.1 35 || beq n.1 36)) with
     | true => exact ⟨_, rfl⟩
     | false => exact ⟨[], rfl⟩
   ·have e0 : beq (gs.length : Int) 0 = false := beq_false (by omega)
    have e1 : wr ((gs.length : Int) - 1) = ((gs.length - 1 : Nat) : Int) := by
     rw [wr_eq (by omega) (by omega)]
     omega
    rw [e0, e1, inR_nat (show gs.length - 1 < gs.length by omega)]
    simp only [Int.toNat_natCast, jB, cond_true, cond_false, Option.bind_some, Bool.false_or]
    rw [show gs.getD (gs.length - 1) (false, (0 : Int), (0 : Int)) = lst gs from rfl, List.length_set, inE_true (show (0 : Int) ≤ ((gs.length - 1 : Nat) : Int) by omega) (show ((gs.length - 1 : Nat) : Int) ≤ (gs.length : Int) by omega)]
    cases beq n.1 32 with
    | true => cases (lst gs).1 <;> exact ⟨[], rfl⟩
    | false =>
     simp only [cond_false]
     cases h345 : (beq n.1 34 || (beq n.1 35 || beq n.1 36)) with
     | false => exact ⟨[], rfl⟩
     | true =>
      have hx : beq n.1 34 = true → beq n.1 36 = false := fun h => by rw [beq_iff.1 h]; rfl
      simp only [cond_true]
      revert hx
      cases beq n.1 34 <;> cases (lst gs).1 <;> cases abv gs n.2.1 <;> cases beq n.1 36 <;> intro hx <;> first | exact ⟨[], rfl⟩ | cases hx rfl
end Go.Ev.L6
namespace Go.Ev.L6
open Go.Proofs
/-! ### Guards, the program's way -/
/-- Code 11. -/
def bad1 (n : S2) (gs : List S4) : Bool :=
 bif beq n.1 32 then (!(blt 0 (gs.length : Int))) || (!(bif blt 0 (gs.length : Int) then lst gs else G0).1)
 else bif beq n.1 34 || (beq n.1 35 || beq n.1 36) then (!(blt 0 (gs.length : Int))) || (bif blt 0 (gs.length : Int) then lst gs else G0).1
 else bif beq n.1 31 || beq n.1 33 then ble 50 (gs.length : Int)
 else false
def bad2 (n : S2) (gs : List S4) : Bool :=
 bif beq n.1 33 || beq n.1 34 then (bif !(abv gs n.2.1) then true else bif beq n.1 31 then !(abv gs n.2.2.1) else false)
 else bif beq n.1 31 then !(abv gs n.2.2.1) else false
theorem f131_237_ok (at1 : Int) (s : S6) (n : S2) (o : Bool × List Int × List S4 × Unit) (tk : List Int) (hl : s.2.2.length ≤ 1048576) :
  f131_237 (at1, (s, ()), (n, ()), o, tk, (G0, ()), (s.2.2.length : Int), blt 0 (s.2.2.length : Int), ()) = some (at1, (s, ()), (n, ()), o, tk, ((bif blt 0 (s.2.2.length : Int) then lst s.2.2 else G0), ()), ()) := by
 simp only [f131_237]
 cases h : blt 0 (s.2.2.length : Int) with
 | false => rfl
 | true =>
  have h0 := blt_iff.1 h
  have e1 : wr ((s.2.2.length : Int) - 1) = ((s.2.2.length - 1 : Nat) : Int) := by
   rw [wr_eq (by omega) (by omega)]
   omega
  rw [e1, inR_nat (show s.2.2.length - 1 < s.2.2.length by omega)]
  rfl
theorem f131_257_ok (at1 : Int) (s : S6) (n : S2) (o : Bool × List Int × List S4 × Unit) (tk : List Int) :
  f131_257 (at1, (s, ()), (n, ()), o, tk, ((bif blt 0 (s.2.2.length : Int) then lst s.2.2 else G0), ()), blt 0 (s.2.2.length : Int), n.1, beq n.1 32, ()) = some (bif bad1 n s.2.2 then .inr (11, [], ()) else .inl (at1, (s, ()), (n, ()), o, tk, ())) := by
 simp only [f131_257, bad1]
 generalize (bif blt 0 (s.2.2.length : Int) then lst s.2.2 else G0) = g
 cases beq n.1 32 <;> cases beq n.1 34 <;> cases beq n.1 35 <;> cases beq n.1 36 <;> cases beq n.1 31 <;> cases beq n.1 33 <;> cases blt 0 (s.2.2.length : Int) <;> cases g.1 <;> cases ble 50 (s.2.2.length : Int) <;> rfl
theorem f131_302_ok (at1 : Int) (s : S6) (n : S2) (o : Bool × List Int × List S4 × Unit) (tk : List Int) (hl : s.2.2.length ≤ 1048576) :
  f131_302 (at1, (s, ()), (n, ()), o, tk, ()) = some (at1, (s, ()), (n, ()), o, tk, bad2 n s.2.2, ()) := by
 simp only [f131_302, bad2]
 rw [f172_ok s _ hl]
 simp only [Option.bind_some]
 rw [f172_ok s _ hl]
 simp only [Option.bind_some]
 cases beq n.1 33 <;> cases beq n.1 34 <;> cases beq n.1 31 <;> cases abv s.2.2 n.2.1 <;> cases abv s.2.2 n.2.2.1 <;> rfl
theorem ble_not (a b : Int) : ble a b = !(blt b a) := by
 cases h : blt b a with
 | true => exact ble_false (blt_iff.1 h)
 | false =>
  refine ble_true ?_
  have : ¬ b < a := fun hh => by
   rw [blt_true hh] at h
   cases h
  omega
theorem beq0 (n : Nat) : beq (n : Int) 0 = !(blt 0 (n : Int)) := by
 rw [Bool.eq_iff_iff, beq_iff, Bool.not_eq_true', ← Bool.not_eq_true, blt_iff]
 omega
theorem beq_of {a b c : Int} (h : beq a b = true) (hne : b ≠ c) : beq a c = false := by
 rw [beq_iff.1 h]
 exact beq_false hne
/-- Guards told bad are those that do not change. -/
theorem chg_bad (n : S2) (gs : List S4) : (chg n gs).isNone = (bad1 n gs || bad2 n gs) := by
 unfold chg bad1 bad2
 have hc : ∀ b : Bool, (bif b then lst gs else G0).1 = (bif b then (lst gs).1 else false) := fun b => by cases b <;> rfl
 rw [beq0, ble_not, hc]
 cases h31 : beq n.1 31 with
 | true =>
  rw [beq_of h31 (show (31 : Int) ≠ 32 by decide), beq_of h31 (show (31 : Int) ≠ 33 by decide), beq_of h31 (show (31 : Int) ≠ 34 by decide), beq_of h31 (show (31 : Int) ≠ 35 by decide), beq_of h31 (show (31 : Int) ≠ 36 by decide)]
  cases blt (gs.length : Int) 50 <;> cases abv gs n.2.2.1 <;> rfl
 | false =>
  cases h33 : beq n.1 33 with
  | true =>
   rw [beq_of h33 (show (33 : Int) ≠ 32 by decide), beq_of h33 (show (33 : Int) ≠ 34 by decide), beq_of h33 (show (33 : Int) ≠ 35 by decide), beq_of h33 (show (33 : Int) ≠ 36 by decide)]
   cases blt (gs.length : Int) 50 <;> cases abv gs n.2.1 <;> rfl
  | false =>
   cases h32 : beq n.1 32 with
   | true =>
    rw [beq_of h32 (show (32 : Int) ≠ 34 by decide)]
    cases blt 0 (gs.length : Int) <;> cases (lst gs).1 <;> rfl
   | false =>
    cases beq n.1 34 <;> cases beq n.1 35 <;> cases beq n.1 36 <;> cases blt 0 (gs.length : Int) <;> cases (lst gs).1 <;> cases abv gs n.2.1 <;> rfl
/-- The guards behind it, where they are not bad. -/
theorem f131_437_ok (at1 : Int) (s : S6) (n : S2) (b : Bool) (ts : List Int) (o2 : Bool × List Int × List S4 × Unit) (hl : s.2.2.length ≤ 1048576) (g : List S4) (hg : chg n s.2.2 = some g) :
  f131_437 (at1, (s, ()), (n, ()), (b, ts, s.2.2, ()), o2, wr ((s.2.2.length : Int) - 1), n.1, (beq n.1 32 || beq n.1 36), ()) = some (at1, (s, ()), (n, ()), (b, ts, g, ()), o2, ()) := by
 simp only [f131_437]
 unfold chg at hg
 rw [beq0] at hg
 generalize hgs : s.2.2 = gs at hg hl
 have hnl : ∀ x : S4, nle (gs.length + [x].length) 5864062014805 = true := fun x => nle_true (by rw [List.length_singleton]; omega)
 simp only [hnl]
 cases h31 : beq n.1 31 with
 | true =>
  rw [h31] at hg
  rw [beq_of h31 (show (31 : Int) ≠ 32 by decide), beq_of h31 (show (31 : Int) ≠ 33 by decide), beq_of h31 (show (31 : Int) ≠ 34 by decide), beq_of h31 (show (31 : Int) ≠ 36 by decide)]
  revert hg
  cases (blt (gs.length : Int) 50 && abv gs n.2.2.1) <;> intro hg <;> cases hg
  rfl
 | false =>
  cases h33 : beq n.1 33 with
  | true =>
   rw [h31, h33] at hg
   rw [beq_of h33 (show (33 : Int) ≠ 32 by decide), beq_of h33 (show (33 : Int) ≠ 34 by decide), beq_of h33 (show (33 : Int) ≠ 36 by decide)]
   revert hg
   cases (blt (gs.length : Int) 50 && abv gs n.2.1) <;> intro hg <;> cases hg
   rfl
  | false =>
   rw [h31, h33] at hg
   rcases Nat.eq_zero_or_pos gs.length with h0 | h0
   ·have e0 : blt 0 (gs.length : Int) = false := blt_false (by omega)
    rw [e0] at hg
    revert hg
    cases h32 : beq n.1 32 <;> cases h34 : beq n.1 34 <;> cases h35 : beq n.1 35 <;> cases h36 : beq n.1 36 <;> intro hg <;> cases hg <;> rfl
   ·have e0 : blt 0 (gs.length : Int) = true := blt_true (by omega)
    have e1 : wr ((gs.length : Int) - 1) = ((gs.length - 1 : Nat) : Int) := by
     rw [wr_eq (by omega) (by omega)]
     omega
    rw [e0] at hg
    rw [e1, inR_nat (show gs.length - 1 < gs.length by omega), inE_true (show (0 : Int) ≤ ((gs.length - 1 : Nat) : Int) by omega) (show ((gs.length - 1 : Nat) : Int) ≤ (gs.length : Int) by omega)]
    simp only [Int.toNat_natCast, cond_true]
    rw [show gs.getD (gs.length - 1) (false, (0 : Int), (0 : Int)) = lst gs from rfl]
    cases h32 : beq n.1 32 with
    | true =>
     rw [h32] at hg
     revert hg
     cases (lst gs).1 <;> intro hg <;> cases hg
     rfl
    | false =>
     rw [h32] at hg
     have hx : beq n.1 34 = true → beq n.1 36 = false := fun h => by rw [beq_iff.1 h]; rfl
     revert hg hx
     cases beq n.1 34 <;> cases beq n.1 35 <;> cases beq n.1 36 <;> cases (lst gs).1 <;> cases abv gs n.2.1 <;> intro hg hx <;> first | (cases hg; rfl) | (cases hg; done) | (cases hx rfl; done)
/-! ### What is written -/
def wrC (n : S2) (ts : List Int) : List Int :=
 bif beq n.1 6 then ts.set n.2.1.toNat 2
 else bif beq n.1 22 || (beq n.1 27 || beq n.1 28) then ts.set n.2.1.toNat 3
 else bif beq n.1 40 then ts.set (n.2.1 + 1).toNat 1
 else bif beq n.1 42 then ts.set n.2.1.toNat 0
 else bif beq n.1 41 then ts.set n.2.2.2.1.toNat 3
 else bif beq (ro n.1 0) 1 then ts.set n.2.1.toNat 1
 else ts
theorem wrC_len (n : S2) (ts : List Int) : (wrC n ts).length = ts.length := by
 unfold wrC
 cases beq n.1 6 <;> cases (beq n.1 22 || (beq n.1 27 || beq n.1 28)) <;> cases beq n.1 40 <;> cases beq n.1 42 <;> cases beq n.1 41 <;> cases beq (ro n.1 0) 1 <;> simp
theorem conv1 {r : Int} (h : 0 ≤ r ∧ r ≤ 20) : beq (conv r) 1 = beq r 1 := by
 have hh : (List.range 21).all (fun j => beq (conv (j : Int)) 1 == beq (j : Int) 1) = true := by kernel_rfl
 obtain ⟨j, rfl⟩ : ∃ j : Nat, r = (j : Int) := ⟨r.toNat, by omega⟩
 exact eq_of_beq (List.all_eq_true.1 hh j (List.mem_range.2 (by omega)))
theorem fl0 (n : S2) : fl n 0 = n.2.1 := rfl
theorem into0 {c : S25} {p : S9} {n : S2} (hn : IN c p n) (hR : 0 ≤ p.2.2.2.2.1 ∧ p.2.2.2.2.1 ≤ 250) (h : ro n.1 0 = 1) : 0 ≤ n.2.1 ∧ n.2.1 < p.2.2.2.2.1 := by
 have := hn.fo 0 (by omega)
 rw [h] at this
 exact fokP hR (.inl rfl) this
theorem f117_ok (c : S25) (p : S9) (n : S2) (ts : List Int) (hn : IN c p n) (hR : 0 ≤ p.2.2.2.2.1 ∧ p.2.2.2.2.1 ≤ 250) (hts : (ts.length : Int) = p.2.2.2.2.1) :
  f117 (n, ts, ()) = some ((), wrC n ts, ()) := by
 have in0 : ro n.1 0 = 1 → inR n.2.1 (ts.length : Int) = true := fun h => by
  obtain ⟨a, b⟩ := into0 hn hR h
  exact inR_true a (by omega)
 simp only [f117, f159_ok, Option.bind_some, sro_len hn.th]
 unfold wrC
 cases h6 : beq n.1 6 with
 | true =>
  rw [in0 (by rw [beq_iff.1 h6]; kernel_rfl)]
  rfl
 | false =>
  simp only [cond_false]
  cases h3 : (beq n.1 22 || (beq n.1 27 || beq n.1 28)) with
  | true =>
   rw [in0 (by
    rw [Bool.or_eq_true, Bool.or_eq_true, beq_iff, beq_iff, beq_iff] at h3
    rcases h3 with h3 | h3 | h3 <;> rw [h3] <;> kernel_rfl)]
   rfl
  | false =>
   simp only [cond_false]
   cases h40 : beq n.1 40 with
   | true =>
    have hf := hn.fo 0 (by omega)
    rw [beq_iff.1 h40, show ro 40 0 = 19 from by kernel_rfl, fl0] at hf
    obtain ⟨a, b⟩ := fokT hR (.inr (.inl rfl)) hf
    rw [wr_eq (n := n.2.1 + 1) (by omega) (by omega), inR_true (show 0 ≤ n.2.1 + 1 by omega) (by omega)]
    rfl
   | false =>
    simp only [cond_false]
    cases h42 : beq n.1 42 with
    | true =>
     rw [in0 (by rw [beq_iff.1 h42]; kernel_rfl)]
     rfl
    | false =>
     simp only [cond_false]
     cases h41 : beq n.1 41 with
     | true =>
      have hf := hn.fo 2 (by omega)
      rw [beq_iff.1 h41, show ro 41 2 = 1 from by kernel_rfl] at hf
      obtain ⟨a, b⟩ := fokP hR (.inl rfl) hf
      have a : 0 ≤ n.2.2.2.1 := a
      have b : n.2.2.2.1 < p.2.2.2.2.1 := b
      rw [inR_true a (by omega)]
      rfl
     | false =>
      have ht := tab_ok hn.th (show 0 < 4 by omega)
      unfold tabP at ht
      simp only [Bool.and_eq_true, Bool.or_eq_true, decide_eq_true_eq] at ht
      have hs : (sro n.1).getD 0 0 = conv (ro n.1 0) := by
       rcases ht.1.1.1.1.1.1 with h1 | h1
       ·exact h1
       ·rw [h1.1.2] at h42
        cases h42
      simp only [cond_false, Int.toNat_zero]
      rw [hs, conv1 ⟨ht.1.1.1.1.1.2, ht.1.1.1.1.2⟩, show inR 0 ((4 : Nat) : Int) = true from rfl]
      simp only [cond_true]
      cases h1 : beq (ro n.1 0) 1 with
      | true =>
       rw [in0 (beq_iff.1 h1)]
       rfl
      | false => rfl
def gv (op : Int) : Int := bif beq op 6 then 2 else bif beq op 22 || (beq op 27 || beq op 28) then 3 else bif beq op 42 then 0 else 1
theorem f173_ok (op : Int) : f173 (op, ()) = some ((gv op, ()), ()) := by
 simp only [f173, gv]
 cases beq op 6 <;> cases (beq op 22 || (beq op 27 || beq op 28)) <;> cases beq op 42 <;> rfl
def wI (n : S2) (k : Nat) (ts : List Int) : List Int ⊕ Unit :=
 bif beq (ro n.1 k) 1 then (bif beq n.1 41 then .inl ((ts.set (fl n k).toNat (gv n.1)).set (fl n k).toNat 3) else .inl (ts.set (fl n k).toNat (gv n.1))) else .inl ts
theorem f131_316_loop (at1 : Int) (c : S25) (s : S6) (p : S9) (n : S2) (b : Bool) (ts : List Int) (gs : List S4) (tk : List Int) (o2 : Bool × List Int × List S4 × Unit)
  (hn : IN c p n) (hR : 0 ≤ p.2.2.2.2.1 ∧ p.2.2.2.2.1 ≤ 250) (hts : (ts.length : Int) = p.2.2.2.2.1) :
  loopF f131_316 (at1, (s, ()), (n, ()), (b, ts, gs, ()), tk, o2, roT n.1, (0 : Int), ()) = some (match run (wI n) 4 0 ts with | .inl t => (at1, (s, ()), (n, ()), (b, t, gs, ()), tk, o2, ()) | .inr _ => (at1, (s, ()), (n, ()), (b, ts, gs, ()), tk, o2, ())) := by
 refine loop_run (body := f131_316) (mk := fun k (t : List Int) => (at1, (s, ()), (n, ()), (b, t, gs, ()), tk, o2, roT n.1, (k : Int), ())) (fin := fun o : List Int ⊕ Unit => match o with | .inl t => (at1, (s, ()), (n, ()), (b, t, gs, ()), tk, o2, ()) | .inr _ => (at1, (s, ()), (n, ()), (b, ts, gs, ()), tk, o2, ())) (step := wI n) (I := fun k t => t.length = ts.length) (n := 4) (fun k t hk ht => ?_) (fun k t t' hk ht h => ?_) (fun t _ => ?_) 4 0 ts (by omega) rfl
 ·have hfo := hn.fo k hk
  have e0 : f131_316 (at1, (s, ()), (n, ()), (b, t, gs, ()), tk, o2, roT n.1, (k : Int), ()) = f131_316 (at1, (s, ()), (n, ()), (b, t, gs, ()), tk, o2, roT n.1, (k : Int), ()) := rfl
  simp only [f131_316, f169, Int.toNat_natCast, Option.bind_some, f173_ok]
  rw [show (4 : Int) = ((4 : Nat) : Int) from rfl, blt_nat hk, inR_nat hk, ro4 _ hk, fl4, wr_succ hk (by omega)]
  simp only [cond_true, wI]
  cases h1 : beq (ro n.1 k) 1 with
  | false => rfl
  | true =>
   rw [beq_iff.1 h1] at hfo
   obtain ⟨a, b⟩ := fokP hR (.inl rfl) hfo
   rw [inR_true a (by omega), List.length_set, inR_true a (by omega)]
   cases beq n.1 41 <;> rfl
 ·unfold wI at h
  revert h
  cases beq (ro n.1 k) 1 <;> cases beq n.1 41 <;> intro h <;> cases h <;> first | exact ht | (rw [List.length_set]; exact ht) | (rw [List.length_set, List.length_set]; exact ht)
 ·simp only [f131_316]
  rfl
theorem wI_run {n : S2} (th : thas tbl1 n.1 = true) (ts : List Int) : run (wI n) 4 0 ts = .inl (bif beq n.1 41 then ts.set n.2.2.2.1.toNat 3 else bif beq (ro n.1 0) 1 then ts.set n.2.1.toNat (gv n.1) else ts) := by
 cases h41 : beq n.1 41 with
 | true =>
  have h := beq_iff.1 h41
  have e0 : ∀ t, wI n 0 t = .inl t := fun t => by
   unfold wI
   rw [h, show ro 41 0 = 20 from by kernel_rfl]
   rfl
  have e1 : ∀ t, wI n 1 t = .inl t := fun t => by
   unfold wI
   rw [h, show ro 41 1 = 12 from by kernel_rfl]
   rfl
  have e2 : ∀ t, wI n 2 t = .inl (t.set n.2.2.2.1.toNat 3) := fun t => by
   unfold wI
   rw [h, show ro 41 2 = 1 from by kernel_rfl]
   show Sum.inl ((t.set n.2.2.2.1.toNat 1).set n.2.2.2.1.toNat 3) = _
   rw [List.set_set]
  have e3 : ∀ t, wI n 3 t = .inl t := fun t => by
   unfold wI
   rw [h, show ro 41 3 = 0 from by kernel_rfl]
   rfl
  simp only [run, e0, e1, e2, e3]
  rfl
 | false =>
  have hno : ∀ k, k < 4 → k ≠ 0 → beq (ro n.1 k) 1 = false := by
   intro k hk hk0
   have ht := tab_ok th hk
   unfold tabP at ht
   simp only [Bool.and_eq_true, Bool.or_eq_true, decide_eq_true_eq, Bool.not_eq_true', decide_eq_false_iff_not] at ht
   rcases ht.2 with (h1 | h1) | h1
   ·exact beq_false h1
   ·exact absurd h1 hk0
   ·rw [h1.2] at h41
    cases h41
  have e1 : ∀ k t, k < 4 → k ≠ 0 → wI n k t = .inl t := fun k t hk hk0 => by
   unfold wI
   rw [hno k hk hk0]
   rfl
  have e0 : wI n 0 ts = .inl (bif beq (ro n.1 0) 1 then ts.set n.2.1.toNat (gv n.1) else ts) := by
   unfold wI
   rw [h41]
   cases beq (ro n.1 0) 1 <;> rfl
  simp only [run, e0, e1 1 _ (by omega) (by omega), e1 2 _ (by omega) (by omega), e1 3 _ (by omega) (by omega)]
  rfl
theorem wI_wrC {n : S2} (_th : thas tbl1 n.1 = true) (ts : List Int) : (bif beq n.1 40 then (bif beq n.1 41 then ts.set n.2.2.2.1.toNat 3 else bif beq (ro n.1 0) 1 then ts.set n.2.1.toNat (gv n.1) else ts).set (n.2.1 + 1).toNat 1 else (bif beq n.1 41 then ts.set n.2.2.2.1.toNat 3 else bif beq (ro n.1 0) 1 then ts.set n.2.1.toNat (gv n.1) else ts)) = wrC n ts := by
 unfold wrC gv
 cases h40 : beq n.1 40 with
 | true =>
  rw [beq_iff.1 h40, show ro 40 0 = 19 from by kernel_rfl]
  rfl
 | false =>
  cases h41 : beq n.1 41 with
  | true =>
   rw [beq_iff.1 h41]
   rfl
  | false =>
   have hx : (beq n.1 6 = true ∨ (beq n.1 22 || (beq n.1 27 || beq n.1 28)) = true ∨ beq n.1 42 = true) → beq (ro n.1 0) 1 = true := by
    intro h
    rw [Bool.or_eq_true, Bool.or_eq_true, beq_iff, beq_iff, beq_iff, beq_iff, beq_iff] at h
    rcases h with h | (h | h | h) | h <;> rw [h] <;> kernel_rfl
   revert hx
   cases beq n.1 6 <;> cases (beq n.1 22 || (beq n.1 27 || beq n.1 28)) <;> cases beq n.1 42 <;> cases beq (ro n.1 0) 1 <;> intro hx <;> first | rfl | (have := hx (by simp); cases this)
theorem f131_349_ok (at1 : Int) (c : S25) (s : S6) (p : S9) (n : S2) (b : Bool) (ts : List Int) (gs : List S4) (tk : List Int) (o2 : Bool × List Int × List S4 × Unit)
  (hn : IN c p n) (hR : 0 ≤ p.2.2.2.2.1 ∧ p.2.2.2.2.1 ≤ 250) (hts : (ts.length : Int) = p.2.2.2.2.1) :
  f131_349 (at1, (s, ()), (n, ()), (b, ts, gs, ()), tk, o2, beq n.1 40, ()) = some (at1, (s, ()), (n, ()), (b, (bif beq n.1 40 then ts.set (n.2.1 + 1).toNat 1 else ts), gs, ()), tk, o2, ()) := by
 simp only [f131_349]
 cases h40 : beq n.1 40 with
 | true =>
  have hf := hn.fo 0 (by omega)
  rw [beq_iff.1 h40, show ro 40 0 = 19 from by kernel_rfl, fl0] at hf
  obtain ⟨a, b⟩ := fokT hR (.inr (.inl rfl)) hf
  rw [wr_eq (n := n.2.1 + 1) (by omega) (by omega), inR_true (show 0 ≤ n.2.1 + 1 by omega) (by omega)]
  rfl
 | false => rfl
end Go.Ev.L6
namespace Go.Ev.L6
open Go.Proofs
/-! ### What is kept -/
def tkT (tk : List Int) (keep : Int) (j : Nat) : Option Unit := bif blt (tk.getD j 0) keep then some () else none
def cmT (b e : List Int) (r : Nat) : Option Unit := bif bne (e.getD r 0) (b.getD r 0) then some () else none
def ktT (tk b e : List Int) (gs : List S4) (i : Nat) : Option Unit :=
 bif !(gs.getD i G0).1 then none
 else match fnd (tkT tk (gs.getD i G0).2.1) tk.length 0 with
  | some _ => some ()
  | none => fnd (cmT b e) (gs.getD i G0).2.1.toNat 0
def kept (tk b e : List Int) (gs : List S4) : Bool := (fnd (ktT tk b e gs) gs.length 0).isNone
theorem bne_comm (a b : Int) : bne a b = bne b a := by
 rw [Bool.eq_iff_iff, bne_iff, bne_iff]
 exact ⟨fun h => h.symm, fun h => h.symm⟩
theorem blt_toNat {r : Nat} {k : Int} (h : r < k.toNat) : blt (r : Int) k = true := blt_true (by omega)
theorem blt_toNat_not (k : Int) : blt (k.toNat : Int) k = false := blt_false (by omega)
theorem f131_372_loop (at1 : Int) (s : S6) (n : S2) (o o2 : Bool × List Int × List S4 × Unit) (tk : List Int) (g : S4) (gs : List S4) (x i : Int) (hl : tk.length ≤ 1048576) :
  loopF f131_372 (at1, (s, ()), (n, ()), o, tk, o2, (g, ()), gs, x, i, (tk.length : Int), (0 : Int), ()) = some (match fnd (tkT tk g.2.1) tk.length 0 with | none => .inl (at1, (s, ()), (n, ()), o, tk, o2, (g, ()), gs, x, i, ()) | some _ => .inr (12, [], ())) := by
 refine loop_fnd0 (body := f131_372) (fun e => (at1, (s, ()), (n, ()), o, tk, o2, (g, ()), gs, x, i, (tk.length : Int), (e : Int), ())) (fun o1 : Option Unit => match o1 with | none => .inl (at1, (s, ()), (n, ()), o, tk, o2, (g, ()), gs, x, i, ()) | some _ => .inr (12, [], ())) (tkT tk g.2.1) tk.length (fun e he => ?_) ?_
 ·simp only [f131_372, Int.toNat_natCast]
  rw [blt_nat he, inR_nat he, wr_succ he hl]
  simp only [cond_true, tkT]
  cases blt (tk.getD e 0) g.2.1 <;> rfl
 ·simp only [f131_372]
  rw [blt_not]
  rfl
theorem f131_396_loop (at1 : Int) (s : S6) (n : S2) (b : Bool) (ts : List Int) (gs' : List S4) (o2 : Bool × List Int × List S4 × Unit) (tk : List Int) (gs : List S4) (x i keep : Int) (h1 : keep ≤ (ts.length : Int)) (h2 : keep ≤ (s.2.1.length : Int)) (hl : ts.length ≤ 1048576) :
  loopF f131_396 (at1, (s, ()), (n, ()), (b, ts, gs', ()), tk, o2, gs, x, i, keep, (0 : Int), ()) = some (match fnd (cmT s.2.1 ts) keep.toNat 0 with | none => .inl (at1, (s, ()), (n, ()), (b, ts, gs', ()), tk, o2, gs, x, i, ()) | some _ => .inr (12, [], ())) := by
 refine loop_fnd0 (body := f131_396) (fun e => (at1, (s, ()), (n, ()), (b, ts, gs', ()), tk, o2, gs, x, i, keep, (e : Int), ())) (fun o1 : Option Unit => match o1 with | none => .inl (at1, (s, ()), (n, ()), (b, ts, gs', ()), tk, o2, gs, x, i, ()) | some _ => .inr (12, [], ())) (cmT s.2.1 ts) keep.toNat (fun e he => ?_) ?_
 ·simp only [f131_396, Int.toNat_natCast]
  rw [blt_toNat he, inR_nat (show e < ts.length by omega), inR_nat (show e < s.2.1.length by omega), wr_succ (show e < ts.length by omega) hl]
  simp only [cond_true, cmT]
  cases bne (ts.getD e 0) (s.2.1.getD e 0) <;> rfl
 ·simp only [f131_396]
  rw [blt_toNat_not]
  rfl
theorem f131_356_loop (at1 : Int) (s : S6) (n : S2) (b : Bool) (ts : List Int) (gs' : List S4) (o2 : Bool × List Int × List S4 × Unit) (tk : List Int) (hl : s.2.2.length ≤ 1048576) (htk : tk.length ≤ 1048576) (hts : ts.length ≤ 1048576) (hk : ∀ g, g ∈ s.2.2 → g.2.1 ≤ (ts.length : Int)) (he : ts.length = s.2.1.length) :
  loopF f131_356 (at1, (s, ()), (n, ()), (b, ts, gs', ()), tk, o2, s.2.2, (s.2.2.length : Int), (0 : Int), ()) = some (match fnd (ktT tk s.2.1 ts s.2.2) s.2.2.length 0 with | none => .inl (at1, (s, ()), (n, ()), (b, ts, gs', ()), o2, ()) | some _ => .inr (12, [], ())) := by
 refine loop_fnd0 (body := f131_356) (fun e => (at1, (s, ()), (n, ()), (b, ts, gs', ()), tk, o2, s.2.2, (s.2.2.length : Int), (e : Int), ())) (fun o1 : Option Unit => match o1 with | none => .inl (at1, (s, ()), (n, ()), (b, ts, gs', ()), o2, ()) | some _ => .inr (12, [], ())) (ktT tk s.2.1 ts s.2.2) s.2.2.length (fun e he' => ?_) ?_
 ·have hg := hk _ (getD_mem (d := G0) he')
  simp only [f131_356, Int.toNat_natCast]
  rw [blt_nat he', inR_nat he']
  simp only [cond_true, ktT]
  generalize s.2.2.getD e G0 = g at hg
  cases g.1 with
  | false =>
   simp only [Bool.not_false, cond_true]
   rw [wr_succ he' hl]
  | true =>
   simp only [Bool.not_true, cond_false]
   rw [f131_372_loop _ _ _ _ _ _ _ _ _ _ htk]
   cases fnd (tkT tk g.2.1) tk.length 0 with
   | some _ => rfl
   | none =>
    simp only [Option.bind_some]
    rw [f131_396_loop _ _ _ _ _ _ _ _ _ _ _ _ hg (by omega) hts]
    cases fnd (cmT s.2.1 ts) g.2.1.toNat 0 with
    | some _ => rfl
    | none =>
     simp only [Option.bind_some]
     rw [wr_succ he' hl]
 ·simp only [f131_356]
  rw [blt_not]
  rfl
theorem f118_24_loop (gs tgs : List S4) (tk b e : List Int) (n : S2) (i : Int) (g : S4) (x y : Int) (hl : tk.length ≤ 1048576) :
  loopF f118_24 (tgs, tk, b, e, (n, ()), i, (g, ()), gs, x, y, tk, (tk.length : Int), (0 : Int), ()) = some (match fnd (tkT tk g.2.1) tk.length 0 with | none => .inl (tgs, tk, b, e, (n, ()), i, (g, ()), gs, x, y, ()) | some _ => .inr (false, ())) := by
 refine loop_fnd0 (body := f118_24) (fun j => (tgs, tk, b, e, (n, ()), i, (g, ()), gs, x, y, tk, (tk.length : Int), (j : Int), ())) (fun o1 : Option Unit => match o1 with | none => .inl (tgs, tk, b, e, (n, ()), i, (g, ()), gs, x, y, ()) | some _ => .inr (false, ())) (tkT tk g.2.1) tk.length (fun j hj => ?_) ?_
 ·simp only [f118_24, Int.toNat_natCast]
  rw [blt_nat hj, inR_nat hj, wr_succ hj hl]
  simp only [cond_true, tkT]
  cases blt (tk.getD j 0) g.2.1 <;> rfl
 ·simp only [f118_24]
  rw [blt_not]
  rfl
theorem f118_52_loop (gs tgs : List S4) (tk b e : List Int) (n : S2) (g : S4) (x y : Int) (h1 : g.2.1 ≤ (b.length : Int)) (h2 : g.2.1 ≤ (e.length : Int)) (hl : b.length ≤ 1048576) :
  loopF f118_52 (tgs, tk, b, e, (n, ()), (g, ()), (0 : Int), gs, x, y, ()) = some (match fnd (cmT b e) g.2.1.toNat 0 with | none => .inl (tgs, tk, b, e, (n, ()), gs, x, y, ()) | some _ => .inr (false, ())) := by
 refine loop_fnd0 (body := f118_52) (fun j => (tgs, tk, b, e, (n, ()), (g, ()), (j : Int), gs, x, y, ())) (fun o1 : Option Unit => match o1 with | none => .inl (tgs, tk, b, e, (n, ()), gs, x, y, ()) | some _ => .inr (false, ())) (cmT b e) g.2.1.toNat (fun j hj => ?_) ?_
 ·simp only [f118_52, Int.toNat_natCast]
  rw [blt_toNat hj, inR_nat (show j < b.length by omega), inR_nat (show j < e.length by omega), wr_succ (show j < b.length by omega) hl]
  simp only [cond_true, cmT]
  rw [bne_comm]
  cases bne (e.getD j 0) (b.getD j 0) <;> rfl
 ·simp only [f118_52]
  rw [blt_toNat_not]
  rfl
theorem ktT_same (b : List Int) (gs : List S4) (i : Nat) : ktT [] b b gs i = none := by
 unfold ktT
 cases (gs.getD i G0).1 with
 | false => rfl
 | true =>
  show fnd (cmT b b) _ 0 = none
  refine (fnd_none (n := (gs.getD i G0).2.1.toNat) _ 0 (by omega)).2 fun j _ _ => ?_
  unfold cmT
  rw [bne_self]
  rfl
theorem f118_ok (n : S2) (gs : List S4) (tk b e : List Int) (hl : gs.length ≤ 1048576) (htk : tk.length ≤ 1048576) (hb : b.length ≤ 1048576) (hk : ∀ g, g ∈ gs → g.2.1 ≤ (b.length : Int)) (he : e.length = b.length) (h32 : n.1 = 32 → tk = [] ∧ e = b) :
  f118 (n, gs, tk, b, e, ()) = some ((kept tk b e gs, ()), ()) := by
 simp only [f118]
 have hloop : loopF f118_8 (gs, tk, b, e, (n, ()), gs, (gs.length : Int), (0 : Int), ()) = some (match fnd (ktT tk b e gs) gs.length 0 with | none => .inl () | some _ => .inr (false, ())) := by
  refine loop_fnd0 (body := f118_8) (fun i => (gs, tk, b, e, (n, ()), gs, (gs.length : Int), (i : Int), ())) (fun o1 : Option Unit => match o1 with | none => .inl () | some _ => .inr (false, ())) (ktT tk b e gs) gs.length (fun i hi => ?_) ?_
  ·have hg := hk _ (getD_mem (d := G0) hi)
   by_cases h : n.1 = 32
   ·obtain ⟨rfl, rfl⟩ := h32 h
    rw [ktT_same]
    simp only [f118_8, Int.toNat_natCast]
    rw [blt_nat hi, inR_nat hi]
    simp only [cond_true]
    generalize hgg : gs.getD i G0 = g at hg
    cases hg1 : g.1 with
    | false =>
     simp only [Bool.not_false, cond_true]
     rw [wr_succ hi hl]
    | true =>
     simp only [Bool.not_true, cond_false]
     have hlp : loopF f118_24 (gs, [], e, e, (n, ()), (i : Int), (g, ()), gs, (gs.length : Int), (i : Int), [], (([] : List Int).length : Int), (0 : Int), ()) = _ := f118_24_loop gs gs [] e e n (i : Int) g (gs.length : Int) (i : Int) htk
     rw [hlp]
     simp only [Option.bind_some, fnd, List.length_nil]
     cases (beq n.1 32 && beq (i : Int) (wr ((gs.length : Int) - 1))) with
     | true =>
      simp only [cond_true]
      rw [wr_succ hi hl]
     | false =>
      simp only [cond_false]
      rw [f118_52_loop _ _ _ _ _ _ _ _ _ hg hg hb]
      have hc : fnd (cmT e e) g.2.1.toNat 0 = none := by
       refine (fnd_none (n := g.2.1.toNat) _ 0 (by omega)).2 fun j _ _ => ?_
       unfold cmT
       rw [bne_self]
       rfl
      rw [hc]
      simp only [Option.bind_some]
      rw [wr_succ hi hl]
   ·simp only [f118_8, Int.toNat_natCast]
    rw [blt_nat hi, inR_nat hi]
    simp only [cond_true, ktT]
    generalize hgg : gs.getD i G0 = g at hg
    cases hg1 : g.1 with
    | false =>
     simp only [Bool.not_false, cond_true]
     rw [wr_succ hi hl]
    | true =>
     simp only [Bool.not_true, cond_false]
     rw [f118_24_loop _ _ _ _ _ _ _ _ _ _ htk]
     cases fnd (tkT tk g.2.1) tk.length 0 with
     | some _ => rfl
     | none =>
      simp only [Option.bind_some]
      rw [beq_false h, Bool.false_and]
      simp only [cond_false]
      rw [f118_52_loop _ _ _ _ _ _ _ _ _ hg (by omega) hb]
      cases fnd (cmT b e) g.2.1.toNat 0 with
      | some _ => rfl
      | none =>
       simp only [Option.bind_some]
       rw [wr_succ hi hl]
  ·simp only [f118_8]
   rw [blt_not]
   rfl
 rw [hloop]
 unfold kept
 cases fnd (ktT tk b e gs) gs.length 0 <;> rfl
/-! ### Followers -/
def fil (k i : Nat) (ts : List Int) : List Int := match run (ε := Unit) (fun i t => .inl (t.set i 0)) k i ts with
 | .inl t => t
 | .inr _ => []
theorem fil_run : ∀ (k i : Nat) (ts : List Int), run (ε := Unit) (fun i (t : List Int) => .inl (t.set i 0)) k i ts = .inl (fil k i ts)
 | 0, i, ts => rfl
 | k + 1, i, ts => by
  unfold fil run
  simp only []
  rw [fil_run k (i + 1)]
theorem fil_len : ∀ (k i : Nat) (ts : List Int), (fil k i ts).length = ts.length
 | 0, i, ts => rfl
 | k + 1, i, ts => by
  have h := fil_len k (i + 1) (ts.set i 0)
  rw [List.length_set] at h
  rw [← h]
  rfl
def hnd (ts : List Int) (B : Int) : List Int := ((fil (ts.length - B.toNat) B.toNat ts).set B.toNat 1).set (B + 1).toNat 1
def fol (n : S2) (at1 : Int) (s : S6) (ts : List Int) (g : List S4) : List S5 :=
 (bif (bne n.1 19 && bne n.1 29) && bne n.1 30 then [(at1 + 1, true, ts, g)] else []) ++
 (bif beq n.1 19 then [(n.2.1, true, ts, g)]
 else bif beq n.1 20 || (beq n.1 21 || (beq n.1 38 || beq n.1 39)) then [(n.2.2.1, true, ts, g)]
 else bif beq n.1 41 then [(n.2.2.1, true, s.2.1, g)]
 else bif beq n.1 31 then [(n.2.1, true, hnd s.2.1 n.2.2.1, s.2.2)]
 else [])
theorem f119_84_loop (s : S6) (n : S2) (out : List S5) (ts : List Int) (B : Int) (h0 : 0 ≤ B ∧ B ≤ (ts.length : Int)) (hl : ts.length ≤ 1048576) :
  loopF f119_84 ((s, ()), (n, ()), out, ts, B, ()) = some ((s, ()), (n, ()), out, fil (ts.length - B.toNat) B.toNat ts, ()) := by
 obtain ⟨b, rfl⟩ : ∃ b : Nat, B = (b : Int) := ⟨B.toNat, by omega⟩
 refine (loop_run (body := f119_84) (mk := fun i (t : List Int) => ((s, ()), (n, ()), out, t, (i : Int), ())) (ε := Unit) (fin := fun o => ((s, ()), (n, ()), out, (match o with | .inl t => t | .inr _ => []), ())) (step := fun i t => .inl (t.set i 0)) (I := fun _ t => t.length = ts.length) (n := ts.length) (fun i t hi ht => ?_) (fun i t t' hi ht h => ?_) (fun t ht => ?_) (ts.length - b) b ts (by omega) rfl).trans ?_
 ·simp only [f119_84, Int.toNat_natCast]
  rw [ht, blt_nat hi, inR_nat hi, wr_succ hi hl]
  rfl
 ·cases h
  rw [List.length_set]
  exact ht
 ·simp only [f119_84]
  rw [ht, blt_not]
  rfl
 ·rw [fil_run, Int.toNat_natCast]
theorem f131_528_loop (n : S2) (l : List S5) (b : Bool) (ts : List Int) (gs : List S4) (B : Int) (h0 : 0 ≤ B ∧ B ≤ (ts.length : Int)) (hl : ts.length ≤ 1048576) :
  loopF f131_528 ((n, ()), l, (b, ts, gs, ()), B, ()) = some ((n, ()), l, (b, fil (ts.length - B.toNat) B.toNat ts, gs, ()), ()) := by
 obtain ⟨b', rfl⟩ : ∃ b : Nat, B = (b : Int) := ⟨B.toNat, by omega⟩
 refine (loop_run (body := f131_528) (mk := fun i (t : List Int) => ((n, ()), l, (b, t, gs, ()), (i : Int), ())) (ε := Unit) (fin := fun o => ((n, ()), l, (b, (match o with | .inl t => t | .inr _ => []), gs, ()), ())) (step := fun i t => .inl (t.set i 0)) (I := fun _ t => t.length = ts.length) (n := ts.length) (fun i t hi ht => ?_) (fun i t t' hi ht h => ?_) (fun t ht => ?_) (ts.length - b') b' ts (by omega) rfl).trans ?_
 ·simp only [f131_528, Int.toNat_natCast]
  rw [ht, blt_nat hi, inR_nat hi, wr_succ hi hl]
  rfl
 ·cases h
  rw [List.length_set]
  exact ht
 ·simp only [f131_528]
  rw [ht, blt_not]
  rfl
 ·rw [fil_run, Int.toNat_natCast]
theorem set_back {l : List Int} {i : Nat} {a : Int} (h : i < l.length) : (l.set i a).set i (l.getD i 0) = l := by
 rw [List.set_set, getD_lt h]
 exact List.set_getElem_self h
theorem ro31 : ro 31 1 = 17 := by kernel_rfl
theorem ro41 : ro 41 2 = 1 := by kernel_rfl
theorem f119_ok (c : S25) (p : S9) (at1 : Nat) (s : S6) (ts : List Int) (g : List S4) (hat : at1 < p.2.2.2.2.2.2.2.1.length) (hlen : p.2.2.2.2.2.2.2.1.length ≤ 1048576)
  (hn : IN c p (p.2.2.2.2.2.2.2.1.getD at1 Dz2)) (hR : 0 ≤ p.2.2.2.2.1 ∧ p.2.2.2.2.1 ≤ 250) (hts : (s.2.1.length : Int) = p.2.2.2.2.1) (hl : ts.length = s.2.1.length)
  (h41 : (p.2.2.2.2.2.2.2.1.getD at1 Dz2).1 = 41 → ts = s.2.1.set (p.2.2.2.2.2.2.2.1.getD at1 Dz2).2.2.2.1.toNat 3) :
  f119 (p, (at1 : Int), s, ts, g, ()) = some ((fol (p.2.2.2.2.2.2.2.1.getD at1 Dz2) (at1 : Int) s ts g, ()), ()) := by
 simp only [f119, Int.toNat_natCast]
 rw [inR_nat hat, wr_eq (n := (at1 : Int) + 1) (by omega) (by omega)]
 generalize p.2.2.2.2.2.2.2.1.getD at1 Dz2 = n at hn h41
 rw [f114_ok ts (by omega), f114_ok s.2.1 (by omega)]
 have hnl : ∀ x : S5, nle (([] : List S5).length + [x].length) 2199023255552 = true := fun x => rfl
 have hnl2 : ∀ x y : S5, nle ((([] : List S5) ++ [x]).length + [y].length) 2199023255552 = true := fun x y => rfl
 simp only [cond_true, Option.bind_some, hnl, hnl2]
 unfold fol
 cases h19 : beq n.1 19 with
 | true =>
  rw [bne_not, h19]
  rfl
 | false =>
  cases h20 : (beq n.1 20 || (beq n.1 21 || (beq n.1 38 || beq n.1 39))) with
  | true =>
   cases ((bne n.1 19 && bne n.1 29) && bne n.1 30) <;> rfl
  | false =>
   cases h41' : beq n.1 41 with
   | true =>
    have he := beq_iff.1 h41'
    have hf := hn.fo 2 (by omega)
    rw [he, ro41] at hf
    obtain ⟨a, b⟩ := fokP hR (.inl rfl) hf
    have a : 0 ≤ n.2.2.2.1 := a
    have b : n.2.2.2.1 < p.2.2.2.2.1 := b
    rw [inR_true a (show n.2.2.2.1 < (s.2.1.length : Int) by omega), inR_true a (show n.2.2.2.1 < (ts.length : Int) by omega), h41 he, set_back (by omega)]
    cases ((bne n.1 19 && bne n.1 29) && bne n.1 30) <;> rfl
   | false =>
    cases h31 : beq n.1 31 with
    | false => cases ((bne n.1 19 && bne n.1 29) && bne n.1 30) <;> rfl
    | true =>
     have he := beq_iff.1 h31
     have hf := hn.fo 1 (by omega)
     rw [he, ro31] at hf
     obtain ⟨a, b⟩ := fokT hR (.inl rfl) hf
     have a : 0 ≤ n.2.2.1 := a
     have b : n.2.2.1 + 1 < p.2.2.2.2.1 := b
     rw [f119_84_loop _ _ _ _ _ (by omega) (by omega), f119_84_loop _ _ _ _ _ (by omega) (by omega)]
     simp only [Option.bind_some]
     rw [List.length_set, fil_len, wr_eq (n := n.2.2.1 + 1) (by omega) (by omega), inR_true (show 0 ≤ n.2.2.1 by omega) (by omega), inR_true (show 0 ≤ n.2.2.1 + 1 by omega) (by omega)]
     simp only [cond_true, hnl, hnl2]
     cases ((bne n.1 19 && bne n.1 29) && bne n.1 30) <;> rfl
end Go.Ev.L6
