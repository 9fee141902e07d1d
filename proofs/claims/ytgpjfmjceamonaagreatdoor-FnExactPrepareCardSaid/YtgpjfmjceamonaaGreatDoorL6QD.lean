/-
 The law FnExactPrepare in plain terms: quick instructions, as both make them.
-/
import Derived.Test.YtgpjfmjceamonaaGreatDoorL6QC
namespace Go.Ev.L6
open Go.Proofs
/-! ### Loops that run to their end -/
def itr {τ : Type} (step : Nat → τ → τ) : Nat → Nat → τ → τ
 | 0, _, t => t
 | k + 1, i, t => itr step k (i + 1) (step i t)
theorem loop_itr {A B τ : Type} {body : A → Option (A ⊕ B)} {mk : Nat → τ → A} {fin : τ → B} {step : Nat → τ → τ} {I : Nat → τ → Prop} {n : Nat}
  (hs : ∀ i t, i < n → I i t → body (mk i t) = some (.inl (mk (i + 1) (step i t))))
  (hI : ∀ i t, i < n → I i t → I (i + 1) (step i t))
  (hf : ∀ t, I n t → body (mk n t) = some (.inr (fin t))) :
  ∀ k i t, i + k = n → I i t → loopF body (mk i t) = some (fin (itr step k i t)) ∧ I n (itr step k i t)
 | 0, i, t, hi, ht => by
  obtain rfl : i = n := by omega
  rw [loopF_step, hf t ht]
  exact ⟨rfl, ht⟩
 | k + 1, i, t, hi, ht => by
  rw [loopF_step, hs i t (by omega) ht]
  exact loop_itr hs hI hf k (i + 1) _ (by omega) (hI i t (by omega) ht)
/-! ### Drops -/
/-- How far drops go on, from the m-th on. -/
def dc (ins : List S2) (i : Nat) (A : Int) : Nat → Nat → Nat
 | 0, m => m
 | k + 1, m => bif beq (ins.getD (i + m) Dz2).1 42 then (bif beq (ins.getD (i + m) Dz2).2.1 (wr (A + (m : Int))) then dc ins i A k (m + 1) else m) else m
theorem f64_8_loop (p : S9) (i : Nat) (hi : i < p.2.2.2.2.2.2.2.1.length) (hl : p.2.2.2.2.2.2.2.1.length ≤ 1048576) : ∀ k m, i + m + k = p.2.2.2.2.2.2.2.1.length → loopF f64_8 ((i : Int), (p, ()), (m : Int), ()) = some ((dc p.2.2.2.2.2.2.2.1 i (p.2.2.2.2.2.2.2.1.getD i Dz2).2.1 k m : Int), ())
 | 0, m, h => by
  rw [loopF_step]
  simp only [f64_8]
  rw [wr_eq (by omega) (by omega), blt_false (by omega)]
  rfl
 | k + 1, m, h => by
  rw [loopF_step]
  simp only [f64_8, dc]
  rw [wr_eq (n := (i : Int) + (m : Int)) (by omega) (by omega), blt_true (by omega), inR_true (by omega) (by omega), inR_true (by omega) (by omega), show ((i : Int) + (m : Int)).toNat = i + m by omega, Int.toNat_natCast]
  simp only [cond_true]
  generalize hn : p.2.2.2.2.2.2.2.1.getD (i + m) Dz2 = n
  cases h1 : beq n.1 42 with
  | false => rfl
  | true =>
   cases h2 : beq n.2.1 (wr ((p.2.2.2.2.2.2.2.1.getD i Dz2).2.1 + (m : Int))) with
   | false => rfl
   | true =>
    simp only [cond_true]
    rw [wr_eq (n := (m : Int) + 1) (by omega) (by omega)]
    exact f64_8_loop p i hi hl k (m + 1) (by omega)
theorem f28_20_loop (p t : S9) (q o : S7) (l : List S8) (c : Int) (i : Nat) (hi : i < p.2.2.2.2.2.2.2.1.length) (hl : p.2.2.2.2.2.2.2.1.length ≤ 1048576) : ∀ k m, i + m + k = p.2.2.2.2.2.2.2.1.length → loopF f28_20 (t, (i : Int), (l, c, ()), (p, ()), (q, ()), (p.2.2.2.2.2.2.2.1.getD i Dz2, ()), (o, ()), (m : Int), ()) = some (t, (i : Int), (l, c, ()), (p, ()), (q, ()), (p.2.2.2.2.2.2.2.1.getD i Dz2, ()), (o, ()), (dc p.2.2.2.2.2.2.2.1 i (p.2.2.2.2.2.2.2.1.getD i Dz2).2.1 k m : Int), ())
 | 0, m, h => by
  rw [loopF_step]
  simp only [f28_20]
  rw [wr_eq (by omega) (by omega), blt_false (by omega)]
  rfl
 | k + 1, m, h => by
  rw [loopF_step]
  simp only [f28_20, dc]
  rw [wr_eq (n := (i : Int) + (m : Int)) (by omega) (by omega), blt_true (by omega), inR_true (by omega) (by omega), show ((i : Int) + (m : Int)).toNat = i + m by omega]
  simp only [cond_true]
  generalize hn : p.2.2.2.2.2.2.2.1.getD (i + m) Dz2 = n
  cases h1 : beq n.1 42 with
  | false => rfl
  | true =>
   cases h2 : beq n.2.1 (wr ((p.2.2.2.2.2.2.2.1.getD i Dz2).2.1 + (m : Int))) with
   | false => rfl
   | true =>
    simp only [cond_true]
    rw [wr_eq (n := (m : Int) + 1) (by omega) (by omega)]
    exact f28_20_loop p t q o l c i hi hl k (m + 1) (by omega)
/-- How many drops stand at i. -/
def dn (p : S9) (i : Nat) : Nat := bif beq (p.2.2.2.2.2.2.2.1.getD i Dz2).1 42 then dc p.2.2.2.2.2.2.2.1 i (p.2.2.2.2.2.2.2.1.getD i Dz2).2.1 (p.2.2.2.2.2.2.2.1.length - i - 1) 1 else 0
theorem f64_ok (p : S9) (i : Nat) (hi : i < p.2.2.2.2.2.2.2.1.length) (hl : p.2.2.2.2.2.2.2.1.length ≤ 1048576) (hn : NB (p.2.2.2.2.2.2.2.1.getD i Dz2)) : f64 (p, (i : Int), ()) = some (((dn p i : Int), ()), ()) := by
 have h := f64_8_loop p i hi hl (p.2.2.2.2.2.2.2.1.length - i) 0 (by omega)
 have h0 : loopF f64_8 ((i : Int), (p, ()), (0 : Int), ()) = some ((dc p.2.2.2.2.2.2.2.1 i (p.2.2.2.2.2.2.2.1.getD i Dz2).2.1 (p.2.2.2.2.2.2.2.1.length - i) 0 : Int), ()) := h
 simp only [f64]
 rw [h0]
 have hk : p.2.2.2.2.2.2.2.1.length - i = (p.2.2.2.2.2.2.2.1.length - i - 1) + 1 := by omega
 have hA : I64 (p.2.2.2.2.2.2.2.1.getD i Dz2).2.1 := hn.1
 unfold I64 at hA
 have hdc : dc p.2.2.2.2.2.2.2.1 i (p.2.2.2.2.2.2.2.1.getD i Dz2).2.1 (p.2.2.2.2.2.2.2.1.length - i) 0 = dn p i := by
  rw [hk]
  unfold dn
  simp only [dc, Nat.add_zero]
  rw [show (p.2.2.2.2.2.2.2.1.getD i Dz2).2.1 + ((0 : Nat) : Int) = (p.2.2.2.2.2.2.2.1.getD i Dz2).2.1 by omega, wr_eq hA.1 (by omega), beq_self]
  rfl
 rw [hdc]
 rfl
/-! ### Two at a time -/
abbrev Q0 : S7 := ((0 : Int), (0 : Int), (0 : Int), (0 : Int), (0 : Int), (0 : Int), (0 : Int))
/-- What n and the next one x do together. -/
def tw2 (n x : S2) (ks : List S1) (c : Int) : Option S7 :=
 bif (((beq n.1 18) && (ble 13 n.2.2.1)) && ((beq x.1 20) || (beq x.1 21))) && (beq x.2.1 (wr (-1 - n.2.1))) then some (43, n.2.1, n.2.2.1, n.2.2.2.1, n.2.2.2.2, x.2.2.1, bif beq x.1 20 then 1 else 0)
 else bif bne n.1 4 then none
 else bif (((beq x.1 18) && (beq x.2.2.2.1 (wr (-1 - n.2.1)))) && (bne x.2.2.2.2 n.2.1)) && (bne x.2.2.2.2 (wr (-1 - n.2.1))) then some (44, x.2.1, x.2.2.1, x.2.2.2.2, n.2.2.1, 1, n.2.1)
 else bif (((beq x.1 18) && (beq x.2.2.2.2 (wr (-1 - n.2.1)))) && (bne x.2.2.2.1 n.2.1)) && (bne x.2.2.2.1 (wr (-1 - n.2.1))) then some (44, x.2.1, x.2.2.1, x.2.2.2.1, n.2.2.1, 0, n.2.1)
 else bif ((((beq x.1 15) && (beq x.2.2.2.1 (wr (-1 - n.2.1)))) && (bne x.2.2.1 n.2.1)) && (bne x.2.2.1 (wr (-1 - n.2.1)))) && (beq (ks.getD n.2.2.1.toNat Dz1).1 4) then some (45, x.2.1, x.2.2.1, n.2.2.1, c, 0, n.2.1)
 else none
def tw (p : S9) (i : Nat) (c : Int) : Option S7 := bif ble (p.2.2.2.2.2.2.2.1.length : Int) ((i + 1 : Nat) : Int) then none else tw2 (p.2.2.2.2.2.2.2.1.getD i Dz2) (p.2.2.2.2.2.2.2.1.getD (i + 1) Dz2) p.2.2.2.2.2.2.1 c
def two (o : Option S7) : (S7 × Bool × Unit) × Unit := match o with
 | some q => ((q, true, ()), ())
 | none => ((Q0, false, ()), ())
theorem f65_ok (p : S9) (i : Nat) (c : Int) (hi : i < p.2.2.2.2.2.2.2.1.length) (hl : p.2.2.2.2.2.2.2.1.length ≤ 1048576) (hk : (p.2.2.2.2.2.2.2.1.getD i Dz2).1 = 4 → inR (p.2.2.2.2.2.2.2.1.getD i Dz2).2.2.1 (p.2.2.2.2.2.2.1.length : Int) = true) : f65 (p, (i : Int), c, ()) = some (two (tw p i c)) := by
 simp only [f65, tw]
 rw [wr_succ hi hl]
 cases h : ble (p.2.2.2.2.2.2.2.1.length : Int) ((i + 1 : Nat) : Int) with
 | true => rfl
 | false =>
  have h' : i + 1 < p.2.2.2.2.2.2.2.1.length := by
   have : ¬ ((p.2.2.2.2.2.2.2.1.length : Int) ≤ ((i + 1 : Nat) : Int)) := fun hh => by
    rw [ble_true hh] at h
    cases h
   omega
  rw [inR_nat hi, inR_nat h']
  simp only [cond_false, cond_true, Int.toNat_natCast]
  generalize p.2.2.2.2.2.2.2.1.getD i Dz2 = n at hk
  generalize p.2.2.2.2.2.2.2.1.getD (i + 1) Dz2 = x
  unfold tw2
  cases (((beq n.1 18) && (ble 13 n.2.2.1)) && ((beq x.1 20) || (beq x.1 21))) && (beq x.2.1 (wr (-1 - n.2.1))) with
  | true =>
   simp only [cond_true]
   cases beq x.1 20 <;> rfl
  | false =>
   simp only [cond_false]
   cases h4 : bne n.1 4 with
   | true => rfl
   | false =>
    rw [hk (bne_false h4)]
    simp only [cond_false, cond_true]
    cases (((beq x.1 18) && (beq x.2.2.2.1 (wr (-1 - n.2.1)))) && (bne x.2.2.2.2 n.2.1)) && (bne x.2.2.2.2 (wr (-1 - n.2.1))) with
    | true => rfl
    | false =>
     simp only [cond_false]
     cases (((beq x.1 18) && (beq x.2.2.2.2 (wr (-1 - n.2.1)))) && (bne x.2.2.2.1 n.2.1)) && (bne x.2.2.2.1 (wr (-1 - n.2.1))) with
     | true => rfl
     | false =>
      simp only [cond_false]
      cases (((beq x.1 15) && (beq x.2.2.2.1 (wr (-1 - n.2.1)))) && (bne x.2.2.1 n.2.1)) && (bne x.2.2.1 (wr (-1 - n.2.1))) with
      | false => rfl
      | true =>
       simp only [joinB, cond_true, Option.bind_some, Bool.true_and]
       cases beq (p.2.2.2.2.2.2.1.getD n.2.2.1.toNat Dz1).1 4 <;> rfl
end Go.Ev.L6
namespace Go.Ev.L6
open Go.Proofs
abbrev ownQ (n : S2) : S7 := (n.1, n.2.1, n.2.2.1, n.2.2.2.1, n.2.2.2.2, 0, 0)
abbrev OtT := (S9 × Int × ((List S8) × Int × Unit) × (S7 × Unit) × (S7 × Unit) × Unit) ⊕ (S9 × Int × ((List S8) × Int × Unit) × (S7 × Unit) × Unit)
def ot (t : S9) (o : Int) (l : List S8) (c : Int) (q w : S7) (r : Option (S7 × Int)) : OtT := match r with
 | some r => .inr (t, o, (l, r.2, ()), (r.1, ()), ())
 | none => .inl (t, o, (l, c, ()), (q, ()), (w, ()), ())
theorem f28_17_ok (p : S9) (q w : S7) (l : List S8) (c : Int) (i : Nat) (hi : i < p.2.2.2.2.2.2.2.1.length) (hl : p.2.2.2.2.2.2.2.1.length ≤ 1048576) :
  f28_17 (p, (i : Int), (l, c, ()), (p, ()), (q, ()), (p.2.2.2.2.2.2.2.1.getD i Dz2, ()), (w, ()), beq (p.2.2.2.2.2.2.2.1.getD i Dz2).1 42, ()) = some (bif ble 2 (dn p i : Int) then .inr (p, (i : Int), (l, c, ()), ((46, (p.2.2.2.2.2.2.2.1.getD i Dz2).2.1, (dn p i : Int), 0, 0, 0, 0), ()), ()) else .inl (p, (i : Int), (l, c, ()), (p, ()), (q, ()), (p.2.2.2.2.2.2.2.1.getD i Dz2, ()), (w, ()), ())) := by
 unfold dn
 cases h : beq (p.2.2.2.2.2.2.2.1.getD i Dz2).1 42 with
 | false =>
  simp only [f28_17, cond_false]
  rfl
 | true =>
  simp only [f28_17, cond_true]
  have h1 : loopF f28_20 (p, (i : Int), (l, c, ()), (p, ()), (q, ()), (p.2.2.2.2.2.2.2.1.getD i Dz2, ()), (w, ()), (1 : Int), ()) = _ := f28_20_loop p p q w l c i hi hl (p.2.2.2.2.2.2.2.1.length - i - 1) 1 (by omega)
  rw [h1]
  simp only [Option.bind_some]
  cases ble 2 ((dc p.2.2.2.2.2.2.2.1 i (p.2.2.2.2.2.2.2.1.getD i Dz2).2.1 (p.2.2.2.2.2.2.2.1.length - i - 1) 1 : Nat) : Int) <;> rfl
theorem f28_97_ok (t : S9) (o : Int) (l : List S8) (c : Int) (q w : S7) (n x : S2) (b : Bool) : f28_97 (t, o, (l, c, ()), (q, ()), (n, ()), (w, ()), (x, ()), b, ()) = some (ot t o l c q w (bif b then some ((45, x.2.1, x.2.2.1, n.2.2.1, wr (wr (c + 1) - 1), 0, n.2.1), wr (c + 1)) else none)) := by
 cases b <;> rfl
/-- The last chance: a field of a table. -/
def o89 (n x : S2) (ks : List S1) (T c : Int) (b : Bool) : Option (S7 × Int) := bif b then some ((44, x.2.1, x.2.2.1, x.2.2.2.1, n.2.2.1, 0, n.2.1), c) else bif ((((beq n.1 4) && (beq (ks.getD n.2.2.1.toNat Dz1).1 4)) && (beq x.1 15)) && (beq x.2.2.2.1 T)) && ((bne x.2.2.1 n.2.1) && (bne x.2.2.1 T)) then some ((45, x.2.1, x.2.2.1, n.2.2.1, wr (wr (c + 1) - 1), 0, n.2.1), wr (c + 1)) else none
theorem f28_89_ok (t p : S9) (o : Int) (l : List S8) (c T : Int) (q w : S7) (n x : S2) (b : Bool) (hk : n.1 = 4 → inR n.2.2.1 (p.2.2.2.2.2.2.1.length : Int) = true) : f28_89 (t, o, (l, c, ()), (p, ()), (q, ()), (n, ()), (w, ()), (x, ()), (T, ()), b, ()) = some (ot t o l c q w (o89 n x p.2.2.2.2.2.2.1 T c b)) := by
 unfold o89
 cases b with
 | true => rfl
 | false =>
  simp only [f28_89, cond_false, joinB_eq]
  cases h4 : beq n.1 4 with
  | false =>
   simp only [cond_false, Option.bind_some, Bool.false_and]
   rw [f28_97_ok]
   rfl
  | true =>
   rw [hk (beq_iff.1 h4)]
   simp only [cond_true, Option.bind_some, Bool.true_and]
   cases ((beq (p.2.2.2.2.2.2.1.getD n.2.2.1.toNat Dz1).1 4) && (beq x.1 15)) && (beq x.2.2.2.1 T) with
   | false =>
    simp only [cond_false, Bool.false_and]
    rw [f28_97_ok]
    rfl
   | true =>
    simp only [cond_true, Bool.true_and, f69, Option.bind_some]
    rw [f28_97_ok]
    cases (bne x.2.2.1 n.2.1) && (bne x.2.2.1 T) <;> rfl
def o81 (n x : S2) (ks : List S1) (T c : Int) (b : Bool) : Option (S7 × Int) := bif b then some ((44, x.2.1, x.2.2.1, x.2.2.2.2, n.2.2.1, 1, n.2.1), c) else o89 n x ks T c ((((beq n.1 4) && (beq x.1 18)) && (beq x.2.2.2.2 T)) && ((bne x.2.2.2.1 n.2.1) && (bne x.2.2.2.1 T)))
theorem f28_81_ok (t p : S9) (o : Int) (l : List S8) (c T : Int) (q w : S7) (n x : S2) (b : Bool) (hk : n.1 = 4 → inR n.2.2.1 (p.2.2.2.2.2.2.1.length : Int) = true) : f28_81 (t, o, (l, c, ()), (p, ()), (q, ()), (n, ()), (w, ()), (x, ()), (T, ()), b, ()) = some (ot t o l c q w (o81 n x p.2.2.2.2.2.2.1 T c b)) := by
 unfold o81
 cases b with
 | true => rfl
 | false =>
  simp only [f28_81, cond_false]
  cases ((beq n.1 4) && (beq x.1 18)) && (beq x.2.2.2.2 T) with
  | false =>
   simp only [cond_false, Bool.false_and]
   rw [f28_89_ok _ _ _ _ _ _ _ _ _ _ _ hk]
   cases o89 n x p.2.2.2.2.2.2.1 T c false <;> rfl
  | true =>
   simp only [cond_true, Bool.true_and, f69, Option.bind_some]
   rw [f28_89_ok _ _ _ _ _ _ _ _ _ _ _ hk]
   cases o89 n x p.2.2.2.2.2.2.1 T c ((bne x.2.2.2.1 n.2.1) && (bne x.2.2.2.1 T)) <;> rfl
def o61 (n x : S2) (ks : List S1) (T c : Int) (b : Bool) : Option (S7 × Int) := bif b then some ((43, n.2.1, n.2.2.1, n.2.2.2.1, n.2.2.2.2, x.2.2.1, bif beq x.1 20 then 1 else 0), c) else o81 n x ks T c ((((beq n.1 4) && (beq x.1 18)) && (beq x.2.2.2.1 T)) && ((bne x.2.2.2.2 n.2.1) && (bne x.2.2.2.2 T)))
theorem f28_61_ok (t p : S9) (o : Int) (l : List S8) (c T : Int) (q w : S7) (n x : S2) (b : Bool) (hk : n.1 = 4 → inR n.2.2.1 (p.2.2.2.2.2.2.1.length : Int) = true) : f28_61 (t, o, (l, c, ()), (p, ()), (q, ()), (n, ()), (w, ()), (x, ()), (T, ()), b, ()) = some (ot t o l c q w (o61 n x p.2.2.2.2.2.2.1 T c b)) := by
 unfold o61
 cases b with
 | true =>
  simp only [f28_61, cond_true]
  cases beq x.1 20 <;> rfl
 | false =>
  simp only [f28_61, cond_false]
  cases ((beq n.1 4) && (beq x.1 18)) && (beq x.2.2.2.1 T) with
  | false =>
   simp only [cond_false, Bool.false_and]
   rw [f28_81_ok _ _ _ _ _ _ _ _ _ _ _ hk]
   cases o81 n x p.2.2.2.2.2.2.1 T c false <;> rfl
  | true =>
   simp only [cond_true, Bool.true_and, f69, Option.bind_some]
   rw [f28_81_ok _ _ _ _ _ _ _ _ _ _ _ hk]
   cases o81 n x p.2.2.2.2.2.2.1 T c ((bne x.2.2.2.2 n.2.1) && (bne x.2.2.2.2 T)) <;> rfl
/-! ### Both the same -/
def cs (q : S7) (c : Int) : Int := bif beq q.1 45 then wr (c + 1) else c
theorem o61_tw (n x : S2) (ks : List S1) (c : Int) (h0 : 0 ≤ c) (h1 : c ≤ 4611686018427387904) : o61 n x ks (wr (-1 - n.2.1)) c ((((beq n.1 18) && (ble 13 n.2.2.1)) && ((beq x.1 20) || (beq x.1 21))) && (beq x.2.1 (wr (-1 - n.2.1)))) = (tw2 n x ks c).map fun q => (q, cs q c) := by
 unfold o61 o81 o89 tw2
 rw [bne_not n.1 4, wr_eq (n := c + 1) (by omega) (by omega), wr_eq (n := c + 1 - 1) (by omega) (by omega), show c + 1 - 1 = c by omega]
 generalize wr (-1 - n.2.1) = T
 generalize hcs : cs = CS
 have e1 : ∀ a b d e f : Int, CS (43, a, b, d, e, f, bif beq x.1 20 then 1 else 0) c = c := fun _ _ _ _ _ => by subst hcs; rfl
 have e2 : ∀ a b d e f g : Int, CS (44, a, b, d, e, f, g) c = c := fun _ _ _ _ _ _ => by subst hcs; rfl
 have e3 : ∀ a b d e f g : Int, CS (45, a, b, d, e, f, g) c = c + 1 := fun _ _ _ _ _ _ => by
  subst hcs
  exact wr_eq (by omega) (by omega)
 cases (((beq n.1 18) && (ble 13 n.2.2.1)) && ((beq x.1 20) || (beq x.1 21))) && (beq x.2.1 T) with
 | true =>
  simp only [cond_true, Option.map_some, e1]
 | false =>
  cases beq n.1 4 with
  | false => rfl
  | true =>
   simp only [cond_false, Bool.true_and, Bool.not_true]
   rw [← Bool.and_assoc (beq x.1 18 && beq x.2.2.2.1 T)]
   cases ((beq x.1 18 && beq x.2.2.2.1 T) && bne x.2.2.2.2 n.2.1) && bne x.2.2.2.2 T with
   | true =>
    simp only [cond_true, Option.map_some, e2]
   | false =>
    simp only [cond_false]
    rw [← Bool.and_assoc (beq x.1 18 && beq x.2.2.2.2 T)]
    cases ((beq x.1 18 && beq x.2.2.2.2 T) && bne x.2.2.2.1 n.2.1) && bne x.2.2.2.1 T with
    | true =>
     simp only [cond_true, Option.map_some, e2]
    | false =>
     simp only [cond_false]
     rw [show ((((beq (ks.getD n.2.2.1.toNat Dz1).1 4) && (beq x.1 15)) && (beq x.2.2.2.1 T)) && ((bne x.2.2.1 n.2.1) && (bne x.2.2.1 T))) = (((((beq x.1 15) && (beq x.2.2.2.1 T)) && (bne x.2.2.1 n.2.1)) && (bne x.2.2.1 T)) && (beq (ks.getD n.2.2.1.toNat Dz1).1 4)) by
      cases beq (ks.getD n.2.2.1.toNat Dz1).1 4 <;> cases beq x.1 15 <;> cases beq x.2.2.2.1 T <;> cases bne x.2.2.1 n.2.1 <;> cases bne x.2.2.1 T <;> rfl]
     cases (((((beq x.1 15) && (beq x.2.2.2.1 T)) && (bne x.2.2.1 n.2.1)) && (bne x.2.2.1 T)) && (beq (ks.getD n.2.2.1.toNat Dz1).1 4)) with
     | true =>
      simp only [cond_true, Option.map_some, e3]
     | false => rfl
/-- The quick instruction at i, and the next cache. -/
def qk (p : S9) (i : Nat) (c : Int) : S7 × Int := bif ble 2 (dn p i : Int) then ((46, (p.2.2.2.2.2.2.2.1.getD i Dz2).2.1, (dn p i : Int), 0, 0, 0, 0), c) else match tw p i c with
 | some q => (q, cs q c)
 | none => (ownQ (p.2.2.2.2.2.2.2.1.getD i Dz2), c)
theorem cs_b (q : S7) (c : Int) (h0 : 0 ≤ c) (h1 : c ≤ 4611686018427387904) : c ≤ cs q c ∧ cs q c ≤ c + 1 := by
 unfold cs
 rw [wr_eq (n := c + 1) (by omega) (by omega)]
 cases beq q.1 45
 ·exact ⟨Int.le_refl _, by show c ≤ c + 1; omega⟩
 ·exact ⟨by show c ≤ c + 1; omega, Int.le_refl _⟩
theorem qk_b (p : S9) (i : Nat) (c : Int) (h0 : 0 ≤ c) (h1 : c ≤ 4611686018427387904) : c ≤ (qk p i c).2 ∧ (qk p i c).2 ≤ c + 1 := by
 unfold qk
 cases ble 2 (dn p i : Int) with
 | true => exact ⟨Int.le_refl _, by show c ≤ c + 1; omega⟩
 | false =>
  simp only [cond_false]
  cases tw p i c with
  | none => exact ⟨Int.le_refl _, by show c ≤ c + 1; omega⟩
  | some q => exact cs_b q c h0 h1
theorem f28_ok (p : S9) (l : List S8) (c : Int) (i : Nat) (hi : i < p.2.2.2.2.2.2.2.1.length) (hl : p.2.2.2.2.2.2.2.1.length ≤ 1048576) (hk : (p.2.2.2.2.2.2.2.1.getD i Dz2).1 = 4 → inR (p.2.2.2.2.2.2.2.1.getD i Dz2).2.2.1 (p.2.2.2.2.2.2.1.length : Int) = true) (h0 : 0 ≤ c) (h1 : c ≤ 4611686018427387904) :
  f28 (p, (i : Int), (l, c, ()), ()) = some (((qk p i c).1, ()), (l, (qk p i c).2, ()), ()) := by
 simp only [f28]
 rw [inR_nat hi, Int.toNat_natCast]
 simp only [cond_true]
 rw [f28_17_ok p _ _ l c i hi hl]
 unfold qk tw
 simp only [Option.bind_some]
 cases ble 2 (dn p i : Int) with
 | true => rfl
 | false =>
  simp only [cond_false]
  rw [wr_succ hi hl]
  cases h : ble (p.2.2.2.2.2.2.2.1.length : Int) ((i + 1 : Nat) : Int) with
  | true => rfl
  | false =>
   have h' : i + 1 < p.2.2.2.2.2.2.2.1.length := by
    have : ¬ ((p.2.2.2.2.2.2.2.1.length : Int) ≤ ((i + 1 : Nat) : Int)) := fun hh => by
     rw [ble_true hh] at h
     cases h
    omega
   rw [inR_nat h', Int.toNat_natCast]
   simp only [cond_false, cond_true]
   generalize p.2.2.2.2.2.2.2.1.getD i Dz2 = n at hk
   generalize p.2.2.2.2.2.2.2.1.getD (i + 1) Dz2 = x
   rw [f28_61_ok p p _ _ _ _ _ _ _ _ _ hk, o61_tw n x _ c h0 h1]
   cases tw2 n x p.2.2.2.2.2.2.1 c <;> rfl
end Go.Ev.L6
namespace Go.Ev.L6
open Go.Proofs
def st1 (p : S9) (i : Nat) (t : List S7 × Int) : List S7 × Int := (t.1 ++ [(qk p i t.2).1], (qk p i t.2).2)
/-- A proto that both can make quick. -/
structure PQ (p : S9) : Prop where
 len : p.2.2.2.2.2.2.2.1.length ≤ 1048576
 nb : ∀ i, i < p.2.2.2.2.2.2.2.1.length → NB (p.2.2.2.2.2.2.2.1.getD i Dz2)
 kon : ∀ i, i < p.2.2.2.2.2.2.2.1.length → (p.2.2.2.2.2.2.2.1.getD i Dz2).1 = 4 → inR (p.2.2.2.2.2.2.2.1.getD i Dz2).2.2.1 (p.2.2.2.2.2.2.1.length : Int) = true
theorem blt_ble (n : Nat) : blt 1 (n : Int) = ble 2 (n : Int) := by
 unfold blt ble
 rw [decide_eq_decide]
 omega
def I1 (C : Int) (i : Nat) (t : List S7 × Int) : Prop := t.1.length = i ∧ C ≤ t.2 ∧ t.2 ≤ C + i
theorem I1_st {p : S9} {C : Int} (h0 : 0 ≤ C) (h1 : C ≤ 2305843009213693952) {i : Nat} {t : List S7 × Int} (hi : i ≤ 1048576) (h : I1 C i t) : I1 C (i + 1) (st1 p i t) := by
 obtain ⟨a, b, d⟩ := h
 have := qk_b p i t.2 (by omega) (by omega)
 refine ⟨by simp only [st1, List.length_append, List.length_cons, List.length_nil]; omega, ?_, ?_⟩
 ·show C ≤ (qk p i t.2).2
  omega
 ·show (qk p i t.2).2 ≤ C + ((i + 1 : Nat) : Int)
  omega
theorem f25_28_loop (X : (List S8) × Int × Unit) (pr : List S8) (p : S9) (v9 : List S9) (v10 v11 C : Int) (h : PQ p) (h0 : 0 ≤ C) (h1 : C ≤ 2305843009213693952) :
  loopF f25_28 (X, (pr, C, ()), (p, ()), ([], ()), v9, v10, v11, p.2.2.2.2.2.2.2.1, (p.2.2.2.2.2.2.2.1.length : Int), (0 : Int), ()) = some (X, (pr, (itr (st1 p) p.2.2.2.2.2.2.2.1.length 0 ([], C)).2, ()), ((itr (st1 p) p.2.2.2.2.2.2.2.1.length 0 ([], C)).1, ()), v9, v10, v11, ()) ∧ I1 C p.2.2.2.2.2.2.2.1.length (itr (st1 p) p.2.2.2.2.2.2.2.1.length 0 ([], C)) := by
 have hl := h.len
 refine loop_itr (body := f25_28) (mk := fun i (t : List S7 × Int) => (X, (pr, t.2, ()), (p, ()), (t.1, ()), v9, v10, v11, p.2.2.2.2.2.2.2.1, (p.2.2.2.2.2.2.2.1.length : Int), (i : Int), ())) (fin := fun t => (X, (pr, t.2, ()), (t.1, ()), v9, v10, v11, ())) (step := st1 p) (I := I1 C) (n := p.2.2.2.2.2.2.2.1.length) (fun i t hi ht => ?_) (fun i t hi ht => I1_st h0 h1 (by omega) ht) (fun t ht => ?_) _ 0 ([], C) (by omega) ⟨rfl, Int.le_refl _, by omega⟩
 ·obtain ⟨a, b, d⟩ := ht
  simp only [f25_28]
  rw [blt_nat hi, inR_nat hi, f64_ok p i hi hl (h.nb i hi), f65_ok p i t.2 hi hl (h.kon i hi), wr_succ hi hl, Int.toNat_natCast]
  simp only [cond_true, Option.bind_some]
  rw [blt_ble]
  unfold st1 qk
  cases ble 2 (dn p i : Int) with
  | true =>
   simp only [cond_true]
   rw [nle_true (by simp only [List.length_cons, List.length_nil]; omega)]
   rfl
  | false =>
   simp only [cond_false]
   cases tw p i t.2 with
   | none =>
    simp only [two, cond_false]
    rw [nle_true (by simp only [List.length_cons, List.length_nil]; omega)]
    rfl
   | some q =>
    simp only [two, cond_true]
    rw [nle_true (by simp only [List.length_cons, List.length_nil]; omega)]
    unfold cs
    cases beq q.1 45 <;> rfl
 ·simp only [f25_28]
  rw [blt_not]
  rfl
theorem f8_36_loop (X : (List S8) × Int × Unit) (pr : List S8) (p : S9) (v9 : List S9) (v10 v11 C : Int) (h : PQ p) (h0 : 0 ≤ C) (h1 : C ≤ 2305843009213693952) :
  loopF f8_36 (X, (pr, C, ()), (p, ()), ([], ()), v9, v10, v11, (p.2.2.2.2.2.2.2.1.length : Int), (0 : Int), ()) = some (X, (pr, (itr (st1 p) p.2.2.2.2.2.2.2.1.length 0 ([], C)).2, ()), ((itr (st1 p) p.2.2.2.2.2.2.2.1.length 0 ([], C)).1, ()), v9, v10, v11, ()) := by
 have hl := h.len
 refine (loop_itr (body := f8_36) (mk := fun i (t : List S7 × Int) => (X, (pr, t.2, ()), (p, ()), (t.1, ()), v9, v10, v11, (p.2.2.2.2.2.2.2.1.length : Int), (i : Int), ())) (fin := fun t => (X, (pr, t.2, ()), (t.1, ()), v9, v10, v11, ())) (step := st1 p) (I := I1 C) (n := p.2.2.2.2.2.2.2.1.length) (fun i t hi ht => ?_) (fun i t hi ht => I1_st h0 h1 (by omega) ht) (fun t ht => ?_) _ 0 ([], C) (by omega) ⟨rfl, Int.le_refl _, by omega⟩).1
 ·obtain ⟨a, b, d⟩ := ht
  simp only [f8_36]
  rw [blt_nat hi, f28_ok p pr t.2 i hi hl (h.kon i hi) (by omega) (by omega), wr_succ hi hl]
  simp only [cond_true, Option.bind_some]
  rw [nle_true (by simp only [List.length_cons, List.length_nil]; omega)]
  rfl
 ·simp only [f8_36]
  rw [blt_not]
  rfl
/-! ### All protos -/
def st2 (c : S25) (i : Nat) (t : List S8 × Int) : List S8 × Int := (t.1 ++ [(itr (st1 (c.getD i P0)) (c.getD i P0).2.2.2.2.2.2.2.1.length 0 ([], t.2)).1], (itr (st1 (c.getD i P0)) (c.getD i P0).2.2.2.2.2.2.2.1.length 0 ([], t.2)).2)
def I2 (i : Nat) (t : List S8 × Int) : Prop := t.1.length = i ∧ 0 ≤ t.2 ∧ t.2 ≤ 1048576 * (i : Int) ∧ ∀ x, x ∈ t.1 → x.length ≤ 1048576
theorem I2_st {c : S25} (hc : c.length ≤ 1048576) (hp : ∀ i, i < c.length → PQ (c.getD i P0)) {i : Nat} {t : List S8 × Int} (hi : i < c.length) (h : I2 i t) : I2 (i + 1) (st2 c i t) := by
 obtain ⟨a, b, d, e⟩ := h
 have h1 := (f25_28_loop ([], 0, ()) [] (c.getD i P0) [] 0 0 t.2 (hp i hi) b (by omega)).2
 have h2 := (hp i hi).len
 obtain ⟨a1, b1, d1⟩ := h1
 refine ⟨by simp only [st2, List.length_append, List.length_cons, List.length_nil]; omega, ?_, ?_, fun x hx => ?_⟩
 ·show 0 ≤ (itr (st1 (c.getD i P0)) (c.getD i P0).2.2.2.2.2.2.2.1.length 0 ([], t.2)).2
  omega
 ·show (itr (st1 (c.getD i P0)) (c.getD i P0).2.2.2.2.2.2.2.1.length 0 ([], t.2)).2 ≤ 1048576 * ((i + 1 : Nat) : Int)
  omega
 ·simp only [st2, List.mem_append, List.mem_singleton] at hx
  rcases hx with hx | rfl
  ·exact e x hx
  ·omega
def prep (c : S25) : List S8 × Int := itr (st2 c) c.length 0 ([], 0)
theorem f25_12_loop (X : (List S8) × Int × Unit) (c : S25) (hc : c.length ≤ 1048576) (hp : ∀ i, i < c.length → PQ (c.getD i P0)) :
  loopF f25_12 (X, ([], (0 : Int), ()), c, (c.length : Int), (0 : Int), ()) = some (X, ((prep c).1, (prep c).2, ()), ()) ∧ I2 c.length (prep c) := by
 refine loop_itr (body := f25_12) (mk := fun i (t : List S8 × Int) => (X, (t.1, t.2, ()), c, (c.length : Int), (i : Int), ())) (fin := fun t => (X, (t.1, t.2, ()), ())) (step := st2 c) (I := I2) (n := c.length) (fun i t hi ht => ?_) (fun i t hi ht => I2_st hc hp hi ht) (fun t ht => ?_) _ 0 ([], (0 : Int)) (by omega) ⟨rfl, Int.le_refl _, Int.le_refl _, fun x hx => by cases hx⟩
 ·obtain ⟨a, b, d, e⟩ := ht
  simp only [f25_12]
  rw [blt_nat hi, inR_nat hi, Int.toNat_natCast]
  simp only [cond_true]
  rw [(f25_28_loop _ _ _ _ _ _ _ (hp i hi) b (by omega)).1]
  simp only [Option.bind_some]
  rw [nle_true (by simp only [List.length_cons, List.length_nil]; omega), wr_succ hi hc]
  rfl
 ·simp only [f25_12]
  rw [blt_not]
  rfl
theorem f8_20_loop (X : (List S8) × Int × Unit) (c : S25) (hc : c.length ≤ 1048576) (hp : ∀ i, i < c.length → PQ (c.getD i P0)) :
  loopF f8_20 (X, ([], (0 : Int), ()), c, (c.length : Int), (0 : Int), ()) = some (X, ((prep c).1, (prep c).2, ()), ()) := by
 refine (loop_itr (body := f8_20) (mk := fun i (t : List S8 × Int) => (X, (t.1, t.2, ()), c, (c.length : Int), (i : Int), ())) (fin := fun t => (X, (t.1, t.2, ()), ())) (step := st2 c) (I := I2) (n := c.length) (fun i t hi ht => ?_) (fun i t hi ht => I2_st hc hp hi ht) (fun t ht => ?_) _ 0 ([], (0 : Int)) (by omega) ⟨rfl, Int.le_refl _, Int.le_refl _, fun x hx => by cases hx⟩).1
 ·obtain ⟨a, b, d, e⟩ := ht
  simp only [f8_20]
  rw [blt_nat hi, inR_nat hi, Int.toNat_natCast]
  simp only [cond_true]
  rw [f8_36_loop _ _ _ _ _ _ _ (hp i hi) b (by omega)]
  simp only [Option.bind_some]
  rw [nle_true (by simp only [List.length_cons, List.length_nil]; omega), wr_succ hi hc]
  rfl
 ·simp only [f8_20]
  rw [blt_not]
  rfl
theorem ro_k : ro 4 1 = 9 := by kernel_rfl
theorem fok9 {c : S25} {p : S9} {x : Int} (hl : p.2.2.2.2.2.2.1.length ≤ 1048576) (h : fok c p 9 x = true) : inR x (p.2.2.2.2.2.2.1.length : Int) = true := by
 have h2 : fok c p 9 x = (ble 0 x && ble x (wr ((p.2.2.2.2.2.2.1.length : Int) - 1))) := by kernel_rfl
 rw [h2, Bool.and_eq_true, ble_iff, ble_iff, wr_eq (by omega) (by omega)] at h
 exact inR_true h.1 (by omega)
theorem pq_of {c : S25} (w : CW c) (h : shp c = none) (i : Nat) (hi : i < c.length) : PQ (c.getD i P0) := by
 have pw := pw_of w h i hi
 refine ⟨pw.len, fun j hj => (pw.ins j hj).nb, fun j hj h4 => ?_⟩
 have hf := (pw.ins j hj).fo 1 (by omega)
 rw [h4, ro_k] at hf
 exact fok9 (w.consts _ (getD_mem hi)) hf
theorem wkC_code {c : S25} {i : Nat} {e : S26} (h : wkC c i = some e) : bne e.1 0 = true := by
 unfold wkC at h
 split at h
 ·rename_i r hr
  cases hb : bne r.1.2.1 0 with
  | false => rw [hb] at h; cases h
  | true =>
   rw [hb] at h
   cases h
   exact hb
 ·cases h
theorem chk_zero {c : S25} (h : bne (chk c).1 0 = false) : shp c = none ∧ chk c = (0, 0, 0) := by
 unfold chk at h ⊢
 cases hs : shp c with
 | some e =>
  rw [hs] at h
  exact absurd (shp_code hs) (by rw [h]; exact Bool.false_ne_true)
 | none =>
  rw [hs] at h
  refine ⟨rfl, ?_⟩
  simp only [] at h ⊢
  cases hf : fnd (wkC c) c.length 0 with
  | none => rfl
  | some e =>
   rw [hf] at h
   obtain ⟨j, _, _, hj⟩ := fnd_some _ _ hf
   exact absurd (wkC_code hj) (by rw [show bne e.1 0 = false from h]; exact Bool.false_ne_true)
/-- The quick code that both make. -/
noncomputable def quick (c : S25) : List S8 × Int := bif bne (chk c).1 0 then ([], 0) else prep c
theorem f6_ok (c : S25) (w : CW c) : f6 (c, ()) = some ((quick c, ()), ()) := by
 simp only [f6]
 rw [f24_ok c w]
 simp only [Option.bind_some]
 unfold quick
 cases h : bne (chk c).1 0 with
 | true => rfl
 | false =>
  have hp := fun i hi => pq_of w (chk_zero h).1 i hi
  simp only [f25, cond_false]
  rw [(f25_12_loop _ c w.len hp).1]
  rfl
theorem f8_ok (c : S25) (w : CW c) : f8 (c, ()) = some ((((quick c).1, (quick c).2, ()), ()), ()) := by
 simp only [f8]
 rw [f27_ok c w]
 simp only [Option.bind_some]
 unfold quick
 cases h : bne (chk c).1 0 with
 | true =>
  have : beq (chk c).1 0 = false := by
   rw [bne_not, Bool.not_eq_true'] at h
   exact h
  rw [this]
  rfl
 | false =>
  have hp := fun i hi => pq_of w (chk_zero h).1 i hi
  rw [(chk_zero h).2, beq_self]
  simp only [cond_false, Bool.and_self, Bool.not_true]
  rw [f8_20_loop _ c w.len hp]
  rfl
structure QB (q : List S8 × Int) : Prop where
 len : q.1.length ≤ 1048576
 each : ∀ x, x ∈ q.1 → x.length ≤ 1048576
theorem quick_b (c : S25) (w : CW c) : QB (quick c) := by
 unfold quick
 cases h : bne (chk c).1 0 with
 | true => exact ⟨by show 0 ≤ 1048576; omega, fun x hx => by cases hx⟩
 | false =>
  have hp := fun i hi => pq_of w (chk_zero h).1 i hi
  obtain ⟨a, b, d, e⟩ := (f25_12_loop ([], 0, ()) c w.len hp).2
  exact ⟨by show (prep c).1.length ≤ 1048576; rw [a]; exact w.len, e⟩
end Go.Ev.L6
namespace Go.Ev.L6
open Go.Proofs
theorem loop_ex {A B τ : Type} {body : A → Option (A ⊕ B)} {mk : Nat → τ → A} {fin : τ → B} {I : Nat → τ → Prop} {n : Nat}
  (hs : ∀ i t, i < n → I i t → ∃ t', body (mk i t) = some (.inl (mk (i + 1) t')) ∧ I (i + 1) t')
  (hf : ∀ t, I n t → body (mk n t) = some (.inr (fin t))) :
  ∀ k i t, i + k = n → I i t → ∃ t', loopF body (mk i t) = some (fin t') ∧ I n t'
 | 0, i, t, hi, ht => by
  obtain rfl : i = n := by omega
  rw [loopF_step, hf t ht]
  exact ⟨t, rfl, ht⟩
 | k + 1, i, t, hi, ht => by
  obtain ⟨t', h1, h2⟩ := hs i t (by omega) ht
  rw [loopF_step, h1]
  exact loop_ex hs hf k (i + 1) t' (by omega) h2
theorem getD_set_eq {α : Type} {l : List α} {i : Nat} {v d : α} (h : i < l.length) : (l.set i v).getD i d = v := by
 rw [List.getD_eq_getElem?_getD, List.getElem?_set_self h]
 rfl
theorem getD_set_ne {α : Type} {l : List α} {i j : Nat} {v d : α} (h : i ≠ j) : (l.set i v).getD j d = l.getD j d := by
 rw [List.getD_eq_getElem?_getD, List.getElem?_set_ne h, ← List.getD_eq_getElem?_getD]
/-! ### The text of a mark -/
theorem f72_16_loop : ∀ (N : Nat) (k : Int) (out : ByteArray), k.toNat ≤ N → 0 ≤ k → (out.size : Int) + k ≤ 2305843009213693952 → ∃ z : ByteArray, loopF f72_16 (k, out, ()) = some (z, ()) ∧ (z.size : Int) ≤ 2305843009213693952
 | 0, k, out, h, h0, h1 => by
  refine ⟨out, ?_, by omega⟩
  rw [loopF_step]
  simp only [f72_16]
  rw [blt_false (show k ≤ 0 by omega)]
  rfl
 | N + 1, k, out, h, h0, h1 => by
  by_cases hk : 0 < k
  ·rw [loopF_step]
   simp only [f72_16]
   have hs : ∀ b, (bytesOf [b] ++ out).size = out.size + 1 := fun b => by
    rw [ByteArray.size_append]
    show 1 + out.size = out.size + 1
    omega
   have hd : k.tdiv 10 = k / 10 := Int.tdiv_eq_ediv_of_nonneg h0
   rw [blt_true hk, nle_true (show _ ≤ 9223372036854775807 by show 1 + out.size ≤ 9223372036854775807; omega), hd, wr_eq (n := k / 10) (by omega) (by omega)]
   exact f72_16_loop N (k / 10) _ (by omega) (by omega) (by rw [hs]; omega)
  ·refine ⟨out, ?_, by omega⟩
   rw [loopF_step]
   simp only [f72_16]
   rw [blt_false (show k ≤ 0 by omega)]
   rfl
theorem f72_ok (k : Int) (h0 : 0 ≤ k) (h1 : k ≤ 2305843009213693952) : ∃ s, f72 (k, ()) = some ((s, ()), ()) := by
 simp only [f72]
 cases ble k 0 with
 | true => exact ⟨_, rfl⟩
 | false =>
  obtain ⟨z, h2, h3⟩ := f72_16_loop k.toNat k ⟨#[]⟩ (Nat.le_refl _) h0 (by show ((0 : Nat) : Int) + k ≤ _; omega)
  simp only [cond_false]
  rw [h2]
  simp only [Option.bind_some]
  rw [nle_true (show _ ≤ 9223372036854775807 by show 1 + z.size ≤ 9223372036854775807; omega)]
  exact ⟨_, rfl⟩
/-! ### Marks in flat rows -/
theorem mk_ok {α : Type} {body : List α × Int × Int × Unit → Option ((List α × Int × Int × Unit) ⊕ (List α × Int × Unit))}
  (hs : ∀ (l : List α) (k : Int) (i : Nat), l.length ≤ 1048576 → i < l.length → 1 ≤ k → k ≤ 1152921504606846976 → ∃ l' k', body (l, k, (i : Int), ()) = some (.inl (l', k', ((i + 1 : Nat) : Int), ())) ∧ l'.length = l.length ∧ k ≤ k' ∧ k' ≤ k + 5)
  (hf : ∀ l k, body (l, k, (l.length : Int), ()) = some (.inr (l, k, ()))) (l : List α) (k : Int) (hl : l.length ≤ 1048576) (h0 : 1 ≤ k) (h1 : k ≤ 576460752303423488) :
  ∃ l' k', loopF body (l, k, (0 : Int), ()) = some (l', k', ()) ∧ l'.length = l.length ∧ k ≤ k' ∧ k' ≤ k + 5 * (l.length : Int) := by
 obtain ⟨t, h2, h3, h4, h5⟩ := loop_ex (body := body) (mk := fun i (t : List α × Int) => (t.1, t.2, (i : Int), ())) (fin := fun t => (t.1, t.2, ())) (I := fun i t => t.1.length = l.length ∧ k ≤ t.2 ∧ t.2 ≤ k + 5 * (i : Int)) (n := l.length) (fun i t hi ht => by
  obtain ⟨a, b, d⟩ := ht
  obtain ⟨l', k', e1, e2, e3, e4⟩ := hs t.1 t.2 i (by omega) (by omega) (by omega) (by omega)
  exact ⟨(l', k'), e1, by show l'.length = _; omega, by show k ≤ k'; omega, by show k' ≤ _; omega⟩) (fun t ht => by
  have := hf t.1 t.2
  rw [ht.1] at this
  exact this) l.length 0 (l, k) (by omega) ⟨rfl, Int.le_refl _, by show k ≤ k + 5 * ((0 : Nat) : Int); omega⟩
 exact ⟨t.1, t.2, h2, h3, h4, h5⟩
theorem f73_ok (l : List S0) (k : Int) (hl : l.length ≤ 1048576) (h0 : 1 ≤ k) (h1 : k ≤ 576460752303423488) : ∃ l' k', f73 (l, k, ()) = some ((k', ()), l', ()) ∧ l'.length = l.length ∧ k ≤ k' ∧ k' ≤ k + 5 * (l.length : Int) := by
 obtain ⟨l', k', h2, h3⟩ := mk_ok (body := f73_8) (fun l k i hl hi h0 h1 => by
  simp only [f73_8, List.length_set]
  rw [blt_nat hi, inR_nat hi, wr_succ hi hl, wr_eq (n := k + 1) (by omega) (by omega), wr_eq (n := k + 1 + 1) (by omega) (by omega)]
  exact ⟨_, _, rfl, by simp only [List.length_set], by omega, by omega⟩) (fun l k => by
  simp only [f73_8]
  rw [blt_not]
  rfl) l k hl h0 h1
 refine ⟨l', k', ?_, h3⟩
 simp only [f73]
 rw [h2]
 rfl
theorem f52_ok (l : List S1) (k : Int) (hl : l.length ≤ 1048576) (h0 : 1 ≤ k) (h1 : k ≤ 576460752303423488) : ∃ l' k', f52 (l, k, ()) = some ((k', ()), l', ()) ∧ l'.length = l.length ∧ k ≤ k' ∧ k' ≤ k + 5 * (l.length : Int) := by
 obtain ⟨l', k', h2, h3⟩ := mk_ok (body := f52_8) (fun l k i hl hi h0 h1 => by
  obtain ⟨s, hs⟩ := f72_ok (k + 1 + 1 + 1) (by omega) (by omega)
  simp only [f52_8, List.length_set]
  rw [blt_nat hi, inR_nat hi, wr_succ hi hl, wr_eq (n := k + 1) (by omega) (by omega), wr_eq (n := k + 1 + 1) (by omega) (by omega), wr_eq (n := k + 1 + 1 + 1) (by omega) (by omega), wr_eq (n := k + 1 + 1 + 1 + 1) (by omega) (by omega), wr_eq (n := k + 1 + 1 + 1 + 1 + 1) (by omega) (by omega), hs]
  exact ⟨_, _, rfl, by simp only [List.length_set], by omega, by omega⟩) (fun l k => by
  simp only [f52_8]
  rw [blt_not]
  rfl) l k hl h0 h1
 refine ⟨l', k', ?_, h3⟩
 simp only [f52]
 rw [h2]
 rfl
theorem f74_ok (l : List S2) (k : Int) (hl : l.length ≤ 1048576) (h0 : 1 ≤ k) (h1 : k ≤ 576460752303423488) : ∃ l' k', f74 (l, k, ()) = some ((k', ()), l', ()) ∧ l'.length = l.length ∧ k ≤ k' ∧ k' ≤ k + 5 * (l.length : Int) := by
 obtain ⟨l', k', h2, h3⟩ := mk_ok (body := f74_8) (fun l k i hl hi h0 h1 => by
  simp only [f74_8, List.length_set]
  rw [blt_nat hi, inR_nat hi, wr_succ hi hl, wr_eq (n := k + 1) (by omega) (by omega), wr_eq (n := k + 1 + 1) (by omega) (by omega), wr_eq (n := k + 1 + 1 + 1) (by omega) (by omega), wr_eq (n := k + 1 + 1 + 1 + 1) (by omega) (by omega), wr_eq (n := k + 1 + 1 + 1 + 1 + 1) (by omega) (by omega)]
  exact ⟨_, _, rfl, by simp only [List.length_set], by omega, by omega⟩) (fun l k => by
  simp only [f74_8]
  rw [blt_not]
  rfl) l k hl h0 h1
 refine ⟨l', k', ?_, h3⟩
 simp only [f74]
 rw [h2]
 rfl
theorem f75_ok (l : List S3) (k : Int) (hl : l.length ≤ 1048576) (h0 : 1 ≤ k) (h1 : k ≤ 576460752303423488) : ∃ l' k', f75 (l, k, ()) = some ((k', ()), l', ()) ∧ l'.length = l.length ∧ k ≤ k' ∧ k' ≤ k + 5 * (l.length : Int) := by
 obtain ⟨l', k', h2, h3⟩ := mk_ok (body := f75_8) (fun l k i hl hi h0 h1 => by
  obtain ⟨s, hs⟩ := f72_ok k (by omega) (by omega)
  simp only [f75_8, List.length_set]
  rw [blt_nat hi, inR_nat hi, wr_succ hi hl, wr_eq (n := k + 1) (by omega) (by omega), wr_eq (n := k + 1 + 1) (by omega) (by omega), wr_eq (n := k + 1 + 1 + 1) (by omega) (by omega), wr_eq (n := k + 1 + 1 + 1 + 1) (by omega) (by omega), hs]
  exact ⟨_, _, rfl, by simp only [List.length_set], by omega, by omega⟩) (fun l k => by
  simp only [f75_8]
  rw [blt_not]
  rfl) l k hl h0 h1
 refine ⟨l', k', ?_, h3⟩
 simp only [f75]
 rw [h2]
 rfl
/-! ### Marks in protos -/
theorem f31_step (l : List S9) (k : Int) (i : Nat) (hl : l.length ≤ 1048576) (hi : i < l.length) (hp : PB (l.getD i P0)) (h0 : 1 ≤ k) (h1 : k ≤ 288230376151711744) : ∃ p' k', f31_8 (l, k, (i : Int), ()) = some (.inl (l.set i p', k', ((i + 1 : Nat) : Int), ())) ∧ k ≤ k' ∧ k' ≤ k + 33554432 := by
 obtain ⟨p1, p2, p3, p4⟩ := hp
 obtain ⟨s, hs⟩ := f72_ok k (by omega) (by omega)
 obtain ⟨a, ka, a1, a2, a3, a4⟩ := f73_ok (l.getD i P0).2.2.2.2.2.1 (k + 1 + 1 + 1 + 1 + 1) p1 (by omega) (by omega)
 obtain ⟨b, kb, b1, b2, b3, b4⟩ := f52_ok (l.getD i P0).2.2.2.2.2.2.1 ka p2 (by omega) (by omega)
 obtain ⟨d, kd, d1, d2, d3, d4⟩ := f74_ok (l.getD i P0).2.2.2.2.2.2.2.1 kb p3 (by omega) (by omega)
 obtain ⟨e, ke, e1, e2, e3, e4⟩ := f75_ok (l.getD i P0).2.2.2.2.2.2.2.2 kd p4 (by omega) (by omega)
 simp only [f31_8]
 rw [blt_nat hi, hs, wr_succ hi hl, wr_eq (n := k + 1) (by omega) (by omega), wr_eq (n := k + 1 + 1) (by omega) (by omega), wr_eq (n := k + 1 + 1 + 1) (by omega) (by omega), wr_eq (n := k + 1 + 1 + 1 + 1) (by omega) (by omega), wr_eq (n := k + 1 + 1 + 1 + 1 + 1) (by omega) (by omega)]
 simp only [cond_true, Option.bind_some, put0, put1, put2, put3, put4, put5, put6, put7, put8, List.length_set, Int.toNat_natCast, List.set_set, getD_set_eq hi, inR_nat hi]
 simp only [upd0, upd1, upd2, upd3, upd4, upd5, upd6, upd7, upd8]
 rw [a1]
 simp only [Option.bind_some]
 rw [b1]
 simp only [Option.bind_some]
 rw [d1]
 simp only [Option.bind_some]
 rw [e1]
 exact ⟨_, _, rfl, by show k ≤ ke; omega, by show ke ≤ k + 33554432; omega⟩
theorem f31_ok (l : List S9) (hl : CB l) : ∃ l' k', f31 (l, (1 : Int), ()) = some ((k', ()), l', ()) ∧ 1 ≤ k' := by
 obtain ⟨t, h2, h3⟩ := loop_ex (body := f31_8) (mk := fun i (t : List S9 × Int) => (t.1, t.2, (i : Int), ())) (fin := fun t => (t.1, t.2, ())) (I := fun i t => t.1.length = l.length ∧ 1 ≤ t.2 ∧ t.2 ≤ 1 + 33554432 * (i : Int) ∧ ∀ j, i ≤ j → t.1.getD j P0 = l.getD j P0) (n := l.length) (fun i t hi ht => by
  obtain ⟨a, b, d, e⟩ := ht
  have hlen := hl.len
  have hpb : PB (t.1.getD i P0) := by
   rw [e i (Nat.le_refl _)]
   exact hl.each _ (getD_mem hi)
  obtain ⟨p', k', e1, e2, e3⟩ := f31_step t.1 t.2 i (by omega) (by omega) hpb (by omega) (by omega)
  refine ⟨(t.1.set i p', k'), e1, ?_, ?_, ?_, fun j hj => ?_⟩
  ·show (t.1.set i p').length = _
   rw [List.length_set, a]
  ·show 1 ≤ k'
   omega
  ·show k' ≤ _
   omega
  ·show (t.1.set i p').getD j P0 = _
   rw [getD_set_ne (by omega)]
   exact e j (by omega)) (fun t ht => by
  show f31_8 (t.1, t.2, (l.length : Int), ()) = _
  simp only [f31_8]
  rw [ht.1, blt_not]
  rfl) l.length 0 (l, 1) (by omega) ⟨rfl, Int.le_refl _, by show (1 : Int) ≤ 1 + 33554432 * ((0 : Nat) : Int); omega, fun j _ => rfl⟩
 refine ⟨t.1, t.2, ?_, h3.2.1⟩
 simp only [f31]
 have h2' : loopF f31_8 (l, (1 : Int), (0 : Int), ()) = some (t.1, t.2, ()) := h2
 rw [h2']
 rfl
theorem f11_ok (c : S25) (hc : CB c) : ∃ l' k', f11 ((c, ()), (1 : Int), ()) = some ((k', ()), (l', ()), ()) ∧ 1 ≤ k' := by
 obtain ⟨l', k', h1, h2⟩ := f31_ok c hc
 refine ⟨l', k', ?_, h2⟩
 simp only [f11]
 rw [h1]
 rfl
/-! ### Marks in quick instructions, and what holds them -/
def tup (k : Int) : S7 := (k, k + 1, k + 2, k + 3, k + 4, k + 5, k + 6)
def HQ (l : List S7) (k : Int) : Prop := ∀ j, j < l.length → l.getD j Q0 = tup (k + 7 * (j : Int))
theorem f76_step (l : List S7) (k : Int) (i : Nat) (hl : l.length ≤ 1048576) (hi : i < l.length) (h0 : 1 ≤ k) (h1 : k ≤ 1152921504606846976) : f76_8 (l, k, (i : Int), ()) = some (.inl (l.set i (tup k), k + 7, ((i + 1 : Nat) : Int), ())) := by
 simp only [f76_8, List.length_set, Int.toNat_natCast, List.set_set, getD_set_eq hi]
 rw [blt_nat hi, inR_nat hi, wr_succ hi hl, wr_eq (n := k + 1) (by omega) (by omega), wr_eq (n := k + 1 + 1) (by omega) (by omega), wr_eq (n := k + 1 + 1 + 1) (by omega) (by omega), wr_eq (n := k + 1 + 1 + 1 + 1) (by omega) (by omega), wr_eq (n := k + 1 + 1 + 1 + 1 + 1) (by omega) (by omega), wr_eq (n := k + 1 + 1 + 1 + 1 + 1 + 1) (by omega) (by omega), wr_eq (n := k + 1 + 1 + 1 + 1 + 1 + 1 + 1) (by omega) (by omega)]
 rw [show k + 1 + 1 + 1 + 1 + 1 + 1 + 1 = k + 7 by omega, show k + 1 + 1 + 1 + 1 + 1 + 1 = k + 6 by omega, show k + 1 + 1 + 1 + 1 + 1 = k + 5 by omega, show k + 1 + 1 + 1 + 1 = k + 4 by omega, show k + 1 + 1 + 1 = k + 3 by omega, show k + 1 + 1 = k + 2 by omega]
 rfl
theorem f76_ok (l : List S7) (k : Int) (hl : l.length ≤ 1048576) (h0 : 1 ≤ k) (h1 : k ≤ 576460752303423488) : ∃ l', f76 (l, k, ()) = some ((k + 7 * (l.length : Int), ()), l', ()) ∧ l'.length = l.length ∧ HQ l' k := by
 obtain ⟨t, h2, h3, h4, h5⟩ := loop_ex (body := f76_8) (mk := fun i (t : List S7 × Int) => (t.1, t.2, (i : Int), ())) (fin := fun t => (t.1, t.2, ())) (I := fun i t => t.1.length = l.length ∧ t.2 = k + 7 * (i : Int) ∧ ∀ j, j < i → t.1.getD j Q0 = tup (k + 7 * (j : Int))) (n := l.length) (fun i t hi ht => by
  obtain ⟨a, b, d⟩ := ht
  refine ⟨(t.1.set i (tup t.2), t.2 + 7), f76_step t.1 t.2 i (by omega) (by omega) (by omega) (by omega), ?_, ?_, fun j hj => ?_⟩
  ·show (t.1.set i _).length = _
   rw [List.length_set, a]
  ·show t.2 + 7 = _
   omega
  ·show (t.1.set i _).getD j Q0 = _
   by_cases hj' : j = i
   ·subst hj'
    rw [getD_set_eq (by omega), b]
   ·rw [getD_set_ne (by omega)]
    exact d j (by omega)) (fun t ht => by
  show f76_8 (t.1, t.2, (l.length : Int), ()) = _
  simp only [f76_8]
  rw [ht.1, blt_not]
  rfl) l.length 0 (l, k) (by omega) ⟨rfl, by show k = k + 7 * ((0 : Nat) : Int); omega, fun j hj => by omega⟩
 refine ⟨t.1, ?_, h3, fun j hj => h5 j (by omega)⟩
 have h2' : loopF f76_8 (l, k, (0 : Int), ()) = some (t.1, t.2, ()) := h2
 simp only [f76]
 rw [h2', h4]
 rfl
theorem f77_ok (l : List S7) (k : Int) (hl : l.length ≤ 1048576) (h0 : 1 ≤ k) (h1 : k ≤ 576460752303423488) (h : HQ l k) : f77 (l, k, ()) = some ((k + 7 * (l.length : Int), ()), ()) := by
 obtain ⟨t, h2, h3⟩ := loop_ex (body := f77_8) (mk := fun i (t : Int) => (l, t, (i : Int), ())) (fin := fun t => .inl (t, ())) (I := fun i t => t = k + 7 * (i : Int)) (n := l.length) (fun i t hi ht => by
  refine ⟨t + 7, ?_, by omega⟩
  have hg := h i hi
  rw [← ht] at hg
  simp only [f77_8, Int.toNat_natCast]
  rw [blt_nat hi, inR_nat hi, wr_succ hi hl, hg]
  simp only [tup]
  rw [wr_eq (n := t + 1) (by omega) (by omega), wr_eq (n := t + 1 + 1) (by omega) (by omega), wr_eq (n := t + 1 + 1 + 1) (by omega) (by omega), wr_eq (n := t + 1 + 1 + 1 + 1) (by omega) (by omega), wr_eq (n := t + 1 + 1 + 1 + 1 + 1) (by omega) (by omega), wr_eq (n := t + 1 + 1 + 1 + 1 + 1 + 1) (by omega) (by omega), wr_eq (n := t + 1 + 1 + 1 + 1 + 1 + 1 + 1) (by omega) (by omega)]
  rw [show t + 1 + 1 + 1 + 1 + 1 + 1 + 1 = t + 7 by omega, show t + 1 + 1 + 1 + 1 + 1 + 1 = t + 6 by omega, show t + 1 + 1 + 1 + 1 + 1 = t + 5 by omega, show t + 1 + 1 + 1 + 1 = t + 4 by omega, show t + 1 + 1 + 1 = t + 3 by omega, show t + 1 + 1 = t + 2 by omega]
  simp only [bne_self]
  rfl) (fun t ht => by
  simp only [f77_8]
  rw [blt_not]
  rfl) l.length 0 k (by omega) (by show k = k + 7 * ((0 : Nat) : Int); omega)
 have h2' : loopF f77_8 (l, k, (0 : Int), ()) = some (.inl (t, ())) := h2
 simp only [f77]
 rw [h2', h3]
 rfl
/-- The number that the j-th row begins with. -/
def ks (L : List S8) (k : Int) : Nat → Int
 | 0 => k
 | j + 1 => ks L k j + 7 * ((L.getD j []).length : Int)
theorem ks_b {L : List S8} {k : Int} (hL : ∀ x, x ∈ L → x.length ≤ 1048576) : ∀ j, j ≤ L.length → k ≤ ks L k j ∧ ks L k j ≤ k + 7340032 * (j : Int)
 | 0, _ => ⟨Int.le_refl _, by show k ≤ k + 7340032 * ((0 : Nat) : Int); omega⟩
 | j + 1, h => by
  have h1 := ks_b (k := k) hL j (by omega)
  have h2 := hL _ (getD_mem (d := []) (show j < L.length by omega))
  refine ⟨?_, ?_⟩
  ·show k ≤ ks L k j + 7 * ((L.getD j []).length : Int)
   omega
  ·show ks L k j + 7 * ((L.getD j []).length : Int) ≤ _
   omega
/-- Marked rows. -/
structure HP (L l : List S8) (k : Int) (n : Nat) : Prop where
 len : l.length = L.length
 old : ∀ j, n ≤ j → l.getD j [] = L.getD j []
 each : ∀ j, j < n → (l.getD j []).length = (L.getD j []).length ∧ HQ (l.getD j []) (ks L k j)
theorem f32_ok (L : List S8) (hL : L.length ≤ 1048576) (hx : ∀ x, x ∈ L → x.length ≤ 1048576) : ∃ l, f32 (L, (1 : Int), ()) = some ((ks L 1 L.length, ()), l, ()) ∧ HP L l 1 L.length := by
 obtain ⟨t, h2, h3, h4⟩ := loop_ex (body := f32_8) (mk := fun i (t : List S8 × Int) => (t.1, t.2, (i : Int), ())) (fin := fun t => (t.1, t.2, ())) (I := fun i t => t.2 = ks L 1 i ∧ HP L t.1 1 i) (n := L.length) (fun i t hi ht => by
  obtain ⟨a, b⟩ := ht
  have hb := ks_b (k := 1) hx i (by omega)
  have ho := b.old i (Nat.le_refl _)
  have hm := hx _ (getD_mem (d := []) hi)
  have hlen := b.len
  obtain ⟨r, e1, e2, e3⟩ := f76_ok (t.1.getD i []) t.2 (by rw [ho]; exact hm) (by omega) (by omega)
  refine ⟨(t.1.set i r, ks L 1 (i + 1)), ?_, rfl, ?_, fun j hj => ?_, fun j hj => ?_⟩
  ·show f32_8 (t.1, t.2, (i : Int), ()) = _
   simp only [f32_8, Int.toNat_natCast]
   rw [hlen, blt_nat hi, inR_nat hi, e1, wr_succ hi hL, a, ho]
   simp only [cond_true, Option.bind_some, put9, upd9, Int.toNat_natCast]
   rfl
  ·show (t.1.set i r).length = _
   rw [List.length_set, hlen]
  ·show (t.1.set i r).getD j [] = _
   rw [getD_set_ne (by omega)]
   exact b.old j (by omega)
  ·show ((t.1.set i r).getD j []).length = _ ∧ HQ ((t.1.set i r).getD j []) _
   by_cases hj' : j = i
   ·subst hj'
    rw [getD_set_eq (by omega), ← a]
    exact ⟨by rw [e2, ho], e3⟩
   ·rw [getD_set_ne (by omega)]
    exact b.each j (by omega)) (fun t ht => by
  show f32_8 (t.1, t.2, (L.length : Int), ()) = _
  simp only [f32_8]
  rw [ht.2.len, blt_not]
  rfl) L.length 0 (L, 1) (by omega) ⟨rfl, rfl, fun j _ => rfl, fun j hj => by omega⟩
 refine ⟨t.1, ?_, h4⟩
 have h2' : loopF f32_8 (L, (1 : Int), (0 : Int), ()) = some (t.1, t.2, ()) := h2
 simp only [f32]
 rw [h2', h3]
 rfl
theorem f33_ok (L l : List S8) (hL : L.length ≤ 1048576) (hx : ∀ x, x ∈ L → x.length ≤ 1048576) (h : HP L l 1 L.length) : f33 (l, (1 : Int), ()) = some ((ks L 1 L.length, ()), ()) := by
 have hlen := h.len
 obtain ⟨t, h2, h3⟩ := loop_ex (body := f33_8) (mk := fun i (t : Int) => (l, t, (i : Int), ())) (fin := fun t => .inl (t, ())) (I := fun i t => t = ks L 1 i) (n := L.length) (fun i t hi ht => by
  have hb := ks_b (k := 1) hx i (by omega)
  have hb2 := ks_b (k := 1) hx (i + 1) (by omega)
  have hm := hx _ (getD_mem (d := []) hi)
  obtain ⟨e1, e2⟩ := h.each i hi
  refine ⟨ks L 1 (i + 1), ?_, rfl⟩
  simp only [f33_8, Int.toNat_natCast]
  rw [hlen, blt_nat hi, inR_nat hi, ht, f77_ok (l.getD i []) (ks L 1 i) (by omega) (by omega) (by omega) e2, wr_succ hi hL, e1]
  simp only [cond_true, Option.bind_some]
  rw [blt_false (show 0 ≤ ks L 1 i + 7 * ((L.getD i []).length : Int) by omega)]
  rfl) (fun t ht => by
  simp only [f33_8]
  rw [hlen, blt_not]
  rfl) L.length 0 1 (by omega) rfl
 have h2' : loopF f33_8 (l, (1 : Int), (0 : Int), ()) = some (.inl (t, ())) := h2
 simp only [f33]
 rw [h2', h3]
 rfl
theorem f12_ok (q : List S8 × Int) (hq : QB q) : ∃ l, f12 ((q.1, q.2, ()), (1 : Int), ()) = some ((ks q.1 1 q.1.length, ()), (l, q.2, ()), ()) ∧ HP q.1 l 1 q.1.length := by
 obtain ⟨l, h1, h2⟩ := f32_ok q.1 hq.len hq.each
 refine ⟨l, ?_, h2⟩
 simp only [f12]
 rw [h1]
 rfl
theorem f13_ok (q : List S8 × Int) (l : List S8) (c : Int) (hq : QB q) (h : HP q.1 l 1 q.1.length) : f13 ((l, c), (1 : Int), ()) = some ((ks q.1 1 q.1.length, ()), ()) := by
 have hb := ks_b (k := 1) hq.each q.1.length (Nat.le_refl _)
 simp only [f13]
 rw [f33_ok q.1 l hq.len hq.each h]
 simp only [Option.bind_some]
 rw [blt_false (by omega)]
 rfl
/-! ### Comparisons of quick codes -/
theorem f29_eq : f29 = eqF f70 [] := rfl
theorem f135_eq : f135 = eqF f175 Q0 := rfl
theorem f175_ok (x : S7) : Eqs f175 x := by
 unfold Eqs
 simp only [f175]
 rw [bne_self, bne_self, bne_self, bne_self, bne_self, bne_self, bne_self]
 rfl
theorem f70_ok (x : S8) (h : x.length ≤ 1048576) : Eqs f70 x := by
 unfold Eqs
 simp only [f70]
 rw [f135_eq, show eqF f175 _ (x, x, ()) = _ from eqF_ok x h (fun y _ => f175_ok y)]
 rfl
theorem f9_ok (q : List S8 × Int) (hq : QB q) : f9 (q, q, ()) = some ((true, ()), ()) := by
 simp only [f9]
 rw [f29_eq, show eqF f70 _ (q.1, q.1, ()) = _ from eqF_ok q.1 hq.len (fun y hy => f70_ok y (hq.each y hy)), bne_self]
 rfl
/-! ### The law -/
theorem pure3 (x : VS.dens ps3) (hb : bnds ps3 x) : ∃ b, f3 x = some ((true, ()), b) := by
 obtain ⟨c, ⟨⟩⟩ := x
 obtain ⟨hc, -⟩ := hb
 obtain ⟨r, hr, hq⟩ := f5_ok c hc
 refine ⟨(), ?_⟩
 show f3 (c, ()) = _
 simp only [f3]
 rw [hr]
 simp only [Option.bind_some]
 rcases hq with hq | ⟨hq, hB⟩
 ·rw [blt_true hq]
  rfl
 ·have w := cw_of c hc hB
  have hQ := quick_b c w
  have hb := ks_b (k := 1) hQ.each (quick c).1.length (Nat.le_refl _)
  obtain ⟨lm, km, m1, m2⟩ := f11_ok c hB
  obtain ⟨l, n1, n2⟩ := f12_ok (quick c) hQ
  rw [blt_false hq, f7_ok c hB]
  simp only [Option.bind_some, cond_false]
  rw [f6_ok c w, f8_ok c w]
  simp only [Option.bind_some]
  rw [f9_ok (quick c) hQ, f10_ok c hc hB]
  simp only [Option.bind_some, Bool.not_true, cond_false]
  rw [m1]
  simp only [Option.bind_some]
  rw [blt_false (show 0 ≤ km by omega), jB]
  simp only [Option.bind_some, cond_false]
  rw [n1]
  simp only [Option.bind_some]
  rw [f13_ok (quick c) l (quick c).2 hQ n2]
  simp only [Option.bind_some]
  rw [blt_false (show 0 ≤ ks (quick c).1 1 (quick c).1.length by omega), bne_self]
  rfl
end Go.Ev.L6
