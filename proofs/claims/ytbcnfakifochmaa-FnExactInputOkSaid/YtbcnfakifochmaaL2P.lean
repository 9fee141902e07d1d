/-
  The law FnExactInputOk in plain terms.
-/
import Derived.Test.YtbcnfakifochmaaL2
import Derived.Test.YtbcnfakifochmaaEvO2
namespace Go.Ev.L2
open Go.Proofs

theorem maxLen_eq : maxLen = 9223372036854775807 := rfl

theorem loop10 (l : List ByteArray) (hl : l.length ≤ 1048576) (hs : ∀ s ∈ l, s.size ≤ maxLen) : ∀ (k i : Nat) (left : Int), i + k = l.length → 0 ≤ left → left ≤ 1048576 →
    ∃ r, loopF f10_10 (l, left, (i : Int), ()) = some r ∧ ((∃ z, r = .inl (z, ()) ∧ 0 ≤ z ∧ z ≤ left) ∨ r = .inr (-1, ()))
  | 0, i, left, hi, h0, h1 => by
    refine ⟨.inl (left, ()), ?_, .inl ⟨left, rfl, h0, Int.le_refl _⟩⟩
    rw [loopF_step]
    simp only [f10_10]
    rw [blt_false (show (l.length : Int) ≤ (i : Int) by omega)]
    rfl
  | k + 1, i, left, hi, h0, h1 => by
    have hlt : i < l.length := by omega
    have hsz : (l.getD i (⟨#[]⟩ : ByteArray)).size ≤ maxLen := by
      rw [List.getD_eq_getElem?_getD, List.getElem?_eq_getElem hlt]
      exact hs _ (List.getElem_mem hlt)
    rw [maxLen_eq] at hsz
    rw [loopF_step]
    simp only [f10_10, Int.toNat_natCast]
    generalize hq : (l.getD i (⟨#[]⟩ : ByteArray)).size = q at hsz
    rw [blt_true (show ((i : Int) < (l.length : Int)) by omega), inR_true (show (0 ≤ (i : Int)) by omega) (show ((i : Int) < (l.length : Int)) by omega), wr_eq (n := left - (q : Int)) (by omega) (by omega), wr_eq (n := (i : Int) + 1) (by omega) (by omega)]
    by_cases h : left - (q : Int) < 0
    · rw [blt_true h]
      exact ⟨_, rfl, .inr rfl⟩
    · rw [blt_false (Int.not_lt.1 h)]
      obtain ⟨r, h2, h3⟩ := loop10 l hl hs k (i + 1) (left - q) (by omega) (by omega) (by omega)
      refine ⟨r, ?_, ?_⟩
      · have : ((i : Int) + 1) = ((i + 1 : Nat) : Int) := by omega
        simp only [cond_true, cond_false]
        rw [this]
        exact h2
      · rcases h3 with ⟨z, h4, h5, h6⟩ | h4
        · exact .inl ⟨z, h4, h5, by omega⟩
        · exact .inr h4

theorem f10_ok (l : List ByteArray) (n : Int) (h0 : 0 ≤ n) (h1 : n ≤ 1048576) (hl : l.length ≤ maxLen) (hs : ∀ s ∈ l, s.size ≤ maxLen) :
    ∃ r, f10 (l, n, ()) = some ((r, ()), ()) ∧ (r < 0 ∨ (0 ≤ r ∧ r ≤ 1048576 ∧ l.length ≤ 1048576)) := by
  rw [maxLen_eq] at hl
  simp only [f10]
  rw [wr_eq (n := n - (l.length : Int)) (by omega) (by omega)]
  by_cases h : n - (l.length : Int) < 0
  · rw [blt_true h]
    exact ⟨-1, rfl, .inl (by omega)⟩
  · rw [blt_false (Int.not_lt.1 h)]
    obtain ⟨r, h2, h3⟩ := loop10 l (by omega) hs l.length 0 (n - l.length) (by omega) (by omega) (by omega)
    have h2' : loopF f10_10 (l, n - (l.length : Int), (0 : Int), ()) = some r := h2
    simp only [cond_false]
    rw [h2']
    rcases h3 with ⟨z, h4, h5, h6⟩ | h4
    · subst h4
      exact ⟨z, rfl, .inr ⟨h5, by omega, by omega⟩⟩
    · subst h4
      exact ⟨-1, rfl, .inl (by omega)⟩

/-! toStringS gives the same list -/
theorem loop11 (l : List ByteArray) (hl : l.length ≤ 1048576) : ∀ (k i : Nat) (out : List ByteArray), i + k = l.length → out.length = l.length → out.take i = l.take i → loopF f11_6 (l, out, (i : Int), ()) = some (l, ())
  | 0, i, out, hi, ho, ht => by
    rw [loopF_step]
    simp only [f11_6]
    rw [blt_false (show (l.length : Int) ≤ (i : Int) by omega)]
    have : out = l := by
      rw [List.take_of_length_le (by omega), List.take_of_length_le (by omega)] at ht
      exact ht
    rw [this]
    rfl
  | k + 1, i, out, hi, ho, ht => by
    have hlt : i < l.length := by omega
    rw [loopF_step]
    simp only [f11_6, Int.toNat_natCast]
    rw [blt_true (show ((i : Int) < (l.length : Int)) by omega), inR_true (show (0 ≤ (i : Int)) by omega) (show ((i : Int) < (l.length : Int)) by omega), inR_true (show (0 ≤ (i : Int)) by omega) (show ((i : Int) < (out.length : Int)) by omega), wr_eq (n := (i : Int) + 1) (by omega) (by omega)]
    have : ((i : Int) + 1) = ((i + 1 : Nat) : Int) := by omega
    simp only [cond_true]
    rw [this]
    refine loop11 l hl k (i + 1) _ (by omega) (by rw [List.length_set]; exact ho) ?_
    apply List.ext_getElem?
    intro j
    rw [List.getElem?_take, List.getElem?_take]
    split
    · rename_i hj
      rw [List.getElem?_set]
      split
      · rename_i hij
        subst hij
        rw [if_pos (by omega), List.getD_eq_getElem?_getD, List.getElem?_eq_getElem hlt]
        rfl
      · have h1 : j < i := by omega
        have : (out.take i)[j]? = (l.take i)[j]? := by rw [ht]
        rw [List.getElem?_take, List.getElem?_take, if_pos h1, if_pos h1] at this
        exact this
    · rfl

theorem f11_ok (l : List ByteArray) (hl : l.length ≤ 1048576) : f11 (l, ()) = some ((l, ()), ()) := by
  simp only [f11]
  rw [inE_true (show (0 ≤ (l.length : Int)) by omega) (show ((l.length : Int) ≤ ((17592186044416 : Nat) : Int)) by omega)]
  have := loop11 l hl l.length 0 (List.replicate l.length ⟨#[]⟩) (by omega) (by rw [List.length_replicate]) (by simp)
  have h : loopF f11_6 (l, List.replicate (l.length : Int).toNat ⟨#[]⟩, (0 : Int), ()) = some (l, ()) := this
  simp only [cond_true]
  rw [h]
  rfl

abbrev In := (Ty.pair (.row .str) (.pair (.row .str) (.pair (.int .i64) (.pair (.int .i64) (.int .i64))))).den

theorem f7_ok (s : In) (h1 : s.1.length ≤ 1048576) (h2 : s.2.1.length ≤ 1048576) : f7 (s, ()) = some ((s, ()), ()) := by
  simp only [f7]
  rw [f11_ok s.1 h1]
  simp only [Option.bind_some]
  rw [f11_ok s.2.1 h2]
  rfl

/-! the lines' lengths -/
def fits (s : ByteArray) : Bool := !(blt 4000 (s.size : Int))

theorem loop6a (s : In) (l : List ByteArray) (hl : l.length ≤ 1048576) : ∀ (k i : Nat), i + k = l.length → loopF f6_8 ((s, ()), l, (l.length : Int), (i : Int), ()) = some (bif (l.drop i).all fits then .inl ((s, ()), ()) else .inr (false, ()))
  | 0, i, hi => by
    rw [loopF_step]
    simp only [f6_8]
    rw [blt_false (show (l.length : Int) ≤ (i : Int) by omega), List.drop_of_length_le (by omega)]
    rfl
  | k + 1, i, hi => by
    have hlt : i < l.length := by omega
    rw [loopF_step]
    simp only [f6_8, Int.toNat_natCast]
    rw [blt_true (show ((i : Int) < (l.length : Int)) by omega), inR_true (show (0 ≤ (i : Int)) by omega) (show ((i : Int) < (l.length : Int)) by omega), wr_eq (n := (i : Int) + 1) (by omega) (by omega), List.drop_eq_getElem_cons hlt, List.all_cons]
    have hg : l.getD i ⟨#[]⟩ = l[i] := by rw [List.getD_eq_getElem?_getD, List.getElem?_eq_getElem hlt]; rfl
    rw [hg]
    unfold fits
    have : ((i : Int) + 1) = ((i + 1 : Nat) : Int) := by omega
    cases hd : blt 4000 (l[i].size : Int) with
    | true => rfl
    | false =>
      simp only [cond_true, cond_false, Bool.not_false, Bool.true_and]
      rw [this]
      exact loop6a s l hl k (i + 1) (by omega)

theorem loop6b (s : In) (l : List ByteArray) (hl : l.length ≤ 1048576) : ∀ (k i : Nat), i + k = l.length → loopF f6_20 ((s, ()), l, (l.length : Int), (i : Int), ()) = some (bif (l.drop i).all fits then .inl ((s, ()), ()) else .inr (false, ()))
  | 0, i, hi => by
    rw [loopF_step]
    simp only [f6_20]
    rw [blt_false (show (l.length : Int) ≤ (i : Int) by omega), List.drop_of_length_le (by omega)]
    rfl
  | k + 1, i, hi => by
    have hlt : i < l.length := by omega
    rw [loopF_step]
    simp only [f6_20, Int.toNat_natCast]
    rw [blt_true (show ((i : Int) < (l.length : Int)) by omega), inR_true (show (0 ≤ (i : Int)) by omega) (show ((i : Int) < (l.length : Int)) by omega), wr_eq (n := (i : Int) + 1) (by omega) (by omega), List.drop_eq_getElem_cons hlt, List.all_cons]
    have hg : l.getD i ⟨#[]⟩ = l[i] := by rw [List.getD_eq_getElem?_getD, List.getElem?_eq_getElem hlt]; rfl
    rw [hg]
    unfold fits
    have : ((i : Int) + 1) = ((i + 1 : Nat) : Int) := by omega
    cases hd : blt 4000 (l[i].size : Int) with
    | true => rfl
    | false =>
      simp only [cond_true, cond_false, Bool.not_false, Bool.true_and]
      rw [this]
      exact loop6b s l hl k (i + 1) (by omega)

def nums (s : In) : Bool := ((((ble 0 s.2.2.1 && ble s.2.2.1 5000) && ble 1 s.2.2.2.1) && ble s.2.2.2.1 60) && ble 0 s.2.2.2.2) && ble s.2.2.2.2 20000
def good (s : In) : Bool := bif blt 200 (s.1.length : Int) || blt 200 (s.2.1.length : Int) then false else s.1.all fits && (s.2.1.all fits && nums s)

theorem f6_ok (s : In) (h1 : s.1.length ≤ 1048576) (h2 : s.2.1.length ≤ 1048576) : f6 (s, ()) = some ((good s, ()), ()) := by
  simp only [f6, good]
  cases hc : (blt 200 (s.1.length : Int) || blt 200 (s.2.1.length : Int)) with
  | true => rfl
  | false =>
    simp only [cond_false]
    have a := loop6a s s.1 h1 s.1.length 0 (by omega)
    have a' : loopF f6_8 ((s, ()), s.1, (s.1.length : Int), (0 : Int), ()) = _ := a
    rw [a', List.drop_zero]
    cases hA : s.1.all fits with
    | false => rfl
    | true =>
      simp only [cond_true, Option.bind_some, Bool.true_and]
      have b := loop6b s s.2.1 h2 s.2.1.length 0 (by omega)
      have b' : loopF f6_20 ((s, ()), s.2.1, (s.2.1.length : Int), (0 : Int), ()) = _ := b
      rw [b', List.drop_zero]
      cases hB : s.2.1.all fits with
      | false => rfl
      | true => rfl

theorem loop8i (s : In) (L : List (List ByteArray)) (n j : Int) (l : List ByteArray) (hl : l.length ≤ 1048576) : ∀ (k i : Nat), i + k = l.length → loopF f8_14 ((s, ()), L, n, j, l, (l.length : Int), (i : Int), ()) = some (bif (l.drop i).all fits then .inl ((s, ()), L, n, j, ()) else .inr (false, ()))
  | 0, i, hi => by
    rw [loopF_step]
    simp only [f8_14]
    rw [blt_false (show (l.length : Int) ≤ (i : Int) by omega), List.drop_of_length_le (by omega)]
    rfl
  | k + 1, i, hi => by
    have hlt : i < l.length := by omega
    rw [loopF_step]
    simp only [f8_14, Int.toNat_natCast]
    rw [blt_true (show ((i : Int) < (l.length : Int)) by omega), inR_true (show (0 ≤ (i : Int)) by omega) (show ((i : Int) < (l.length : Int)) by omega), wr_eq (n := (i : Int) + 1) (by omega) (by omega), List.drop_eq_getElem_cons hlt, List.all_cons]
    have hg : l.getD i ⟨#[]⟩ = l[i] := by rw [List.getD_eq_getElem?_getD, List.getElem?_eq_getElem hlt]; rfl
    rw [hg]
    unfold fits
    have : ((i : Int) + 1) = ((i + 1 : Nat) : Int) := by omega
    cases hd : blt 4000 (l[i].size : Int) with
    | true => rfl
    | false =>
      simp only [cond_true, cond_false, Bool.not_false, Bool.true_and]
      rw [this]
      exact loop8i s L n j l hl k (i + 1) (by omega)

theorem f8_ok (s : In) (h1 : s.1.length ≤ 1048576) (h2 : s.2.1.length ≤ 1048576) : f8 (s, ()) = some ((good s, ()), ()) := by
  simp only [f8, good]
  cases hc : (blt 200 (s.1.length : Int) || blt 200 (s.2.1.length : Int)) with
  | true => rfl
  | false =>
    simp only [cond_false]
    have inner1 := loop8i s [s.1, s.2.1] 2 0 s.1 h1 s.1.length 0 (by omega)
    have inner2 := loop8i s [s.1, s.2.1] 2 1 s.2.1 h2 s.2.1.length 0 (by omega)
    have i1 : loopF f8_14 ((s, ()), [s.1, s.2.1], (2 : Int), (0 : Int), s.1, (s.1.length : Int), (0 : Int), ()) = _ := inner1
    have i2 : loopF f8_14 ((s, ()), [s.1, s.2.1], (2 : Int), (1 : Int), s.2.1, (s.2.1.length : Int), (0 : Int), ()) = _ := inner2
    rw [List.drop_zero] at i1 i2
    have e0 : f8_8 ((s, ()), [s.1, s.2.1], (2 : Int), (0 : Int), ()) = some (bif s.1.all fits then .inl ((s, ()), [s.1, s.2.1], 2, 1, ()) else .inr (.inr (false, ()))) := by
      show ((loopF f8_14 ((s, ()), [s.1, s.2.1], (2 : Int), (0 : Int), s.1, (s.1.length : Int), (0 : Int), ())).bind _) = _
      rw [i1]
      cases s.1.all fits <;> rfl
    have e1 : f8_8 ((s, ()), [s.1, s.2.1], (2 : Int), (1 : Int), ()) = some (bif s.2.1.all fits then .inl ((s, ()), [s.1, s.2.1], 2, 2, ()) else .inr (.inr (false, ()))) := by
      show ((loopF f8_14 ((s, ()), [s.1, s.2.1], (2 : Int), (1 : Int), s.2.1, (s.2.1.length : Int), (0 : Int), ())).bind _) = _
      rw [i2]
      cases s.2.1.all fits <;> rfl
    have e2 : f8_8 ((s, ()), [s.1, s.2.1], (2 : Int), (2 : Int), ()) = some (.inr (.inl ((s, ()), ()))) := rfl
    show ((loopF f8_8 ((s, ()), [s.1, s.2.1], (2 : Int), (0 : Int), ())).bind _) = _
    rw [loopF_step, e0]
    cases hA : s.1.all fits with
    | false => rfl
    | true =>
      simp only [cond_true]
      rw [loopF_step, e1]
      cases hB : s.2.1.all fits with
      | false => rfl
      | true =>
        simp only [cond_true]
        rw [loopF_step, e2]
        rfl

/-! one input with itself -/
theorem loop12 (l : List ByteArray) (hl : l.length ≤ 1048576) : ∀ (k i : Nat), i + k = l.length → loopF f12_8 (l, l, (i : Int), ()) = some (.inl ())
  | 0, i, hi => by
    rw [loopF_step]
    simp only [f12_8]
    rw [blt_false (show (l.length : Int) ≤ (i : Int) by omega)]
    rfl
  | k + 1, i, hi => by
    rw [loopF_step]
    simp only [f12_8, Int.toNat_natCast]
    rw [blt_true (show ((i : Int) < (l.length : Int)) by omega), inR_true (show (0 ≤ (i : Int)) by omega) (show ((i : Int) < (l.length : Int)) by omega), wr_eq (n := (i : Int) + 1) (by omega) (by omega)]
    have : ((i : Int) + 1) = ((i + 1 : Nat) : Int) := by omega
    simp only [cond_true, beqS_self, Bool.not_true, cond_false]
    rw [this]
    exact loop12 l hl k (i + 1) (by omega)
theorem f12_ok (l : List ByteArray) (hl : l.length ≤ 1048576) : f12 (l, l, ()) = some ((true, ()), ()) := by
  simp only [f12, bne_self, cond_false]
  have := loop12 l hl l.length 0 (by omega)
  have h : loopF f12_8 (l, l, (0 : Int), ()) = _ := this
  rw [h]
  rfl
theorem f9_ok (s : In) (h1 : s.1.length ≤ 1048576) (h2 : s.2.1.length ≤ 1048576) : f9 (s, s, ()) = some ((true, ()), ()) := by
  simp only [f9]
  rw [f12_ok s.1 h1]
  simp only [Option.bind_some, Bool.not_true, cond_false]
  rw [f12_ok s.2.1 h2]
  simp only [Option.bind_some, Bool.not_true, cond_false, bne_self]

theorem pure4 (x : VS.dens ps4) (hx : bnds ps4 x) : ∃ b, f4 x = some ((true, ()), b) := by
  obtain ⟨s, u⟩ := x
  obtain ⟨⟨⟨ha, ha'⟩, ⟨hb, hb'⟩, _⟩, _⟩ := hx
  refine ⟨(), ?_⟩
  obtain ⟨r, h1, h2⟩ := f10_ok s.1 1048576 (by omega) (by omega) ha ha'
  simp only [f4, f5]
  have h1' : f10 (s.1, (1048576 : Int), ()) = some ((r, ()), ()) := h1
  rw [h1']
  simp only [Option.bind_some]
  rcases h2 with h2 | ⟨h2, h3, h4⟩
  · rw [blt_true h2]
    rfl
  rw [blt_false h2]
  obtain ⟨q, g1, g2⟩ := f10_ok s.2.1 r h2 h3 hb hb'
  have g1' : f10 (s.2.1, r, ()) = some ((q, ()), ()) := g1
  simp only [cond_false]
  rw [g1']
  simp only [Option.bind_some]
  rcases g2 with g2 | ⟨g2, g3, g4⟩
  · rw [blt_true g2]
    rfl
  rw [blt_false g2]
  simp only [cond_false, Option.bind_some]
  rw [blt_false g2]
  have k7 : f7 (s, ()) = some ((s, ()), ()) := f7_ok s h4 g4
  simp only [cond_false]
  rw [k7]
  simp only [Option.bind_some]
  rw [f6_ok s h4 g4]
  simp only [Option.bind_some]
  rw [f8_ok s h4 g4]
  simp only [Option.bind_some, beqB_self, Bool.not_true, cond_false]
  rw [f9_ok s h4 g4]
  rfl
end Go.Ev.L2
