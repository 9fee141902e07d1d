/-
  The abstract evaluator and a laid table: a map of rows of four whole numbers, read as data, is the table.
-/
import Derived.Test.YtgpjfmjceamonaaDoorEvO2
import Derived.Maps.Range
import Derived.Maps.RangeWalk
namespace Go.Ev
open Go.ChangeShapes Go.WideShapes Go.RowKit Go.ChangeAt

def laidOf {H : Type} (tbl : List (Int × List Int)) : List (Lit × DataW H) := tbl.map fun p => (.int .i64 p.1, .agg [.lit (.int .i64 (p.2.getD 0 0)), .lit (.int .i64 (p.2.getD 1 0)), .lit (.int .i64 (p.2.getD 2 0)), .lit (.int .i64 (p.2.getD 3 0))])
def tblOk (tbl : List (Int × List Int)) : Bool := tbl.all fun p => thas tbl p.1 && (tlook tbl p.1 == p.2)

section
variable {H : Type} {enc : TypeId × Value → H} {P : Program} {W : World} {held : Bool} {sp : Nat → Bool}

theorem thas_mem {n : Int} : ∀ {tbl : List (Int × List Int)}, thas tbl n = true → ∃ p, p ∈ tbl ∧ p.1 = n
  | (k, l) :: r, h => by
    unfold thas at h
    rw [Bool.or_eq_true] at h
    rcases h with h | h
    · exact ⟨(k, l), List.mem_cons_self, eq_of_beq h⟩
    · obtain ⟨p, hp, he⟩ := thas_mem h
      exact ⟨p, List.mem_cons_of_mem _ hp, he⟩

theorem open_row4 {V E : TypeId} (hV : P.underlying V = some (.array 4 E)) (hE : P.underlying E = some (.int .i64)) (hc : P.cellsOf E = 1) (hcV : P.cellsOf V = 4) {fuel : Nat} {cs : List Value} {a b c d : Int} {p : List MemPlace}
    (h : DataW.trod enc P W 0 sp held fuel V cs = some (.agg [.lit (.int .i64 a), .lit (.int .i64 b), .lit (.int .i64 c), .lit (.int .i64 d)], p)) : cs = [.int .i64 a, .int .i64 b, .int .i64 c, .int .i64 d] := by
  obtain ⟨xs, m, _, hx, hl, hn, hel⟩ := DataW.trod_array hV h
  rw [hcV] at hl
  match cs, hl with
  | [c0, c1, c2, c3], _ =>
    have h0 := hel 0 (by omega)
    have h1 := hel 1 (by omega)
    have h2 := hel 2 (by omega)
    have h3 := hel 3 (by omega)
    rw [hc] at h0 h1 h2 h3
    match xs, hn with
    | [x0, x1, x2, x3], _ =>
      simp only [List.map_cons, List.map_nil, Prod.mk.injEq, DataW.agg.injEq, List.cons.injEq, and_true] at hx
      obtain ⟨⟨e0, e1, e2, e3⟩, _⟩ := hx
      have key : ∀ (v : Value) (x : DataW H × List MemPlace) (n : Int), DataW.trod enc P W 0 sp held m E [v] = some x → DataW.lit (.int .i64 n) = x.1 → v = .int .i64 n := fun v x n hv hx => by
        obtain ⟨k, q1, q2, _⟩ := DataW.trod_int hE hv
        rw [q2] at hx
        simp only [DataW.lit.injEq, Lit.int.injEq, true_and] at hx
        simp only [List.cons.injEq, and_true] at q1
        rw [q1, hx]
      rw [key c0 x0 a h0 e0, key c1 x1 b h1 e1, key c2 x2 c h2 e2, key c3 x3 d h3 e3]

theorem tbl_open {M K V E : TypeId} (hM : P.underlying M = some (.map K V)) (hK : P.underlying K = some (.int .i64)) (hV : P.underlying V = some (.array 4 E)) (hE : P.underlying E = some (.int .i64)) (hc : P.cellsOf E = 1) (hcV : P.cellsOf V = 4) {tbl : List (Int × List Int)} (htbl : tblOk tbl = true)
    {fuel : Nat} {cs : List Value} {p : List MemPlace} (h : DataW.trod enc P W 0 sp held fuel M cs = some (.map (laidOf tbl), p)) : ∃ bm ents ck, cs = [.map (some bm)] ∧ W.heap[bm]? = some (.map ents ck) ∧ TblRel tbl ents.toList := by
  cases fuel with
  | zero => cases h
  | succ fuel =>
  unfold DataW.trod at h
  rw [hM] at h
  split at h <;> rename_i h1 <;> first | (cases h; done) | (cases h1; done) | skip
  cases h1
  rename_i b
  split at h
  · rename_i es ck hb
    split at h
    · obtain ⟨entries, he, h⟩ := Option.bind_eq_some_iff.1 h
      simp only at h
      split at h
      · simp only [Option.some.injEq, Prod.mk.injEq, DataW.map.injEq] at h
        obtain ⟨hsort, _⟩ := h
        refine ⟨b, es, ck, rfl, hb, ?_, ?_⟩
        · intro m hm
          obtain ⟨i, hi⟩ := List.mem_iff_getElem?.1 hm
          obtain ⟨hlen, hget⟩ := mapM_get he
          have hil : i < entries.length := by
            rw [hlen]
            exact (List.getElem?_eq_some_iff.1 hi).1
          obtain ⟨m', hm', hf⟩ := hget i entries[i] (List.getElem?_eq_getElem hil)
          rw [hi] at hm'
          cases hm'
          obtain ⟨key, hkey, hf⟩ := Option.bind_eq_some_iff.1 hf
          split at hf
          · rename_i hform
            obtain ⟨y, hy, hf⟩ := Option.map_eq_some_iff.1 hf
            have hmem : (entries[i]).1 ∈ (entries.map (·.1)).foldr DataW.insert [] := mem_sorted.2 (List.mem_map.2 ⟨entries[i], List.getElem_mem hil, rfl⟩)
            rw [hsort] at hmem
            rw [← hf] at hmem
            obtain ⟨q, hq, hqe⟩ := List.mem_map.1 hmem
            have hok := List.all_eq_true.1 htbl q hq
            rw [Bool.and_eq_true] at hok
            have hlook : tlook tbl q.1 = q.2 := eq_of_beq hok.2
            obtain ⟨k, e1, e2, _⟩ := Maps.keyOf_int_inv hK hkey
            simp only [Prod.mk.injEq] at hqe
            obtain ⟨hq1, hq2⟩ := hqe
            rw [e2] at hq1
            simp only [Lit.int.injEq, true_and] at hq1
            subst hq1
            refine ⟨q.1, e1, hok.1, ?_⟩
            have hy' : DataW.trod enc P W 0 sp held fuel V m.val.cells.toList = some (y.1, y.2) := hy
            rw [← hq2] at hy'
            have hcells := open_row4 hV hE hc hcV hy'
            rw [hlook]
            have hag : ∃ arr, m.val = .agg arr := by
              unfold Value.formed at hform
              rw [hV] at hform
              cases hv : m.val <;> rw [hv] at hform <;> simp at hform
              exact ⟨_, rfl⟩
            obtain ⟨arr, harr⟩ := hag
            rw [harr] at hcells ⊢
            unfold tRow
            congr 1
            exact Array.ext' hcells
          · cases hf
        · intro k hk
          obtain ⟨q, hq, hqk⟩ := thas_mem hk
          have hmem : (Lit.int .i64 q.1, DataW.agg [.lit (.int .i64 (q.2.getD 0 0)), .lit (.int .i64 (q.2.getD 1 0)), .lit (.int .i64 (q.2.getD 2 0)), .lit (.int .i64 (q.2.getD 3 0))]) ∈ (laidOf tbl : List (Lit × DataW H)) := List.mem_map.2 ⟨q, hq, rfl⟩
          rw [← hsort] at hmem
          obtain ⟨z, hz, hze⟩ := List.mem_map.1 (mem_sorted.1 hmem)
          obtain ⟨i, hi⟩ := List.mem_iff_getElem?.1 hz
          obtain ⟨_, hget⟩ := mapM_get he
          obtain ⟨m, hm, hf⟩ := hget i z hi
          obtain ⟨key, hkey, hf⟩ := Option.bind_eq_some_iff.1 hf
          split at hf
          · obtain ⟨y, _, hf⟩ := Option.map_eq_some_iff.1 hf
            rw [← hf] at hze
            simp only [Prod.mk.injEq] at hze
            obtain ⟨k2, e1, e2, _⟩ := Maps.keyOf_int_inv hK hkey
            rw [e2] at hze
            have hk2 : k2 = q.1 := by
              have := hze.1
              simpa using this
            exact ⟨m, List.mem_of_getElem? hm, by rw [e1, hk2, hqk]⟩
          · cases hf
      · cases h
    · cases h
  · cases h
end
end Go.Ev
