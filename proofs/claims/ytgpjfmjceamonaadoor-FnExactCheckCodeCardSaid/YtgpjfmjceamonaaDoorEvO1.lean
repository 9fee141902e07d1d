/-
  The abstract evaluator and a law's arguments: what was read as data at the call, as typed data; behind the call it reads as it did.
-/
import Derived.Test.YtgpjfmjceamonaaDoorEv20
import Derived.WalkKit
import Derived.ProofKit
import Derived.OpenShut
import Derived.Below
import Derived.Carry
import Derived.Laws.Cover2
import Derived.ChangeOld
namespace Go.Ev
open Go.ChangeShapes Go.WideShapes Go.RowKit

/-- The bounds that any data keeps. -/
def Ty.bnd : (t : Ty) → t.den → Prop
  | .int k, n => (Lit.int k n).wf = true
  | .bool, _ => True
  | .str, s => s.size ≤ maxLen
  | .flt, b => (Lit.float .f64 b).wf = true
  | .row t, xs => xs.length ≤ maxLen ∧ ∀ x, x ∈ xs → t.bnd x
  | .st t, x => t.bnd x
  | .pair a b, x => a.bnd x.1 ∧ b.bnd x.2

/-! ### Types of the program, and types of data -/
def fldsAre (P : Program) (chk : TypeId → Ty → Bool) : List Field → Ty → Nat → Bool
  | [f], u, off => Nat.beq f.offset off && (Nat.beq (P.cellsOf f.type) u.sz && chk f.type u)
  | f :: g :: r, .pair a b, off => (Nat.beq f.offset off && (Nat.beq (P.cellsOf f.type) a.sz && chk f.type a)) && fldsAre P chk (g :: r) b (off + a.sz)
  | _, _, _ => false

def tyIs (P : Program) : Nat → TypeId → Ty → Bool
  | 0, _, _ => false
  | n + 1, T, t => match P.underlying T, t with
    | some .bool, .bool => true
    | some (.int k), .int k' => IK.beq k k'
    | some (.float .f64), .flt => true
    | some .string, .str => true
    | some (.slice e), .row u => Nat.beq (P.cellsOf e) u.sz && tyIs P n e u
    | some (.struct fs), .st u => fldsAre P (tyIs P n) fs.toList u 0 && Nat.beq (P.cellsOf T) u.sz
    | _, _ => false

theorem mapM_all2 {α β γ : Type} {f : α → Option β} {R : α → γ → Prop} (h : ∀ a b, f a = some b → ∃ x, R a x) : ∀ {l : List α} {r : List β}, l.mapM f = some r → ∃ xs : List γ, All2 R l xs
  | [], _, _ => ⟨[], trivial⟩
  | a :: l, r, hr => by
    rw [List.mapM_cons] at hr
    cases ha : f a with
    | none => rw [ha] at hr; cases hr
    | some b =>
      rw [ha] at hr
      cases hl : l.mapM f with
      | none =>
        simp only [hl] at hr
        cases hr
      | some r' =>
        obtain ⟨x, hx⟩ := h a b ha
        obtain ⟨xs, hxs⟩ := mapM_all2 h hl
        exact ⟨x :: xs, hx, hxs⟩

theorem all2_get {α γ : Type} {R : α → γ → Prop} : ∀ {l : List α} {xs : List γ}, All2 R l xs → ∀ (i : Nat) (x : γ), xs[i]? = some x → ∃ a, l[i]? = some a ∧ R a x
  | [], [], _, i, x, h => by cases h
  | a :: l, y :: ys, hr, i, x, h => by
    cases i with
    | zero =>
      rw [List.getElem?_cons_zero] at h
      cases h
      exact ⟨a, by rw [List.getElem?_cons_zero], hr.1⟩
    | succ i =>
      rw [List.getElem?_cons_succ] at h
      obtain ⟨b, hb, hR⟩ := all2_get hr.2 i x h
      exact ⟨b, by rw [List.getElem?_cons_succ]; exact hb, hR⟩
theorem all2_len {α γ : Type} {R : α → γ → Prop} : ∀ {l : List α} {xs : List γ}, All2 R l xs → xs.length = l.length
  | [], [], _ => rfl
  | _ :: l, _ :: ys, hr => by rw [List.length_cons, List.length_cons, all2_len hr.2]

theorem mapM_get {α β : Type} {f : α → Option β} : ∀ {l : List α} {r : List β}, l.mapM f = some r → r.length = l.length ∧ ∀ (i : Nat) (b : β), r[i]? = some b → ∃ a, l[i]? = some a ∧ f a = some b
  | [], r, hr => by
    have : r = [] := by simpa using hr.symm
    subst this
    exact ⟨rfl, fun i b h => by cases h⟩
  | a :: l, r, hr => by
    rw [List.mapM_cons] at hr
    cases ha : f a with
    | none => rw [ha] at hr; cases hr
    | some b =>
      rw [ha] at hr
      cases hl : l.mapM f with
      | none =>
        simp only [hl] at hr
        cases hr
      | some r' =>
        simp only [hl] at hr
        cases hr
        obtain ⟨h1, h2⟩ := mapM_get hl
        refine ⟨by rw [List.length_cons, List.length_cons, h1], fun i c hc => ?_⟩
        cases i with
        | zero =>
          rw [List.getElem?_cons_zero] at hc
          cases hc
          exact ⟨a, by rw [List.getElem?_cons_zero], ha⟩
        | succ i =>
          rw [List.getElem?_cons_succ] at hc
          obtain ⟨a', h3, h4⟩ := h2 i c hc
          exact ⟨a', by rw [List.getElem?_cons_succ]; exact h3, h4⟩

theorem cells?_get {w : World} {base n : Nat} {a : Addr} {cs : List Value} (h : w.cells? base a n = some cs) : cs.length = n ∧ ∀ (j : Nat) (u : Value), cs[j]? = some u → w.cell? (a.add j) = some u := by
  unfold World.cells? at h
  split at h
  · obtain ⟨h1, h2⟩ := mapM_get h
    refine ⟨by rw [h1, List.length_range], fun j u hu => ?_⟩
    obtain ⟨k, hk, hf⟩ := h2 j u hu
    have hlt : j < n := by
      have := (List.getElem?_eq_some_iff.1 hk).1
      rwa [List.length_range] at this
    rw [List.getElem?_range hlt] at hk
    cases hk
    exact hf
  · cases h

theorem block_lt' {w : World} {a : Addr} {u : Value} (h : w.cell? a = some u) : a.block < w.heap.size := by
  unfold World.cell? at h
  split at h
  · rename_i hb
    exact (Array.getElem?_eq_some_iff.1 hb).1
  · cases h

section
variable {H : Type} {enc : TypeId × Value → H} {P : Program} {W : World} {held : Bool}

theorem fldsAre_open {chk : TypeId → Ty → Bool} {fuel : Nat} {sp : Nat → Bool} (hchk : ∀ T t cs d p, chk T t = true → DataW.trod enc P W 0 sp held fuel T cs = some (d, p) → ∃ x : t.den, KF (· < W.heap.size) W t x cs ∧ t.bnd x) :
    ∀ (fs : List Field) (u : Ty) (off : Nat) (cs : List Value) (r : List (DataW H × List MemPlace)), fldsAre P chk fs u off = true → cs.length = off + u.sz →
    (fs.mapM fun f => DataW.trod enc P W 0 sp held fuel f.type ((cs.drop f.offset).take (P.cellsOf f.type))) = some r → ∃ x : u.den, KF (· < W.heap.size) W u x (cs.drop off) ∧ u.bnd x
  | [], u, off, cs, r, h, _, _ => by cases u <;> cases h
  | [f], u, off, cs, r, h, hl, hr => by
    have h' : (Nat.beq f.offset off && (Nat.beq (P.cellsOf f.type) u.sz && chk f.type u)) = true := by
      cases u <;> exact h
    simp only [Bool.and_eq_true] at h'
    obtain ⟨h1, h2, h3⟩ := h'
    have e1 := Nat.eq_of_beq_eq_true h1
    have e2 := Nat.eq_of_beq_eq_true h2
    rw [List.mapM_cons] at hr
    cases ha : DataW.trod enc P W 0 sp held fuel f.type ((cs.drop f.offset).take (P.cellsOf f.type)) with
    | none => rw [ha] at hr; cases hr
    | some q =>
      have := hchk f.type u _ q.1 q.2 h3 ha
      rw [e1, e2, List.take_of_length_le (by rw [List.length_drop, hl]; omega)] at this
      exact this
  | f :: g :: r', .pair a b, off, cs, r, h, hl, hr => by
    have h' : ((Nat.beq f.offset off && (Nat.beq (P.cellsOf f.type) a.sz && chk f.type a)) && fldsAre P chk (g :: r') b (off + a.sz)) = true := h
    simp only [Bool.and_eq_true] at h'
    obtain ⟨⟨h1, h2, h3⟩, h4⟩ := h'
    have e1 := Nat.eq_of_beq_eq_true h1
    have e2 := Nat.eq_of_beq_eq_true h2
    rw [List.mapM_cons] at hr
    cases ha : DataW.trod enc P W 0 sp held fuel f.type ((cs.drop f.offset).take (P.cellsOf f.type)) with
    | none => rw [ha] at hr; cases hr
    | some q =>
      rw [ha] at hr
      cases hb : ((g :: r').mapM fun f => DataW.trod enc P W 0 sp held fuel f.type ((cs.drop f.offset).take (P.cellsOf f.type))) with
      | none =>
        simp only [hb] at hr
        cases hr
      | some q2 =>
        have hsz : (Ty.pair a b).sz = a.sz + b.sz := rfl
        obtain ⟨x, hx1, hx2⟩ := hchk f.type a _ q.1 q.2 h3 ha
        obtain ⟨y, hy1, hy2⟩ := fldsAre_open hchk (g :: r') b (off + a.sz) cs q2 h4 (by rw [hl, hsz]; omega) hb
        rw [e1, e2] at hx1
        refine ⟨(x, y), ⟨_, _, ?_, hx1, hy1⟩, hx2, hy2⟩
        rw [← List.drop_drop, List.take_append_drop]
  | _ :: _ :: _, .int _, _, _, _, h, _, _ => by cases h
  | _ :: _ :: _, .bool, _, _, _, h, _, _ => by cases h
  | _ :: _ :: _, .str, _, _, _, h, _, _ => by cases h
  | _ :: _ :: _, .flt, _, _, _, h, _, _ => by cases h
  | _ :: _ :: _, .row _, _, _, _, h, _, _ => by cases h
  | _ :: _ :: _, .st _, _, _, _, h, _, _ => by cases h

theorem Ty.sz_pos : ∀ (t : Ty), 0 < t.sz
  | .int _ => Nat.one_pos
  | .bool => Nat.one_pos
  | .str => Nat.one_pos
  | .flt => Nat.one_pos
  | .row _ => Nat.one_pos
  | .st t => Ty.sz_pos t
  | .pair a _ => Nat.lt_of_lt_of_le (Ty.sz_pos a) (Nat.le_add_right _ _)

theorem tyIs_open {sp : Nat → Bool} : ∀ (n fuel : Nat) (T : TypeId) (t : Ty) (cs : List Value) (d : DataW H) (p : List MemPlace), tyIs P n T t = true → DataW.trod enc P W 0 sp held fuel T cs = some (d, p) → ∃ x : t.den, KF (· < W.heap.size) W t x cs ∧ t.bnd x
  | 0, _, _, _, _, _, _, h, _ => by cases h
  | _ + 1, 0, _, _, _, _, _, _, h => by cases h
  | n + 1, fuel + 1, T, t, cs, d, p, h, hr => by
    unfold tyIs at h
    unfold DataW.trod at hr
    split at h
    · rename_i hT
      rw [hT] at hr
      split at hr <;> rename_i h1 <;> first | (cases hr; done) | (injection h1; done) | (cases h1; done) | skip
      exact ⟨_, rfl, trivial⟩
    · rename_i k k' hT
      rw [hT] at hr
      have hk := IK.eq_of_beq h
      subst hk
      split at hr <;> rename_i h1 <;> first | (cases hr; done) | (cases h1; done) | skip
      cases h1
      split at hr
      · rename_i hw
        obtain ⟨rfl, hw⟩ := hw
        exact ⟨_, rfl, hw⟩
      · cases hr
    · rename_i hT
      rw [hT] at hr
      split at hr <;> rename_i h1 <;> first | (cases hr; done) | (cases h1; done) | skip
      cases h1
      split at hr
      · rename_i hw
        obtain ⟨rfl, hw⟩ := hw
        exact ⟨_, rfl, hw⟩
      · cases hr
    · rename_i hT
      rw [hT] at hr
      split at hr <;> rename_i h1 <;> first | (cases hr; done) | (cases h1; done) | skip
      split at hr
      · rename_i hw
        exact ⟨_, rfl, hw⟩
      · cases hr
    · rename_i e u hT
      rw [hT] at hr
      rw [Bool.and_eq_true] at h
      obtain ⟨h1, h2⟩ := h
      have e1 := Nat.eq_of_beq_eq_true h1
      split at hr <;> rename_i h1 <;> first | (cases hr; done) | (cases h1; done) | skip
      · exact ⟨[], ⟨none, 0, rfl, Nat.le_refl _, fun _ => rfl, fun i x hx => (by cases hx)⟩, Nat.zero_le _, fun x hx => (by cases hx)⟩
      · cases h1
        rename_i a len cap
        simp only at hr
        split at hr
        · rename_i hb
          obtain ⟨elems, hel, _⟩ := Option.bind_eq_some_iff.1 hr
          obtain ⟨xs, hxs⟩ := mapM_all2 (R := fun (i : Nat) (x : u.den) => ∃ es, a.block < W.heap.size ∧ KF (· < W.heap.size) W u x es ∧ (∀ (j : Nat) (v : Value), es[j]? = some v → W.cell? (a.add (i * u.sz + j)) = some v) ∧ u.bnd x) (fun i q hq => by
            obtain ⟨es, he, hq⟩ := Option.bind_eq_some_iff.1 hq
            obtain ⟨x, hx1, hx2⟩ := tyIs_open n fuel e u es q.1 q.2 h2 hq
            obtain ⟨g1, g2⟩ := cells?_get he
            have hcell : ∀ (j : Nat) (v : Value), es[j]? = some v → W.cell? (a.add (i * u.sz + j)) = some v := fun j v hv => by
              have := g2 j v hv
              rw [e1] at this
              rw [← this, Go.Ev.add_add]
            refine ⟨x, es, ?_, hx1, hcell, hx2⟩
            have hpos : 0 < es.length := by rw [g1, e1]; exact Ty.sz_pos u
            have := hcell 0 es[0] (List.getElem?_eq_getElem hpos)
            rw [← add_block a (i * u.sz + 0)]
            exact block_lt' this) hel
          have hlen : xs.length = len := by rw [all2_len hxs, List.length_range]
          refine ⟨xs, ⟨some a, cap, by rw [hlen], by rw [hlen]; exact hb.2.1, fun hh => (by cases hh), fun i x hx => ?_⟩, by rw [hlen]; exact Nat.le_trans hb.2.1 hb.2.2, fun x hx => ?_⟩
          · obtain ⟨i', hi', es, q1, q2, q3, q4⟩ := all2_get hxs i x hx
            have hlt : i < len := by
              have := (List.getElem?_eq_some_iff.1 hi').1
              rwa [List.length_range] at this
            rw [List.getElem?_range hlt] at hi'
            cases hi'
            exact ⟨a, es, rfl, q1, q2, q3⟩
          · obtain ⟨i, hi⟩ := List.mem_iff_getElem?.1 hx
            obtain ⟨_, _, es, _, _, _, q4⟩ := all2_get hxs i x hi
            exact q4
        · cases hr
    · rename_i fs u hT
      rw [hT] at hr
      rw [Bool.and_eq_true] at h
      obtain ⟨h1, h2⟩ := h
      have e2 := Nat.eq_of_beq_eq_true h2
      simp only at hr
      split at hr
      · rename_i hlen
        obtain ⟨r, hr, _⟩ := Option.map_eq_some_iff.1 hr
        obtain ⟨x, hx⟩ := fldsAre_open (fun T t cs d p hc hd => tyIs_open n fuel T t cs d p hc hd) fs.toList u 0 _ r h1 (by rw [hlen, e2, Nat.zero_add]) hr
        exact ⟨x, hx⟩
      · cases hr
    · cases h
end
end Go.Ev
