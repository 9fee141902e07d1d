/-
 The abstract evaluator: a loop over a map of whole numbers that only looks, in whatever order.
-/
import Derived.Test.YtgpjfmjceamonaaGreatDoorEv20
import Derived.Maps.RangeRun
namespace Go.Ev
open Go.ChangeMaps (setBlock)
variable {P : Program} {e : Env} {H : Nat → Option FH} {Γ : Actv} {C : Ctx} {s : St} {a : Act} {w : World}
/-! ### Acts, states: one slot -/
theorem Act.put_get {a : Act} {d : Nat} {v : Value} (h : d < a.tmps.size) : (a.put (some d) v).tmps.getD d undef = v := by
 show (a.tmps.setIfInBounds d v).getD d undef = v
 simp [Array.getD, h]
theorem Act.put_ne {a : Act} {d k : Nat} {v : Value} (h : k ≠ d) : (a.put (some d) v).tmps.getD k undef = a.tmps.getD k undef := by
 show (a.tmps.setIfInBounds d v).getD k undef = _
 rw [Array.getD_eq_getD_getElem?, Array.getD_eq_getD_getElem?, Array.getElem?_setIfInBounds, if_neg (Ne.symm h)]
theorem Act.put_size {a : Act} {d : Nat} {v : Value} : (a.put (some d) v).tmps.size = a.tmps.size := by
 show (a.tmps.setIfInBounds d v).size = _
 rw [Array.size_setIfInBounds]
def St.setS (s : St) (d : Nat) (x : AV) : St := ⟨s.slots.set d x, s.mem, s.next⟩
theorem RelC.setS (h : RelC e Γ C s a w) {d : Nat} {x : AV} (hx : ARel C w x (a.tmps.getD d undef)) : RelC e Γ C (s.setS d x) a w := by
 refine ⟨h.defers, by show (s.slots.set d x).length = _; rw [List.length_set]; exact h.len, fun k y v hy hv => ?_, h.par, h.mem, h.W⟩
 have hy' : (s.slots.set d x)[k]? = some y := hy
 rw [List.getElem?_set] at hy'
 by_cases hk : d = k
 ·rw [if_pos hk] at hy'
  split at hy'
  ·cases hy'
   have hlt : k < a.tmps.size := (Array.getElem?_eq_some_iff.1 hv).1
   have : a.tmps.getD d undef = v := by
    rw [hk]
    rw [Array.getElem?_eq_getElem hlt] at hv
    cases hv
    simp [Array.getD, hlt]
   rw [← this]
   exact hx
  ·cases hy'
 ·rw [if_neg hk] at hy'
  exact h.slots k y v hy' hv
/-- A slot of which nothing is known takes whatever. -/
theorem RelC.actPut (h : RelC e Γ C s a w) {d : Nat} {v : Value} (hj : s.get d = AV.junk) (hd : Γ.np ≤ d) : RelC e Γ C s (a.put (some d) v) w := by
 refine ⟨h.defers, by rw [Act.put_size]; exact h.len, fun k y u hy hu => ?_, fun k hk => ?_, h.mem, h.W⟩
 ·have hu' : (a.tmps.setIfInBounds d v)[k]? = some u := hu
  rw [Array.getElem?_setIfInBounds] at hu'
  by_cases hk : d = k
  ·subst hk
   unfold St.get at hj
   rw [List.getD_eq_getElem?_getD, hy] at hj
   have : y = AV.junk := hj
   rw [this]
   exact trivial
  ·rw [if_neg hk] at hu'
   exact h.slots k y u hy hu'
 ·show (a.tmps.setIfInBounds d v)[k]? = _
  rw [Array.getElem?_setIfInBounds, if_neg (by omega)]
  exact h.par k hk
theorem wpOp_val {ops : Array Oper} {i d : Nat} {o : Oper} {v : Value} {w' : World} {Q : Exit → Act → World → Prop} {K : Act → World → Prop} (hi : ops[i]? = some o) (hg : o.guard = none) (hd : o.dst = some d) (hrun : (execOp a.eval o).run P w = .ok (.value v) w')
  (hK : K (a.put (some d) v) w') : wpOp P ops Q i K a w := by
 have hw : Region.wanted o (yielded ops a.tmps) = true := by unfold Region.wanted; rw [hg]
 unfold wpOp
 simp only [hi]
 rw [hw]
 refine .inl ?_
 unfold Oper.wp
 rw [hrun]
 have hK' : K (a.put o.dst v) w' := by rw [hd]; exact hK
 exact hK'
/-! ### Two blocks stand apart -/
def baseA (Γ : Actv) (bm r : Nat) (w : World) (F : Nat → Prop) : Actv := ⟨w, fun k => Γ.D k ∧ k ≠ bm ∧ k ≠ r, F, Γ.np, Γ.args⟩
structure J (e : Env) (Γ : Actv) (bm r : Nat) (s : St) (C : Ctx) (a : Act) (w : World) : Prop where
 rel : RelC e (baseA Γ bm r w C.Fz) C s a w
 W : RelW e Γ C w
 nr : ¬ C.Fz r
 nb : ¬ C.Fz bm
 lr : r < w.heap.size
 lb : bm < w.heap.size
theorem J.step {bm r : Nat} (h : J e Γ bm r s C a w) {C3 : Ctx} {s' : St} {a3 : Act} {w3 : World} (h3 : RelC e (baseA Γ bm r w C.Fz) C3 s' a3 w3) : J e Γ bm r s' C3 a3 w3 ∧ w3.heap[r]? = w.heap[r]? ∧ w3.heap[bm]? = w.heap[bm]? := by
 have hD : ¬ (baseA Γ bm r w C.Fz).D r := fun hh => hh.2.2 rfl
 have hD2 : ¬ (baseA Γ bm r w C.Fz).D bm := fun hh => hh.2.1 rfl
 have hch : Ch w w3 (baseA Γ bm r w C.Fz).D := h3.W.ch
 have hsz : w.heap.size ≤ w3.heap.size := hch.size
 have hnr : ¬ C3.Fz r := fun hh => (h3.W.fz r hh).elim h.nr hD
 have hnb : ¬ C3.Fz bm := fun hh => (h3.W.fz bm hh).elim h.nb hD2
 refine ⟨⟨⟨h3.defers, h3.len, h3.slots, h3.par, h3.mem, ⟨Ch.refl _ _, fun k hk => h3.W.fresh k (Nat.le_trans hsz hk), fun k hk => .inl hk, fun k hk => hk, h3.W.lt, h3.W.glob⟩⟩, ?_, hnr, hnb, Nat.lt_of_lt_of_le h.lr hsz, Nat.lt_of_lt_of_le h.lb hsz⟩, hch.block r h.lr hD, hch.block bm h.lb hD2⟩
 refine ⟨⟨hch.os.trans h.W.ch.os, hch.tape.trans h.W.ch.tape, hch.output.trans h.W.ch.output, Nat.le_trans h.W.ch.size hsz, fun k hk hd => ?_⟩, h.W.fresh, fun k hk => ?_, fun k hk => h3.W.fz0 k (h.W.fz0 k hk), h3.W.lt, h3.W.glob⟩
 ·rw [hch.block k (Nat.lt_of_lt_of_le hk h.W.ch.size) (fun hh => hd hh.1)]
  exact h.W.ch.block k hk hd
 ·rcases h3.W.fz k hk with hh | hh
  ·exact h.W.fz k hh
  ·exact .inr hh.1
/-- Only the iterator turned. -/
theorem J.world {bm r : Nat} (h : J e Γ bm r s C a w) {w2 : World} (hch : Ch w w2 (fun k => k = r)) (hbr : r ≠ bm) (hDr : Γ.D r) : J e Γ bm r s C a w2 ∧ w2.heap[bm]? = w.heap[bm]? := by
 have hF : ∀ k, C.Fz k → ¬ (k = r) := fun k hk hh => h.nr (hh ▸ hk)
 have hlive : ∀ j c, mget s.mem j = some c → live c = true → ∀ g, g ∈ C.fp j → ¬ (g = r) ∧ ¬ C.Fz g := fun j c hj hl g hg => by
  obtain ⟨h1, h2⟩ := (h.rel.mem.blk j c hj).nf hl hg
  exact ⟨h2.2.2, h1⟩
 have hsz := hch.size
 refine ⟨⟨⟨h.rel.defers, h.rel.len, fun k x v hx hv => ARel.move (CLe.refl C) (fun k hk hlt => hch.block k hlt (hF k hk)) (h.rel.slots k x v hx hv), h.rel.par, h.rel.mem.world hch hF rfl rfl rfl rfl (fun _ hk => hk) hlive,
  ⟨Ch.refl _ _, fun k hk => h.rel.W.fresh k (Nat.le_trans hsz hk), fun k hk => .inl hk, fun k hk => hk, fun k hk => Nat.lt_of_lt_of_le (h.rel.W.lt k hk) hsz, h.rel.W.glob.move (fun _ hk => hk) fun k hk hlt => hch.block k hlt (hF k hk)⟩⟩, ?_, h.nr, h.nb, Nat.lt_of_lt_of_le h.lr hsz, Nat.lt_of_lt_of_le h.lb hsz⟩,
  hch.block bm h.lb (fun hh => hbr hh.symm)⟩
 exact h.W.step (CLe.refl C) hch (fun k _ hh => hh ▸ hDr) hF (fun k hk => .inl hk)
theorem RelM.more {D D' : Nat → Prop} {m : Mem} (h : RelM D C w m) (hD : ∀ j c, mget m j = some c → live c = true → ∀ g, g ∈ C.fp j → D' g) : RelM D' C w m := by
 refine ⟨fun i b hi => ?_, h.inj, h.dm, h.one⟩
 have hb := h.blk i b hi
 cases b with
 | dead => trivial
 | frz t xs => exact hb
 | box T cs =>
  obtain ⟨⟨g, arr, h1, h2, h3, h4, _⟩, he⟩ := hb
  exact ⟨⟨g, arr, h1, h2, h3, h4, hD i _ hi rfl g (fp_top (by rw [h1]; rfl))⟩, he⟩
 | row E t xs =>
  obtain ⟨⟨cells, h1, h2, h3⟩, he⟩ := hb
  exact ⟨⟨cells, h1, h2, fun g hg => ⟨(h3 g hg).1, hD i _ hi rfl g (fp_top hg)⟩⟩, he⟩
 | mp es =>
  obtain ⟨⟨g, ents, ck, h1, h2, h3, h4, _⟩, he⟩ := hb
  exact ⟨⟨g, ents, ck, h1, h2, h3, h4, hD i _ hi rfl g (fp_top (by rw [h1]; rfl))⟩, he⟩
 | deep E d xs fx hs =>
  obtain ⟨h1, h2, h3, h4⟩ := hb
  exact ⟨h1, h2, fun g hg => ⟨(h3 g hg).1, hD i _ hi rfl g hg, (h3 g hg).2.2⟩, h4⟩
/-- The state is there for the original activation, too. -/
theorem J.out {bm r : Nat} (h : J e Γ bm r s C a w) : RelC e Γ C s a w :=
 ⟨h.rel.defers, h.rel.len, h.rel.slots, h.rel.par, h.rel.mem.more fun j c hj hl _ hg => ((h.rel.mem.blk j c hj).nf hl hg).2.1, h.W⟩
theorem J.actPut {bm r : Nat} (h : J e Γ bm r s C a w) {d : Nat} {v : Value} (hj : s.get d = AV.junk) (hd : Γ.np ≤ d) : J e Γ bm r s C (a.put (some d) v) w :=
 ⟨h.rel.actPut hj hd, h.W, h.nr, h.nb, h.lr, h.lb⟩
theorem J.setS {bm r : Nat} (h : J e Γ bm r s C a w) {d : Nat} {x : AV} (hx : ARel C w x (a.tmps.getD d undef)) : J e Γ bm r (s.setS d x) C a w :=
 ⟨h.rel.setS hx, h.W, h.nr, h.nb, h.lr, h.lb⟩
/-! ### What the loop's body is told in -/
def stB (s : St) (ti k1 v1 r : Nat) (k v : Int) : St := ((s.setS ti (.v (.one (.glob r)))).setS k1 (.v (.one (.int .i64 k)))).setS v1 (.v (.one (.int .i64 v)))
def KB {vs : List VS} (ks : List Nat) (al : List (Nat × Drv)) (shR : Sh) (ti : Nat) : Ex → St → Option ((VS.dens vs × Nat) ⊕ VS.dens shR.vs)
 | .normal, s => match exSt ⟨ks, vs, al⟩ s, s.get ti with
  | some z, .v (.one (.glob r)) => some (.inl (z, r))
  | _, _ => none
 | .ret, s => match exSt shR s with
  | some q => some (.inr q)
  | none => none
 | .exit _, _ => none
theorem run_range {M K V bm ck : Nat} {ents : Array MapEntry} (hM : P.underlying M = some (.map K V)) (hh : w.heap[bm]? = some (.map ents ck)) :
  (Instr.range M (.map (some bm))).run P w = .ok (.pointer (some ⟨w.heap.size, 0, none⟩)) (w.alloc (.mapIter (some bm) ck #[] ck)) := by
 simp [Instr.range, run_underlying hM, MapKept.run_getObj_map hh]
structure OpIs (o : Oper) (op : Op) (d : Nat) : Prop where
 op : o.op = op
 dst : o.dst = some d
 guard : o.guard = none
/-- The form of the code: take the map, go over it, look at each entry. -/
def rangeCode (i0 i1 i2 b1 b2 : Nat) (tc : Nat) (o0 o1 n0 n1 e0 e1 e2 e3 e4 : Oper) (B : Code) : Code :=
 .seq (.region i0 #[o0, o1] false) (.block b1 (.loop (.seq (.region i1 #[n0, n1] false) (.seq (.cond (.tmp tc) .skip (.exit b1)) (.block b2 (.seq (.region i2 #[e0, e1, e2, e3, e4] false) B))))))
/-- An entry at which the body goes on. -/
def Goes {vs : List VS} {R : Type} (g : Nat → Int → Int → VS.dens vs → Option ((VS.dens vs × Nat) ⊕ R)) (y : VS.dens vs) (x : MapEntry) : Prop := ∃ k v, x.key = .int .i64 k ∧ x.val = .int .i64 v ∧ ∀ r, g r k v y = some (.inl (y, r))
section
variable {T : List Pc} {n : Nat} {ks : List Nat} {vs : List VS} {al : List (Nat × Drv)} {shR : Sh} {i1 i2 b1 b2 ti tn tc te tk tv k1 v1 : Nat} {n0 n1 e0 e1 e2 e3 e4 : Oper} {B : Code} {g : Nat → Int → Int → VS.dens vs → Option ((VS.dens vs × Nat) ⊕ VS.dens shR.vs)}
structure Fit (P : Program) (e : Env) (H : Nat → Option FH) (T : List Pc) (np n : Nat) (ks : List Nat) (vs : List VS) (al : List (Nat × Drv)) (shR : Sh) (ti tn tc te tk tv k1 v1 : Nat) (n0 n1 e0 e1 e2 e3 e4 : Oper) (B : Code) (g : Nat → Int → Int → VS.dens vs → Option ((VS.dens vs × Nat) ⊕ VS.dens shR.vs)) (r0 : VS.dens shR.vs) : Prop where
 n0 : OpIs n0 (.next (.tmp ti) false) tn
 n1 : OpIs n1 (.extract (.tmp tn) 0) tc
 e0 : OpIs e0 (.entry (.tmp ti)) te
 e1 : OpIs e1 (.extract (.tmp te) 0) tk
 e2 : OpIs e2 (.extract (.tmp te) 1) tv
 e3 : OpIs e3 (.assign (.tmp tk)) k1
 e4 : OpIs e4 (.assign (.tmp tv)) v1
 okT : Ok P e np n T B
 wr : wrC np B = true
 lt : ∀ d, d ∈ [ti, tn, tc, te, tk, tv, k1, v1] → np ≤ d ∧ d < n
 ne : ti ≠ tn ∧ ti ≠ tc ∧ ti ≠ te ∧ ti ≠ tk ∧ ti ≠ tv ∧ ti ≠ k1 ∧ ti ≠ v1 ∧ te ≠ tk ∧ tk ≠ tv ∧ tk ≠ k1 ∧ tv ≠ k1 ∧ k1 ≠ v1
 jk : ∀ y d, d ∈ [ti, tn, tc, te, tk, tv, k1, v1] → (mkSt n ⟨ks, vs, al⟩ y).get d = AV.junk
 B : ∀ r k v y, evC e H T B (stB (mkSt n ⟨ks, vs, al⟩ y) ti k1 v1 r k v) (KB ks al shR ti) = g r k v y
 g1 : ∀ r k v y z, g r k v y = some (.inl z) → z = (y, r)
 g2 : ∀ r k v y q, g r k v y = some (.inr q) → q = r0
 gu : ∀ r r2 k v y, g r k v y = some (.inl (y, r)) → g r2 k v y = some (.inl (y, r2))
theorem junk_setS {s : St} {d k : Nat} {x : AV} (h : s.get k = AV.junk) (hk : d ≠ k) : (s.setS d x).get k = AV.junk := by
 unfold St.get St.setS at *
 simp only [List.getD_eq_getElem?_getD] at *
 rw [List.getElem?_set, if_neg hk]
 exact h
/-- One round, or the end. -/
theorem range_round {r0 : VS.dens shR.vs} (hok : EnvOk P e) (hH : ∀ g h, H g = some h → Con P e g h) (hf : Fit P e H T Γ.np n ks vs al shR ti tn tc te tk tv k1 v1 n0 n1 e0 e1 e2 e3 e4 B g r0) {bm r ck c0 : Nat} {ents : Array MapEntry} {seen : Array Nat} {y : VS.dens vs} {Q : Exit → Act → World → Prop}
  (hJ : J e Γ bm r (mkSt n ⟨ks, vs, al⟩ y) C a w) (hn : (mkSt n ⟨ks, vs, al⟩ y).slots.length = n) (hti : a.tmps.getD ti undef = .pointer (some ⟨r, 0, none⟩)) (hr : w.heap[r]? = some (.mapIter (some bm) ck seen c0)) (hb : w.heap[bm]? = some (.map ents ck)) (hbo : Born ents.toList ck) (hck : ck ≤ c0) (hrb : r ≠ bm) (hDr : Γ.D r)
  (hgo : ∀ x, x ∈ ents.toList → ∃ k v, x.key = .int .i64 k ∧ x.val = .int .i64 v ∧ ∀ r, g r k v y ≠ none)
  (hend : (leftOf ents seen).size = 0 → ∀ C a w, J e Γ bm r (mkSt n ⟨ks, vs, al⟩ y) C a w → Q (.exit b1) a w)
  (hret : (∃ x, x ∈ ents.toList ∧ ¬ Goes g y x) → ∀ C a w, RelC e Γ C (mkSt n shR r0) a w → (mkSt n shR r0).slots.length = n → Q .ret a w)
  (hnext : ∀ C a w x, x ∈ (leftOf ents seen).toList → Goes g y x → J e Γ bm r (mkSt n ⟨ks, vs, al⟩ y) C a w → a.tmps.getD ti undef = .pointer (some ⟨r, 0, none⟩) → w.heap[r]? = some (.mapIter (some bm) ck (seen.push x.born) ck) → w.heap[bm]? = some (.map ents ck) → Q .normal a w) :
  (Code.seq (.region i1 #[n0, n1] false) (.seq (.cond (.tmp tc) .skip (.exit b1)) (.block b2 (.seq (.region i2 #[e0, e1, e2, e3, e4] false) B)))).wp P Q a w := by
 have hsz : a.tmps.size = n := by rw [← hJ.rel.len, hn]
 obtain ⟨d1, d2, d3, d4, d5, d6, d7, d8, d9, d10, d11, d12⟩ := hf.ne
 have lt : ∀ d, d ∈ [ti, tn, tc, te, tk, tv, k1, v1] → d < n := fun d hd => (hf.lt d hd).2
 have np : ∀ d, d ∈ [ti, tn, tc, te, tk, tv, k1, v1] → Γ.np ≤ d := fun d hd => (hf.lt d hd).1
 have jk := hf.jk y
 refine wp_seq (wp_region ?_)
 show wpOps P #[n0, n1] _ [0, 1] a w
 rw [wpOps_cons]
 have hnx := run_next_at (P := P) w n0.type r bm ck c0 seen ents ck hr hb hbo.1 hck
 have hex : execOp a.eval n0 = (do pure (.value (← Instr.next (a.eval (.tmp ti)) false n0.type))) := by unfold execOp; rw [hf.n0.op]
 have hev : a.eval (.tmp ti) = .pointer (some ⟨r, 0, none⟩) := hti
 rw [hev] at hex
 rcases hnx with ⟨hz, hrun⟩ | ⟨x, hx, w1, hw1, hrun⟩
 · -- nothing is left
  refine wpOp_val (o := n0) rfl hf.n0.guard hf.n0.dst (by rw [hex, Sem.run_bind, hrun]; rfl) ?_
  have hJ1 := hJ.actPut (v := .tuple #[.bool false]) (jk tn (by simp)) (np tn (by simp))
  rw [wpOps_cons]
  refine wpOp_val (o := n1) (v := .bool false) (w' := w) rfl hf.n1.guard hf.n1.dst ?_ ?_
  ·have : (a.put (some tn) (.tuple #[.bool false])).eval (.tmp tn) = .tuple #[.bool false] := Act.put_get (by rw [hsz]; exact lt tn (by simp))
   unfold execOp
   rw [hf.n1.op]
   simp [this, Instr.extract]
  ·have hJ2 := hJ1.actPut (v := .bool false) (jk tc (by simp)) (np tc (by simp))
   show (Code.seq _ _).wp P Q _ _
   refine wp_seq (wp_cond (t := false) (Act.put_get (by rw [Act.put_size, hsz]; exact lt tc (by simp))) ?_)
   exact wp_exit (hend hz C _ w hJ2)
 · -- one entry
  have hxe : x ∈ ents.toList := by
   unfold leftOf at hx
   simp at hx
   exact (by simpa using hx.1)
  have hw1h : w1.heap = w.heap := by rcases hw1 with rfl | rfl <;> rfl
  have hch : Ch w (setBlock w1 r (.mapIter (some bm) ck (seen.push x.born) ck)) (fun k => k = r) := by
   refine ⟨?_, ?_, ?_, ?_, fun k hk hne => ?_⟩
   ·rcases hw1 with rfl | rfl <;> rfl
   ·rcases hw1 with rfl | rfl <;> rfl
   ·rcases hw1 with rfl | rfl <;> rfl
   ·show w.heap.size ≤ (w1.heap.setIfInBounds r _).size
    rw [Array.size_setIfInBounds, hw1h]
    exact Nat.le_refl _
   ·show (w1.heap.setIfInBounds r _)[k]? = _
    rw [Array.getElem?_setIfInBounds, if_neg (Ne.symm hne), hw1h]
  have hr2 : (setBlock w1 r (.mapIter (some bm) ck (seen.push x.born) ck)).heap[r]? = some (.mapIter (some bm) ck (seen.push x.born) ck) := by
   show (w1.heap.setIfInBounds r _)[r]? = _
   rw [Array.getElem?_setIfInBounds, if_pos rfl, hw1h, if_pos hJ.lr]
  generalize setBlock w1 r (.mapIter (some bm) ck (seen.push x.born) ck) = w2 at hrun hch hr2
  obtain ⟨hJ0, hb2⟩ := hJ.world hch hrb hDr
  rw [hb] at hb2
  obtain ⟨k, v, hk, hv, hgx⟩ := hgo x hxe
  rw [hk, hv] at hrun
  refine wpOp_val (o := n0) rfl hf.n0.guard hf.n0.dst (by rw [hex, Sem.run_bind, hrun]; rfl) ?_
  have hJ1 := hJ0.actPut (v := .tuple #[.bool true, .int .i64 k, .int .i64 v]) (jk tn (by simp)) (np tn (by simp))
  rw [wpOps_cons]
  refine wpOp_val (o := n1) (v := .bool true) (w' := w2) rfl hf.n1.guard hf.n1.dst ?_ ?_
  ·have : (a.put (some tn) (.tuple #[.bool true, .int .i64 k, .int .i64 v])).eval (.tmp tn) = .tuple #[.bool true, .int .i64 k, .int .i64 v] := Act.put_get (by rw [hsz]; exact lt tn (by simp))
   unfold execOp
   rw [hf.n1.op]
   simp [this, Instr.extract]
  have hJ2 := hJ1.actPut (v := .bool true) (jk tc (by simp)) (np tc (by simp))
  have hs2 : ((a.put (some tn) (.tuple #[.bool true, .int .i64 k, .int .i64 v])).put (some tc) (.bool true)).tmps.size = n := by rw [Act.put_size, Act.put_size, hsz]
  have hti2 : ((a.put (some tn) (.tuple #[.bool true, .int .i64 k, .int .i64 v])).put (some tc) (.bool true)).tmps.getD ti undef = .pointer (some ⟨r, 0, none⟩) := by rw [Act.put_ne d2, Act.put_ne d1]; exact hti
  show (Code.seq _ _).wp P Q _ _
  refine wp_seq (wp_cond (t := true) (Act.put_get (by rw [Act.put_size, hsz]; exact lt tc (by simp))) (wp_skip ?_))
  generalize (a.put (some tn) (.tuple #[.bool true, .int .i64 k, .int .i64 v])).put (some tc) (.bool true) = a2 at hJ2 hs2 hti2
  show (Code.block _ _).wp P Q a2 w2
  refine wp_block (wp_seq (wp_region ?_))
  show wpOps P #[e0, e1, e2, e3, e4] _ [0, 1, 2, 3, 4] a2 w2
  have hent := run_entry_at (P := P) w2 r bm ck seen ents ck x hr2 hb2 hxe hbo.2
  rw [hk, hv] at hent
  have hev2 : a2.eval (.tmp ti) = .pointer (some ⟨r, 0, none⟩) := hti2
  rw [wpOps_cons]
  refine wpOp_val (o := e0) (v := .tuple #[.int .i64 k, .int .i64 v]) (w' := w2) rfl hf.e0.guard hf.e0.dst (by unfold execOp; rw [hf.e0.op]; simp [hev2, hent]) ?_
  have hJ3 := hJ2.actPut (v := .tuple #[.int .i64 k, .int .i64 v]) (jk te (by simp)) (np te (by simp))
  have ha3 : (a2.put (some te) (.tuple #[.int .i64 k, .int .i64 v])).tmps.getD te undef = .tuple #[.int .i64 k, .int .i64 v] := Act.put_get (by rw [hs2]; exact lt te (by simp))
  have hti3 : (a2.put (some te) (.tuple #[.int .i64 k, .int .i64 v])).tmps.getD ti undef = .pointer (some ⟨r, 0, none⟩) := by rw [Act.put_ne d3]; exact hti2
  have hs3 : (a2.put (some te) (.tuple #[.int .i64 k, .int .i64 v])).tmps.size = n := by rw [Act.put_size, hs2]
  generalize a2.put (some te) (.tuple #[.int .i64 k, .int .i64 v]) = a3 at hJ3 ha3 hti3 hs3
  have hev3 : a3.eval (.tmp te) = .tuple #[.int .i64 k, .int .i64 v] := ha3
  rw [wpOps_cons]
  refine wpOp_val (o := e1) (v := .int .i64 k) (w' := w2) rfl hf.e1.guard hf.e1.dst (by unfold execOp; rw [hf.e1.op]; simp [hev3, Instr.extract]) ?_
  have hJ4 := hJ3.actPut (v := .int .i64 k) (jk tk (by simp)) (np tk (by simp))
  have hev4 : (a3.put (some tk) (.int .i64 k)).eval (.tmp te) = .tuple #[.int .i64 k, .int .i64 v] := by
   show (a3.put (some tk) (.int .i64 k)).tmps.getD te undef = _
   rw [Act.put_ne d8]
   exact ha3
  have hs4 : (a3.put (some tk) (.int .i64 k)).tmps.size = n := by rw [Act.put_size, hs3]
  have hk4 : (a3.put (some tk) (.int .i64 k)).tmps.getD tk undef = .int .i64 k := Act.put_get (by rw [hs3]; exact lt tk (by simp))
  have hti4 : (a3.put (some tk) (.int .i64 k)).tmps.getD ti undef = .pointer (some ⟨r, 0, none⟩) := by rw [Act.put_ne d4]; exact hti3
  generalize a3.put (some tk) (.int .i64 k) = a4 at hJ4 hev4 hs4 hk4 hti4
  rw [wpOps_cons]
  refine wpOp_val (o := e2) (v := .int .i64 v) (w' := w2) rfl hf.e2.guard hf.e2.dst (by unfold execOp; rw [hf.e2.op]; simp [hev4, Instr.extract]) ?_
  have hJ5 := hJ4.actPut (v := .int .i64 v) (jk tv (by simp)) (np tv (by simp))
  have hv5 : (a4.put (some tv) (.int .i64 v)).tmps.getD tv undef = .int .i64 v := Act.put_get (by rw [hs4]; exact lt tv (by simp))
  have hk5 : (a4.put (some tv) (.int .i64 v)).tmps.getD tk undef = .int .i64 k := by rw [Act.put_ne d9]; exact hk4
  have hti5 : (a4.put (some tv) (.int .i64 v)).tmps.getD ti undef = .pointer (some ⟨r, 0, none⟩) := by rw [Act.put_ne d5]; exact hti4
  have hs5 : (a4.put (some tv) (.int .i64 v)).tmps.size = n := by rw [Act.put_size, hs4]
  generalize a4.put (some tv) (.int .i64 v) = a5 at hJ5 hv5 hk5 hti5 hs5
  have hevk : a5.eval (.tmp tk) = .int .i64 k := hk5
  rw [wpOps_cons]
  refine wpOp_val (o := e3) (v := .int .i64 k) (w' := w2) rfl hf.e3.guard hf.e3.dst (by unfold execOp; rw [hf.e3.op]; simp [hevk]) ?_
  have hJ6 := hJ5.actPut (v := .int .i64 k) (jk k1 (by simp)) (np k1 (by simp))
  have hk6 : (a5.put (some k1) (.int .i64 k)).tmps.getD k1 undef = .int .i64 k := Act.put_get (by rw [hs5]; exact lt k1 (by simp))
  have hv6 : (a5.put (some k1) (.int .i64 k)).tmps.getD tv undef = .int .i64 v := by rw [Act.put_ne d11]; exact hv5
  have hti6 : (a5.put (some k1) (.int .i64 k)).tmps.getD ti undef = .pointer (some ⟨r, 0, none⟩) := by rw [Act.put_ne d6]; exact hti5
  have hs6 : (a5.put (some k1) (.int .i64 k)).tmps.size = n := by rw [Act.put_size, hs5]
  generalize a5.put (some k1) (.int .i64 k) = a6 at hJ6 hk6 hv6 hti6 hs6
  have hevv : a6.eval (.tmp tv) = .int .i64 v := hv6
  rw [wpOps_cons]
  refine wpOp_val (o := e4) (v := .int .i64 v) (w' := w2) rfl hf.e4.guard hf.e4.dst (by unfold execOp; rw [hf.e4.op]; simp [hevv]) ?_
  have hJ7 := hJ6.actPut (v := .int .i64 v) (jk v1 (by simp)) (np v1 (by simp))
  have hv7 : (a6.put (some v1) (.int .i64 v)).tmps.getD v1 undef = .int .i64 v := Act.put_get (by rw [hs6]; exact lt v1 (by simp))
  have hk7 : (a6.put (some v1) (.int .i64 v)).tmps.getD k1 undef = .int .i64 k := by rw [Act.put_ne d12]; exact hk6
  have hti7 : (a6.put (some v1) (.int .i64 v)).tmps.getD ti undef = .pointer (some ⟨r, 0, none⟩) := by rw [Act.put_ne d7]; exact hti6
  generalize a6.put (some v1) (.int .i64 v) = a7 at hJ7 hv7 hk7 hti7
  have hJ8 : J e Γ bm r (stB (mkSt n ⟨ks, vs, al⟩ y) ti k1 v1 r k v) C a7 w2 := ((hJ7.setS (d := ti) (x := .v (.one (.glob r))) hti7).setS (d := k1) (x := .v (.one (.int .i64 k))) hk7).setS (d := v1) (x := .v (.one (.int .i64 v))) hv7
  show B.wp P _ a7 w2
  have hlen : (stB (mkSt n ⟨ks, vs, al⟩ y) ti k1 v1 r k v).slots.length = n := by
   unfold stB St.setS
   simp only [List.length_set]
   exact hn
  cases hq : g r k v y with
  | none => exact absurd hq (hgx r)
  | some q =>
   have hev := hf.B r k v y
   rw [hq] at hev
   refine evC_sound (Γ := baseA Γ bm r w2 C.Fz) hok hH B _ _ C a7 w2 _ hf.okT hf.wr hev hJ8.rel hlen fun ex s' C' a' w' q1 q2 q3 => ?_
   obtain ⟨hJ9, hr9, hb9⟩ := hJ8.step q2
   cases ex with
   | normal =>
    simp only [KB] at q3
    split at q3
    ·rename_i z r' hz hr'
     have hq' := Option.some.inj q3
     subst hq'
     have hz2 := hf.g1 r k v y _ hq
     obtain ⟨rfl, rfl⟩ := Prod.mk.inj hz2
     obtain ⟨C2, p1, p2⟩ := exSt_mk hJ9.rel q1 hz
     obtain ⟨hJ10, hr10, hb10⟩ := hJ9.step p1
     have hti' : a'.tmps.getD ti undef = .pointer (some ⟨r', 0, none⟩) := by
      have := get_rel q2 ti
      rw [hr'] at this
      exact this
     exact hnext C2 a' w' x hx ⟨k, v, hk, hv, fun r2 => hf.gu r' r2 k v _ hq⟩ hJ10 hti' (by rw [hr9]; exact hr2) (by rw [hb9]; exact hb2)
    ·cases q3
   | ret =>
    simp only [KB] at q3
    split at q3
    ·rename_i q' hq'
     have hq2 := Option.some.inj q3
     subst hq2
     have := hf.g2 r k v y _ hq
     subst this
     obtain ⟨C2, p1, p2⟩ := exSt_mk hJ9.out q1 hq'
     refine hret ⟨x, hxe, fun ⟨k2, v2, hk2, hv2, hg2⟩ => ?_⟩ C2 a' w' p1 p2
     rw [hk] at hk2
     rw [hv] at hv2
     cases hk2
     cases hv2
     rw [hg2 r] at hq
     cases hq
    ·cases q3
   | exit id => cases q3
theorem leftOf_nil {ents : Array MapEntry} {seen : Array Nat} (h : (leftOf ents seen).size = 0) {x : MapEntry} (hx : x ∈ ents.toList) : seen.contains x.born = true := by
 have he : leftOf ents seen = #[] := Array.eq_empty_of_size_eq_zero h
 unfold leftOf at he
 rw [Array.filter_eq_empty_iff] at he
 have := he x (by simpa using hx)
 simpa using this
theorem leftOf_lt {ents : Array MapEntry} {seen : Array Nat} {x : MapEntry} (hx : x ∈ (leftOf ents seen).toList) : (leftOf ents (seen.push x.born)).size < (leftOf ents seen).size := by
 have key : ∀ l : List MapEntry, x ∈ l.filter (fun e => !seen.contains e.born) → (l.filter fun e => !(seen.push x.born).contains e.born).length < (l.filter fun e => !seen.contains e.born).length := by
  intro l
  have hsub : ∀ e : MapEntry, (!(seen.push x.born).contains e.born) = true → (!seen.contains e.born) = true := fun e he => by
   cases hc : seen.contains e.born with
   | false => rfl
   | true =>
    have : (seen.push x.born).contains e.born = true := by
     rw [Array.contains_iff_mem] at hc ⊢
     exact Array.mem_push.2 (.inl hc)
    rw [this] at he
    cases he
  have hle : ∀ l : List MapEntry, (l.filter fun e => !(seen.push x.born).contains e.born).length ≤ (l.filter fun e => !seen.contains e.born).length := fun l => by
   rw [← List.countP_eq_length_filter, ← List.countP_eq_length_filter]
   exact List.countP_mono_left fun e _ he => hsub e he
  induction l with
  | nil => intro h; cases h
  | cons y l ih =>
   intro h
   rw [List.filter_cons] at h
   have hxs : (!(seen.push x.born).contains x.born) = false := by
    have : (seen.push x.born).contains x.born = true := by
     rw [Array.contains_iff_mem]
     exact Array.mem_push.2 (.inr rfl)
    rw [this]
    rfl
   rw [List.filter_cons, List.filter_cons]
   split at h
   ·rename_i hy
    rw [if_pos hy]
    rcases List.mem_cons.1 h with rfl | h
    ·rw [if_neg (by rw [hxs]; exact fun hh => by cases hh), List.length_cons]
     have := hle l
     omega
    ·have := ih h
     split <;> rw [List.length_cons] <;> first | omega | (rw [List.length_cons]; omega)
   ·rename_i hy
    rw [if_neg hy, if_neg (fun hh => hy (hsub y hh))]
    exact ih h
 have h1 : (leftOf ents seen).toList = ents.toList.filter fun e => !seen.contains e.born := by unfold leftOf; exact Array.toList_filter
 have h2 : (leftOf ents (seen.push x.born)).toList = ents.toList.filter fun e => !(seen.push x.born).contains e.born := by unfold leftOf; exact Array.toList_filter
 rw [h1] at hx
 have := key ents.toList hx
 rw [← h1, ← h2, Array.length_toList, Array.length_toList] at this
 exact this
/-- All the rounds. -/
theorem range_rounds {r0 : VS.dens shR.vs} (hok : EnvOk P e) (hH : ∀ g h, H g = some h → Con P e g h) (hf : Fit P e H T Γ.np n ks vs al shR ti tn tc te tk tv k1 v1 n0 n1 e0 e1 e2 e3 e4 B g r0) {bm r ck : Nat} {ents : Array MapEntry} {y : VS.dens vs} {Q : Exit → Act → World → Prop}
  (hn : (mkSt n ⟨ks, vs, al⟩ y).slots.length = n) (hbo : Born ents.toList ck) (hrb : r ≠ bm) (hDr : Γ.D r) (hgo : ∀ x, x ∈ ents.toList → ∃ k v, x.key = .int .i64 k ∧ x.val = .int .i64 v ∧ ∀ r, g r k v y ≠ none)
  (hend : (∀ x, x ∈ ents.toList → Goes g y x) → ∀ C a w, RelC e Γ C (mkSt n ⟨ks, vs, al⟩ y) a w → Q (.exit b1) a w)
  (hret : (∃ x, x ∈ ents.toList ∧ ¬ Goes g y x) → ∀ C a w, RelC e Γ C (mkSt n shR r0) a w → (mkSt n shR r0).slots.length = n → Q .ret a w) :
  ∀ (fuel : Nat) (seen : Array Nat) (c0 : Nat) (C : Ctx) (a : Act) (w : World), (leftOf ents seen).size < fuel → J e Γ bm r (mkSt n ⟨ks, vs, al⟩ y) C a w → a.tmps.getD ti undef = .pointer (some ⟨r, 0, none⟩) → w.heap[r]? = some (.mapIter (some bm) ck seen c0) → w.heap[bm]? = some (.map ents ck) → ck ≤ c0 →
  (∀ x, x ∈ ents.toList → seen.contains x.born = true → Goes g y x) →
  Code.rounds P (Code.seq (.region i1 #[n0, n1] false) (.seq (.cond (.tmp tc) .skip (.exit b1)) (.block b2 (.seq (.region i2 #[e0, e1, e2, e3, e4] false) B)))) Q fuel a w
 | 0, _, _, _, _, _, h, _, _, _, _, _, _ => by omega
 | fuel + 1, seen, c0, C, a, w, hfu, hJ, hti, hr, hb, hck, hseen => by
  rw [rounds_succ]
  refine range_round (b1 := b1) hok hH hf hJ hn hti hr hb hbo hck hrb hDr hgo (fun hz C a w h => ?_) (fun hx C a w h1 h2 => hret hx C a w h1 h2) fun C a w x hx hgx h1 h2 h3 h4 => ?_
  ·exact hend (fun x hx => hseen x hx (leftOf_nil hz hx)) C a w h.out
  ·refine range_rounds hok hH hf hn hbo hrb hDr hgo hend hret fuel (seen.push x.born) ck C a w ?_ h1 h2 h3 h4 (Nat.le_refl _) fun x' hx' hs' => ?_
   ·have := leftOf_lt hx
    omega
   ·by_cases hc : seen.contains x'.born = true
    ·exact hseen x' hx' hc
    ·rw [Array.contains_iff_mem] at hs' hc
     rcases Array.mem_push.1 hs' with hm | hm
     ·exact absurd hm hc
     · -- one number, one entry
      have hxe : x ∈ ents.toList := by
       unfold leftOf at hx
       simp at hx
       exact (by simpa using hx.1)
      have : x' = x := by
       obtain ⟨i, hi⟩ := List.mem_iff_getElem?.1 hx'
       obtain ⟨j, hj⟩ := List.mem_iff_getElem?.1 hxe
       have hii : (ents.toList.map (·.born))[i]? = some x'.born := by rw [List.getElem?_map, hi]; rfl
       have hjj : (ents.toList.map (·.born))[j]? = some x'.born := by rw [List.getElem?_map, hj, hm]; rfl
       have hil : i < (ents.toList.map (·.born)).length := (List.getElem?_eq_some_iff.1 hii).1
       have hij : i = j := (List.getElem?_inj hil hbo.2).1 (hii.trans hjj.symm)
       subst hij
       rw [hi] at hj
       exact Option.some.inj hj
      rw [this]
      exact hgx
theorem All2.get_right {α β : Type} {R : α → β → Prop} : ∀ {as : List α} {bs : List β}, All2 R as bs → ∀ (i : Nat) (b : β), bs[i]? = some b → ∃ a, as[i]? = some a ∧ R a b
 | [], [], _, i, x, h => by cases h
 | a :: l, y :: ys, hr, i, x, h => by
  cases i with
  | zero =>
   rw [List.getElem?_cons_zero] at h
   cases h
   exact ⟨a, by rw [List.getElem?_cons_zero], hr.1⟩
  | succ i =>
   rw [List.getElem?_cons_succ] at h
   obtain ⟨b, hb, hR⟩ := All2.get_right hr.2 i x h
   exact ⟨b, by rw [List.getElem?_cons_succ]; exact hb, hR⟩
theorem Ch.alloc (w : World) (o : Obj) : Ch w (w.alloc o) (fun _ => False) := by
 refine ⟨rfl, rfl, rfl, ?_, fun k hk _ => ?_⟩
 ·show w.heap.size ≤ (w.heap.push o).size
  rw [Array.size_push]
  exact Nat.le_succ _
 ·show (w.heap.push o)[k]? = _
  rw [Array.getElem?_push, if_neg (by omega)]
/-- A loop over a map that only looks is a piece. -/
theorem map_range_ok {np key i0 tm t1 M : Nat} {o0 o1 : Oper} {r0 : VS.dens shR.vs} {f : VS.dens (.mp :: vs) → Option (VS.dens vs ⊕ VS.dens shR.vs)} (hok : EnvOk P e) (hH : ∀ g h, H g = some h → Con P e g h) (hf : Fit P e H T np n ks vs al shR ti tn tc te tk tv k1 v1 n0 n1 e0 e1 e2 e3 e4 B g r0)
  (h0 : OpIs o0 (.move (.tmp tm)) t1) (h1 : OpIs o1 (.range M (.tmp t1)) ti) (hM : ∃ K V, P.underlying M = some (.map K V)) (ht1 : np ≤ t1 ∧ t1 < n) (hj1 : ∀ y, (mkSt n ⟨ks, vs, al⟩ y).get t1 = AV.junk)
  (hF : ∀ m y z, f (m, y) = some z → (∀ p, p ∈ m → ∀ r, g r p.1 p.2 y ≠ none) ∧ ((z = .inl y ∧ ∀ p, p ∈ m → ∀ r, g r p.1 p.2 y = some (.inl (y, r))) ∨ (z = .inr r0 ∧ ∃ p, p ∈ m ∧ ∀ r, g r p.1 p.2 y = some (.inr r0)))) :
  PcOk P e np n ⟨key, ⟨tm :: ks, .mp :: vs, al⟩, [(.normal, ⟨ks, vs, al⟩), (.ret, shR)], f⟩ (rangeCode i0 i1 i2 b1 b2 tc o0 o1 n0 n1 e0 e1 e2 e3 e4 B) := by
 intro Γ C s a w Q x z hnp h hn hx hz hQ
 subst hnp
 obtain ⟨m, y⟩ := x
 obtain ⟨K, V, hM⟩ := hM
 obtain ⟨hsome, hcase⟩ := hF m y z hz
 -- the map and the rest
 unfold exSt at hx
 split at hx
 case h_2 => cases hx
 rename_i as hg
 split at hx
 case h_2 => cases hx
 rename_i xx fs os he
 cases hs : sep fs os with
 | false => rw [hs] at hx; cases hx
 | true =>
 rw [hs, Bool.true_and] at hx
 cases hal : (al.all fun p => drvChk s (s.get p.1) p.2) with
 | false =>
  have hx' : (bif (al.all fun p => drvChk s (s.get p.1) p.2) then some xx else none) = some (m, y) := hx
  rw [hal] at hx'
  cases hx'
 | true =>
 have hx' : (bif (al.all fun p => drvChk s (s.get p.1) p.2) then some xx else none) = some (m, y) := hx
 rw [hal] at hx'
 cases hx'
 obtain ⟨hnd, hdis⟩ := sep_of hs
 obtain ⟨g1, g2, g3⟩ := exVs_sem h.mem he (getAll_rel h hg)
 have hVS := g3 (C.frz fs).Fz fun _ hk => hk
 have hbn := blks_nodup h.mem hnd g2
 have hap := blks_apart h.mem g2 g1 hdis
 have hbl : ∀ k, k ∈ blks C os → k < w.heap.size := fun k hk => by
  obtain ⟨o, ho, hv⟩ := mem_blks.1 hk
  obtain ⟨b, hb, hl⟩ := g2 o ho
  exact (h.mem.blk o b hb).lt hl hv
 obtain ⟨u, us, q1, q2, hus, hbs, hmp, hrest⟩ := hVS
 obtain ⟨bm, ents, ck, rfl, rfl, hh, hmr, hbo⟩ := hmp
 have hus' : a.tmps.getD tm undef = .map (some bm) ∧ us = ks.map fun k => a.tmps.getD k undef := by
  have : (a.tmps.getD tm undef) :: (ks.map fun k => a.tmps.getD k undef) = .map (some bm) :: us := hus
  exact ⟨(List.cons.inj this).1, (List.cons.inj this).2.symm⟩
 obtain ⟨hum, hur⟩ := hus'
 have hin : ∀ k, k ∈ q2 → k ∈ blks C os := fun k hk => by rw [hbs]; exact List.mem_append.2 (.inr hk)
 have hbmin : bm ∈ blks C os := by rw [hbs]; exact List.mem_append.2 (.inl List.mem_cons_self)
 rw [hbs] at hbn
 obtain ⟨_, hnd2, hdj⟩ := List.nodup_append.1 hbn
 have hbm2 : bm ∉ q2 := fun hk => hdj bm List.mem_cons_self bm hk rfl
 have hWF : RelW e Γ (C.frz fs) w := (h.frz g1).W
 have hlb : bm < w.heap.size := hbl bm hbmin
 -- the iterator's block
 have hDr : Γ.D w.heap.size := hWF.fresh _ hWF.ch.size
 have hrb : w.heap.size ≠ bm := by omega
 let w1 := w.alloc (.mapIter (some bm) ck #[] ck)
 have hch1 : Ch w w1 (fun _ => False) := Ch.alloc w _
 have hw1s : w1.heap.size = w.heap.size + 1 := by show (w.heap.push _).size = _; rw [Array.size_push]
 have hw1r : w1.heap[w.heap.size]? = some (.mapIter (some bm) ck #[] ck) := heap_alloc_new w _
 have hw1b : w1.heap[bm]? = some (.map ents ck) := by rw [hch1.block bm hlb (fun hh => hh)]; exact hh
 -- the state of the rest
 let Γ0 : Actv := ⟨w, fun k => Γ.D k ∧ k ≠ bm, (C.frz fs).Fz, Γ.np, Γ.args⟩
 obtain ⟨C1, hR, hlen⟩ := mkSt_rel (e := e) (Γ := Γ0) (sh := ⟨ks, vs, al⟩) (x := y) (n := n) (C.frz fs).Fz h.defers (hn ▸ h.len) h.par hur hrest (fun p hp => drvChk_rel h (List.all_eq_true.1 hal p hp)) hnd2
  (fun k hk => ⟨(hap k (hin k hk)).1, (hap k (hin k hk)).2, fun hh => hbm2 (hh ▸ hk)⟩)
  (fun C' hC => ⟨Ch.refl _ _, fun k hk => ⟨hWF.fresh k (Nat.le_trans hWF.ch.size hk), by have hk' : w.heap.size ≤ k := hk; omega⟩, fun k hk => .inl (show (C.frz fs).Fz k from hC ▸ hk), fun k hk => hC.symm ▸ hk, fun k hk => hWF.lt k (hC ▸ hk), by rw [hC]; exact hWF.glob⟩)
 have hC1 : ∀ k, C1.Fz k → (C.frz fs).Fz k ∨ (Γ.D k ∧ k ≠ bm) := hR.W.fz
 have hnb : ¬ C1.Fz bm := fun hh => (hC1 bm hh).elim (hap bm hbmin).1 (fun hh => hh.2 rfl)
 have hnr : ¬ C1.Fz w.heap.size := fun hh => Nat.lt_irrefl _ (hR.W.lt _ hh)
 have hFno : ∀ k, C1.Fz k → ¬ False := fun _ _ hh => hh
 have hlive : ∀ j c, mget (mkSt n ⟨ks, vs, al⟩ y).mem j = some c → live c = true → ∀ k, k ∈ C1.fp j → ¬ False ∧ ¬ C1.Fz k := fun j c hj hl k hk => ⟨fun hh => hh, ((hR.mem.blk j c hj).nf hl hk).1⟩
 have hmem1 : RelM (fun k => Γ.D k ∧ k ≠ bm ∧ k ≠ w.heap.size) C1 w1 (mkSt n ⟨ks, vs, al⟩ y).mem := by
  refine RelM.more (hR.mem.world hch1 hFno rfl rfl rfl rfl (fun _ hk => hk) hlive) fun j c hj hl k hk => ?_
  have hb := hR.mem.blk j c hj
  obtain ⟨_, hd1, hd2⟩ := hb.nf hl hk
  have := hb.lt hl hk
  exact ⟨hd1, hd2, by omega⟩
 have hW1 : RelW e Γ C1 w := by
  refine ⟨hWF.ch, hWF.fresh, fun k hk => ?_, fun k hk => hR.W.fz0 k (hWF.fz0 k hk), hR.W.lt, hR.W.glob⟩
  rcases hC1 k hk with hh | hh
  ·exact hWF.fz k hh
  ·exact .inr hh.1
 have hJ : J e Γ bm w.heap.size (mkSt n ⟨ks, vs, al⟩ y) C1 a w1 := by
  refine ⟨⟨hR.defers, hR.len, fun k x v hx hv => ARel.move (CLe.refl C1) (fun k hk hlt => hch1.block k hlt (fun hh => hh)) (hR.slots k x v hx hv), hR.par, hmem1, ⟨Ch.refl _ _, fun k hk => ?_, fun k hk => .inl hk, fun k hk => hk, fun k hk => Nat.lt_of_lt_of_le (hR.W.lt k hk) hch1.size, hR.W.glob.move (fun _ hk => hk) fun k _ hlt => hch1.block k hlt (fun hh => hh)⟩⟩,
   hW1.step (CLe.refl C1) hch1 (fun _ _ hh => hh.elim) (fun _ _ hh => hh) (fun k hk => .inl hk), hnr, hnb, by omega, Nat.lt_of_lt_of_le hlb hch1.size⟩
  have hk' : w1.heap.size ≤ k := hk
  exact ⟨hWF.fresh k (Nat.le_trans hWF.ch.size (by omega)), by omega, by omega⟩
 -- the code
 have hsz : a.tmps.size = n := by rw [← h.len, hn]
 show (Code.seq (.region i0 #[o0, o1] false) _).wp P Q a w
 refine wp_seq (wp_region ?_)
 show wpOps P #[o0, o1] _ [0, 1] a w
 rw [wpOps_cons]
 have hevm : a.eval (.tmp tm) = .map (some bm) := hum
 refine wpOp_val (o := o0) (v := .map (some bm)) (w' := w) rfl h0.guard h0.dst (by unfold execOp; rw [h0.op]; simp [hevm]) ?_
 have hev1 : (a.put (some t1) (.map (some bm))).eval (.tmp t1) = .map (some bm) := Act.put_get (by rw [hsz]; exact ht1.2)
 rw [wpOps_cons]
 refine wpOp_val (o := o1) (v := .pointer (some ⟨w.heap.size, 0, none⟩)) (w' := w1) rfl h1.guard h1.dst (by unfold execOp; rw [h1.op]; simp [hev1, run_range hM hh]; rfl) ?_
 have hJ1 := (hJ.actPut (v := .map (some bm)) (hj1 y) ht1.1).actPut (d := ti) (v := .pointer (some ⟨w.heap.size, 0, none⟩)) (hf.jk y ti (by simp)) (hf.lt ti (by simp)).1
 have hti : ((a.put (some t1) (.map (some bm))).put (some ti) (.pointer (some ⟨w.heap.size, 0, none⟩))).tmps.getD ti undef = .pointer (some ⟨w.heap.size, 0, none⟩) := Act.put_get (by rw [Act.put_size, hsz]; exact (hf.lt ti (by simp)).2)
 show (Code.block _ _).wp P Q _ w1
 refine wp_block (wp_loop_rounds ((leftOf ents #[]).size + 1) ?_)
 have hentry : ∀ x, x ∈ ents.toList → ∃ p, p ∈ m ∧ x.key = .int .i64 p.1 ∧ x.val = .int .i64 p.2 := fun x hx => by
  obtain ⟨i, hi⟩ := List.mem_iff_getElem?.1 hx
  obtain ⟨p, hp, hk, hv⟩ := All2.get_right hmr i x hi
  exact ⟨p, List.mem_of_getElem? hp, hk, hv⟩
 have hentry2 : ∀ p, p ∈ m → ∃ x, x ∈ ents.toList ∧ x.key = .int .i64 p.1 ∧ x.val = .int .i64 p.2 := fun p hp => by
  obtain ⟨i, hi⟩ := List.mem_iff_getElem?.1 hp
  obtain ⟨x, hx, hk, hv⟩ := hmr.get_left i p hi
  exact ⟨x, List.mem_of_getElem? hx, hk, hv⟩
 refine range_rounds (b1 := b1) hok hH hf hlen hbo hrb hDr (fun x hx => ?_) (fun hall C a w hR => ?_) (fun hex C a w hR hl => ?_) _ #[] ck C1 _ w1 (Nat.lt_succ_self _) hJ1 hti hw1r hw1b (Nat.le_refl _) (fun x _ hs => by simp at hs)
 ·obtain ⟨p, hp, hk, hv⟩ := hentry x hx
  exact ⟨p.1, p.2, hk, hv, fun r => hsome p hp r⟩
 · -- all were gone through
  rcases hcase with ⟨rfl, _⟩ | ⟨rfl, p, hp, hbad⟩
  ·have hQ1 : ∀ C a w, RelC e Γ C (mkSt n ⟨ks, vs, al⟩ y) a w → (mkSt n ⟨ks, vs, al⟩ y).slots.length = n → Q (exOf .normal) a w := hQ
   show if b1 = b1 then _ else _
   rw [if_pos rfl]
   exact hQ1 C a w hR hlen
  ·obtain ⟨x, hx, hk, hv⟩ := hentry2 p hp
   obtain ⟨k2, v2, hk2, hv2, hg2⟩ := hall x hx
   rw [hk] at hk2
   rw [hv] at hv2
   cases hk2
   cases hv2
   have := hbad 0
   rw [hg2 0] at this
   cases this
 ·rcases hcase with ⟨rfl, hgood⟩ | ⟨rfl, _⟩
  ·obtain ⟨x, hx, hnot⟩ := hex
   obtain ⟨p, hp, hk, hv⟩ := hentry x hx
   exact absurd ⟨p.1, p.2, hk, hv, fun r => hgood p hp r⟩ hnot
  ·have hQ2 : ∀ C a w, RelC e Γ C (mkSt n shR r0) a w → (mkSt n shR r0).slots.length = n → Q (exOf .ret) a w := hQ
   exact hQ2 C a w hR hl
end
end Go.Ev
