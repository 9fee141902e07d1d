/-
  The abstract evaluator: new rows, appends, rows made shorter.
-/
import Derived.Test.YtgpjfmjceamonaaDoorEv7
import Derived.Laws.AppendOwnNone
import Derived.Maps.AppendAt
namespace Go.Ev
variable {P : Program} {e : Env} {Γ : Actv} {C : Ctx} {s : St} {a : Act} {w : World}

/-- A new row. -/
theorem post_row {i E n : Nat} {t : Ty} {xs : List t.den} {arr : Array Value} (h : RelC e Γ C s a w) (hi : fresh s.mem i 1 = true) (hn : xs.length = n) (hs : arr.size = n * t.sz) (hm : n ≤ maxLen)
    (hr : RowC C.Fz w t xs arr.toList) :
    Post e Γ C w (.v (.one (.own i)), mput s.mem i (.row E t xs)) (.slice (some ⟨w.heap.size, 0, none⟩) n n) (w.alloc (.cells arr E)) (C.add i (.slice (some ⟨w.heap.size, 0, none⟩) n n)) := by
  subst hn
  refine post_new h hi (fun g hg => by simpa [vblk] using hg.symm) rfl ?_ ⟨.inr rfl, (Ctx.add_σ _ _ _).symm⟩
  refine ⟨arr.toList, ?_, hr.move (fun _ hh => hh) (fun k hf hk => heap_alloc_old w _ k hk), fun g hg => ?_⟩
  · rw [Ctx.add_σ]
    exact World.ownsRow_lit w arr _ (Nat.zero_le _) hm hs
  · rw [Ctx.add_σ] at hg
    have : w.heap.size = g := by simpa [vblk] using hg
    subst this
    exact ⟨(size_D h).2, (size_D h).1⟩

/-! ### Literals -/
theorem fold_set (off : Nat) : ∀ (vs : List Value) (k : Nat) (cells : Array Value), off + k + vs.length ≤ cells.size →
    ((vs.zipIdx k).foldl (fun (cs : Array Value) (x : Value × Nat) => cs.setIfInBounds (off + x.2) x.1) cells).toList = cells.toList.take (off + k) ++ vs ++ cells.toList.drop (off + k + vs.length)
  | [], k, cells, _ => by simp
  | v :: vs, k, cells, h => by
    simp only [List.length_cons] at h
    rw [List.zipIdx_cons, List.foldl_cons, fold_set off vs (k + 1) _ (by rw [Array.size_setIfInBounds]; omega)]
    have hl : off + k < cells.toList.length := by rw [Array.length_toList]; omega
    simp only [Array.toList_setIfInBounds, List.length_cons]
    have h1 : (cells.toList.set (off + k) v).take (off + (k + 1)) = cells.toList.take (off + k) ++ [v] := by
      rw [List.take_set, show off + (k + 1) = off + k + 1 by omega, List.take_add_one, List.getElem?_eq_getElem hl]
      simp only [Option.toList_some]
      rw [List.set_append_right _ _ (by rw [List.length_take]; omega)]
      have : (cells.toList.take (off + k)).length = off + k := by rw [List.length_take]; omega
      rw [this, Nat.sub_self]
      rfl
    have h2 : (cells.toList.set (off + k) v).drop (off + (k + 1) + vs.length) = cells.toList.drop (off + k + (vs.length + 1)) := by
      rw [List.drop_set, if_pos (by omega)]
      congr 1
      omega
    rw [h1, h2, List.append_assoc, List.append_assoc, List.append_assoc]
    rfl

theorem fold_cells (off : Nat) (v : Value) (cells : Array Value) (h : off + v.cells.size ≤ cells.size) :
    (v.cells.zipIdx.foldl (fun (cs : Array Value) (x : Value × Nat) => cs.setIfInBounds (off + x.2) x.1) cells).toList = cells.toList.take off ++ v.cells.toList ++ cells.toList.drop (off + v.cells.size) := by
  rw [← Array.foldl_toList, Array.toList_zipIdx]
  have := fold_set off v.cells.toList 0 cells (by simpa using h)
  simpa using this

/-- A slice literal's cells: one value behind the other. -/
theorem fill_seq (sz : Nat) : ∀ (l : List Value) (k : Nat) (cells : Array Value), (∀ v ∈ l, v.cells.size = sz) → (k + l.length) * sz ≤ cells.size →
    ∃ out, Instr.fill (fun i => some (i * sz, sz)) cells ((l.zipIdx k).map fun x => (x.2, x.1)) = some out ∧ out.size = cells.size ∧ out.toList = cells.toList.take (k * sz) ++ l.flatMap (fun v => v.cells.toList) ++ cells.toList.drop ((k + l.length) * sz)
  | [], k, cells, _, _ => ⟨cells, rfl, rfl, by simp⟩
  | v :: l, k, cells, h, hs => by
    have hv := h v List.mem_cons_self
    simp only [List.length_cons] at hs
    have e1 : (k + (l.length + 1)) * sz = k * sz + sz + l.length * sz := by rw [Nat.add_mul, Nat.succ_mul]; omega
    have hfit : k * sz + v.cells.size ≤ cells.size := by omega
    have hc := fold_cells (k * sz) v cells hfit
    have hsz : (v.cells.zipIdx.foldl (fun (cs : Array Value) (x : Value × Nat) => cs.setIfInBounds (k * sz + x.2) x.1) cells).size = cells.size := by
      rw [← Array.length_toList, hc]
      simp only [List.length_append, List.length_take, List.length_drop, Array.length_toList]
      omega
    obtain ⟨out, ho, hos, hol⟩ := fill_seq sz l (k + 1) _ (fun u hu => h u (List.mem_cons_of_mem _ hu)) (by rw [hsz]; rw [show k + 1 + l.length = k + (l.length + 1) by omega]; exact hs)
    refine ⟨out, ?_, hos.trans hsz, ?_⟩
    · rw [List.zipIdx_cons, List.map_cons, Instr.fill]
      simp only [hv, ne_eq, not_true_eq_false, decide_false, Bool.false_or, decide_eq_true_eq]
      rw [if_neg (by omega)]
      exact ho
    · rw [hol, hc, List.flatMap_cons]
      have hl : (cells.toList.take (k * sz)).length = k * sz := by rw [List.length_take, Array.length_toList]; omega
      have hvl : v.cells.toList.length = sz := by rw [Array.length_toList, hv]
      have t1 : (cells.toList.take (k * sz) ++ v.cells.toList ++ cells.toList.drop (k * sz + v.cells.size)).take ((k + 1) * sz) = cells.toList.take (k * sz) ++ v.cells.toList := by
        rw [List.take_append_of_le_length (by rw [List.length_append, hl, hvl, Nat.succ_mul]; exact Nat.le_refl _)]
        exact List.take_of_length_le (by rw [List.length_append, hl, hvl, Nat.succ_mul]; exact Nat.le_refl _)
      have t2 : (cells.toList.take (k * sz) ++ v.cells.toList ++ cells.toList.drop (k * sz + v.cells.size)).drop ((k + 1 + l.length) * sz) = cells.toList.drop ((k + (l.length + 1)) * sz) := by
        have e2 : (k + 1 + l.length) * sz = (k * sz + sz) + l.length * sz := by rw [Nat.add_mul, Nat.succ_mul]
        rw [List.drop_append, List.drop_of_length_le (by rw [List.length_append, hl, hvl, e2]; omega), List.nil_append, List.drop_drop, List.length_append, hl, hvl]
        congr 1
        omega
      rw [t1, t2]
      simp only [List.append_assoc, List.length_cons]

/-- A row's elements as values: their cells behind one another. -/
theorem packAll_rel {D : Nat → Prop} {m : Mem} (hm : RelM D C w m) {t : Ty} : ∀ {l : List Vl} {xs : List t.den} {os : List Nat} {vs : List Value}, packAll m t l = some (xs, os) → All2 (VRel C w) l vs →
    xs.length = l.length ∧ (∀ v ∈ vs, v.cells.size = t.sz) ∧ Rows C m os ∧ RowC (C.frz os).Fz w t xs (vs.flatMap fun v => v.cells.toList)
  | [], xs, os, [], h, _ => by
    cases h
    exact ⟨rfl, fun _ hh => by (cases hh), fun _ hh => by (cases hh), fun i x hi => by simp at hi⟩
  | x :: l, xs, os, v :: vs, h, hc => by
    unfold packAll at h
    split at h
    · rename_i y os1 hq
      split at h
      · rename_i ys os2 hq2
        cases h
        obtain ⟨q1, q2, q3, q4⟩ := packAll_rel hm hq2 hc.2
        -- the first one
        unfold packV at hq
        have hcells : ∃ us, v.cells.toList = us ∧ KF (C.frz os1).Fz w t y us ∧ Rows C m os1 := by
          cases hb : packV.Bool.beq' t.isSt x.isAgg with
          | false => rw [hb] at hq; cases hq
          | true =>
            rw [hb] at hq
            simp only [cond_true] at hq
            split at hq
            · rename_i y' os' hp
              cases hq
              have hall : All2 (CRel C w) x.cells v.cells.toList := by
                cases x with
                | agg cs =>
                  obtain ⟨arr, rfl, h2⟩ := (hc.1 : VRel C w (.agg cs) v)
                  exact h2
                | one c =>
                  have h2 : CRel C w c v := hc.1
                  have hj : noJunk [c] = true := by
                    cases c <;> first | rfl | skip
                    exfalso
                    have : ∀ (t : Ty), t.pack m [CV.junk] = none := by
                      intro t
                      induction t with
                      | st t ih => exact ih
                      | pair a b iha ihb =>
                        show (match a.pack m [CV.junk] with
                          | some (x, r, os) => match b.pack m r with
                            | some (y, r', os') => some ((x, y), r', os ++ os')
                            | none => none
                          | none => none) = none
                        rw [iha]
                      | _ => rfl
                    rw [show (Vl.one CV.junk).cells = [CV.junk] from rfl, this] at hp
                    cases hp
                  have h1 := h2.one hj hm.one
                  rw [cells_of_one h1]
                  exact ⟨h2, trivial⟩
              obtain ⟨v1, v2, e1, hk, hr2, hrw⟩ := pack_rel hm hp hall
              have hv2 : v2 = [] := by cases v2 with
                | nil => rfl
                | cons _ _ => exact hr2.elim
              subst hv2
              rw [List.append_nil] at e1
              exact ⟨v1, e1, hk, hrw⟩
            · cases hq
        obtain ⟨us, hus, hk, hrw⟩ := hcells
        have hul : v.cells.size = t.sz := by rw [← Array.length_toList, hus]; exact hk.len
        refine ⟨by simp [q1], fun u hu => ?_, hrw.append q3, fun i z hi => ?_⟩
        · rcases List.mem_cons.1 hu with rfl | hu
          · exact hul
          · exact q2 u hu
        · rw [List.flatMap_cons]
          cases i with
          | zero =>
            simp at hi
            subst hi
            refine ⟨us, KF.move frz_left (fun _ _ _ => rfl) hk, fun j u hj => ?_⟩
            rw [Nat.zero_mul, Nat.zero_add, hus, List.getElem?_append_left (List.getElem?_eq_some_iff.1 hj).1]
            exact hj
          | succ i =>
            obtain ⟨es, hk2, hce⟩ := q4 i z (by simpa using hi)
            refine ⟨es, KF.move frz_right (fun _ _ _ => rfl) hk2, fun j u hj => ?_⟩
            have hvl : v.cells.toList.length = t.sz := by rw [Array.length_toList]; exact hul
            rw [List.getElem?_append_right (by rw [hvl, Nat.succ_mul]; omega), hvl, show (i + 1) * t.sz + j - t.sz = i * t.sz + j by rw [Nat.succ_mul]; omega]
            exact hce j u hj
      · cases h
    · cases h

/-! ### Appends -/
/-- The cells that a row of frozen data leads to. -/
theorem KF_news {Fz : Nat → Prop} {t : Ty} {ad : Addr} : ∀ (ys : List t.den) (k : Nat), (∀ (i : Nat) (x : t.den), ys[i]? = some x → ∃ es, KF Fz w t x es ∧ ∀ (j : Nat) (u : Value), es[j]? = some u → w.cell? (ad.add ((k + i) * t.sz + j)) = some u) →
    ∃ news : List Value, news.length = ys.length * t.sz ∧ (∀ (j : Nat) (u : Value), news[j]? = some u → w.cell? (ad.add (k * t.sz + j)) = some u) ∧ (∀ u ∈ news, u.oneCell' = true) ∧ RowC Fz w t ys news
  | [], k, _ => ⟨[], by simp, fun j u hj => (by simp at hj), fun u hu => (by cases hu), fun i x hi => (by simp at hi)⟩
  | y :: ys, k, h => by
    obtain ⟨es, hk, hc⟩ := h 0 y rfl
    obtain ⟨news, n1, n2, n3, n4⟩ := KF_news ys (k + 1) (fun i x hi => by
      obtain ⟨es', h1, h2⟩ := h (i + 1) x (by simpa using hi)
      exact ⟨es', h1, fun j u hj => by rw [show k + 1 + i = k + (i + 1) by omega]; exact h2 j u hj⟩)
    have hl := hk.len
    refine ⟨es ++ news, by rw [List.length_append, hl, n1, List.length_cons, Nat.succ_mul]; omega, fun j u hj => ?_, fun u hu => ?_, fun i x hi => ?_⟩
    · by_cases hjl : j < es.length
      · rw [List.getElem?_append_left hjl] at hj
        have := hc j u hj
        rwa [Nat.add_zero] at this
      · rw [List.getElem?_append_right (by omega)] at hj
        have := n2 (j - es.length) u hj
        rwa [Nat.succ_mul, show k * t.sz + t.sz + (j - es.length) = k * t.sz + j by omega] at this
    · rcases List.mem_append.1 hu with hu | hu
      · exact hk.one u hu
      · exact n3 u hu
    · cases i with
      | zero =>
        simp at hi
        subst hi
        exact ⟨es, hk, fun j u hj => by
          rw [Nat.zero_mul, Nat.zero_add, List.getElem?_append_left (List.getElem?_eq_some_iff.1 hj).1]
          exact hj⟩
      | succ i =>
        obtain ⟨es', h1, h2⟩ := n4 i x (by simpa using hi)
        exact ⟨es', h1, fun j u hj => by
          rw [List.getElem?_append_right (by rw [hl, Nat.succ_mul]; omega), hl, show (i + 1) * t.sz + j - t.sz = i * t.sz + j by rw [Nat.succ_mul]; omega]
          exact h2 j u hj⟩

theorem RowC.append {Fz : Nat → Prop} {t : Ty} {xs ys : List t.den} {c1 c2 : List Value} (h1 : RowC Fz w t xs c1) (h2 : RowC Fz w t ys c2) (hl : c1.length = xs.length * t.sz) : RowC Fz w t (xs ++ ys) (c1 ++ c2) := fun i x hi => by
  by_cases hlt : i < xs.length
  · rw [List.getElem?_append_left hlt] at hi
    obtain ⟨es, hk, hc⟩ := h1 i x hi
    exact ⟨es, hk, fun j u hj => by
      have := hc j u hj
      rw [List.getElem?_append_left (List.getElem?_eq_some_iff.1 this).1]
      exact this⟩
  · rw [List.getElem?_append_right (by omega)] at hi
    obtain ⟨es, hk, hc⟩ := h2 _ x hi
    refine ⟨es, hk, fun j u hj => ?_⟩
    have hm : xs.length * t.sz ≤ i * t.sz := Nat.mul_le_mul_right _ (by omega)
    have hs : (i - xs.length) * t.sz = i * t.sz - xs.length * t.sz := Nat.sub_mul _ _ _
    rw [List.getElem?_append_right (by rw [hl]; omega), hl, show i * t.sz + j - xs.length * t.sz = (i - xs.length) * t.sz + j by omega]
    exact hc j u hj

theorem exOwn_rel {D : Nat → Prop} {m : Mem} {E : Nat} {t : Ty} {c : CV} {v : Value} {xs : List t.den} {os : List Nat} (_hm : RelM D C w m) (h : exCells.exOwn m E t c = some (xs, os)) (hc : CRel C w c v) :
    (c = .nil ∧ xs = [] ∧ os = [] ∧ v = .slice none 0 0) ∨ (∃ o, c = .own o ∧ os = [o] ∧ mget m o = some (.row E t xs) ∧ C.Dm o ∧ v = C.σ o) := by
  unfold exCells.exOwn at h
  split at h
  · cases h
    exact .inl ⟨rfl, rfl, rfl, hc⟩
  · rename_i o
    split at h
    · rename_i E' t' ys hg
      cases hq : Nat.beq E' E with
      | false => rw [hq] at h; cases h
      | true =>
        rw [hq] at h
        have := Nat.eq_of_beq_eq_true hq
        subst this
        simp only [cond_true] at h
        split at h
        · rename_i zs hcast
          cases h
          obtain ⟨he, rfl⟩ := castL_eq hcast
          subst he
          exact .inr ⟨o, rfl, rfl, hg, hc.1, hc.2⟩
        · cases h
    · cases h
  · cases h

theorem oneCell_KF {Fz : Nat → Prop} {t : Ty} {x : t.den} {v : Value} (h : KF Fz w t x [v]) : v.oneCell' = true := h.one v List.mem_cons_self

/-- A block of the call's own goes; another takes its place in the table (the same row, or a new one). -/
theorem post_moved {i E : Nat} {t : Ty} {zs : List t.den} {os : List Nat} {v' : Value} {w' : World} {cells : List Value} {row : Option Nat} (h : RelC e Γ C s a w) (hi : fresh s.mem i 1 = true)
    (hos : os = [] ∧ row = none ∨ ∃ o E0 t0 xs0, os = [o] ∧ mget s.mem o = some (.row E0 t0 xs0) ∧ row = vblk (C.σ o))
    (hg : w.grownBy w' row) (hown : w'.ownsRow 0 E t.sz v' zs.length cells) (hblk : ∀ g, vblk v' = some g → some g = row ∨ w.heap.size ≤ g)
    (hr : RowC C.Fz w t zs cells) : Post e Γ C w (.v (.one (.own i)), mput (kill s.mem os) i (.row E t zs)) v' w' (C.add i v') := by
  have hni : ¬ C.Dm i := fun hd => by
    have := (h.mem.dm i).1 hd
    rw [fresh_one hi] at this
    cases this
  have hle : CLe C (C.add i v') := Ctx.add_le hni
  have hrow : ∀ g, row = some g → ¬ C.Fz g ∧ Γ.D g ∧ g < w.heap.size := fun g hgg => by
    rcases hos with ⟨_, h2⟩ | ⟨o, E0, t0, xs0, _, hm, h2⟩
    · rw [h2] at hgg; cases hgg
    · rw [h2] at hgg
      have hb := h.mem.blk o _ hm
      exact ⟨(hb.nf rfl hgg).1, (hb.nf rfl hgg).2, hb.lt rfl hgg⟩
  have hch : Ch w w' (fun k => row = some k) := ⟨hg.os, hg.tape, hg.output, hg.size, fun k hk hx => hg.block k hk (fun hh => hx hh.symm)⟩
  have hFX : ∀ k, C.Fz k → ¬ (row = some k) := fun k hf hh => (hrow k hh).1 hf
  have hkeep : ∀ k, C.Fz k → k < w.heap.size → w'.heap[k]? = w.heap[k]? := fun k hf hk => hch.block k hk (hFX k hf)
  have hkill : RelM Γ.D C w (kill s.mem os) ∧ (∀ j b, mget (kill s.mem os) j = some b → live b = true → mget s.mem j = some b ∧ ∀ g, vblk (C.σ j) = some g → row ≠ some g) := by
    rcases hos with ⟨rfl, h2⟩ | ⟨o, E0, t0, xs0, rfl, hm, h2⟩
    · exact ⟨h.mem, fun j b hj _ => ⟨hj, fun g _ hh => by rw [h2] at hh; cases hh⟩⟩
    · have hd : C.Dm o := (h.mem.dm o).2 (by rw [hm]; rfl)
      refine ⟨RelM.put (X := fun _ => False) h.mem (CLe.refl C) (Ch.refl w _) (fun _ _ hh => hh) (fun j c hj hl hji g hgg => ⟨fun hh => hh, (h.mem.blk j c hj).nf hl hgg |>.1⟩) trivial (fun hh => by cases hh)
        (fun k => ⟨fun hh => .inl hh, fun hh => hh.elim id (fun hh => hh ▸ hd)⟩) (h.mem.one o hd), fun j b hj hl => ?_⟩
      have hj' : mget (mput s.mem o .dead) j = some b := hj
      rw [mget_mput] at hj'
      by_cases hjo : j = o
      · rw [if_pos hjo] at hj'
        cases hj'
        cases hl
      · rw [if_neg hjo] at hj'
        refine ⟨hj', fun g hgg hh => ?_⟩
        rw [h2] at hh
        exact h.mem.inj j o b _ hj' hm hl rfl hjo g hgg hh
  refine ⟨hle, hkeep, ?_, ⟨.inr rfl, (Ctx.add_σ _ _ _).symm⟩, ?_⟩
  · refine RelM.put hkill.1 hle hch hFX (fun j b hj hl hji g hgg => ⟨(hkill.2 j b hj hl).2 g hgg, (hkill.1.blk j b hj).nf hl hgg |>.1⟩) ?_ (fun _ j b hj hl hji g hgg hh => ?_) (fun _ => Iff.rfl) ?_
    · refine ⟨cells, by rw [Ctx.add_σ]; exact hown, hr.move (fun _ hh => hh) hkeep, fun g hgg => ?_⟩
      rw [Ctx.add_σ] at hgg
      rcases hblk g hgg with hh | hh
      · have := hrow g hh.symm
        exact ⟨this.1, this.2.1⟩
      · exact ⟨fun hf => Nat.lt_irrefl _ (Nat.lt_of_lt_of_le (h.W.lt g hf) hh), h.W.fresh g (Nat.le_trans h.W.ch.size hh)⟩
    · rw [Ctx.add_σ] at hgg
      rcases hblk g hgg with hh2 | hh2
      · exact (hkill.2 j b hj hl).2 g hh hh2.symm
      · exact Nat.lt_irrefl _ (Nat.lt_of_lt_of_le ((hkill.1.blk j b hj).lt hl hh) hh2)
    · rw [Ctx.add_σ]
      rcases hown.2 with ⟨rfl, _⟩ | ⟨g, cap, cur, rfl, _⟩ <;> rfl
  · exact h.W.step hle hch (fun k _ hh => (hrow k hh).2.1) hFX (fun k hk => .inl hk)

theorem append_rel (hok : EnvOk P e) (h : RelC e Γ C s a w) {T E i ty : Nat} {inf : TI} (hT : look e.els T = some E) (hE : look e.tys E = some inf) {ca cb : CV} {va vb : Value} {xs ys : List inf.t.den} {os os' : List Nat}
    (hx : exCells.exOwn s.mem E inf.t ca = some (xs, os)) (hy : rowOf s.mem inf.t cb = some (ys, os')) (ha : CRel C w ca va) (hb : CRel C w cb vb) (hi : fresh s.mem i 1 = true)
    (hlim : xs.length + ys.length ≤ 140737488355328 / inf.bytes) :
    ∃ v w' C', (Builtin.append_ #[T, T] ty #[va, vb]).run P w = .ok v w' ∧ Post e Γ C w (.v (.one (.own i)), mput (kill s.mem os) i (.row E inf.t (xs ++ ys))) v w' C' := by
  obtain ⟨it, d, z, t1, t2, t3, t4, t5, t6, t7, t8⟩ := (hok.ty E inf hE).out
  have hu := hok.el T E hT
  have hsz : 0 < inf.t.sz := by
    have : ∀ t : Ty, 0 < t.sz := by
      intro t
      induction t with
      | st t ih => exact ih
      | pair a b iha ihb => show 0 < a.sz + b.sz; omega
      | _ => exact Nat.one_pos
    exact this _
  have hzs : z.cells.size = inf.t.sz := by rw [← Array.length_toList, t7, List.length_map, zcells_len]
  have hbytes : (xs.length + ys.length) * inf.bytes ≤ 140737488355328 := Nat.le_trans (Nat.mul_le_mul_right _ hlim) (Nat.div_mul_le_self _ _)
  have hle63 : xs.length + ys.length ≤ maxLen := by
    have : xs.length + ys.length ≤ (xs.length + ys.length) * inf.bytes := Nat.le_mul_of_pos_right _ t8
    unfold maxLen
    omega
  -- what is appended to
  have hA : ∃ cells row, w.ownsRow 0 E inf.t.sz va xs.length cells ∧ RowC C.Fz w inf.t xs cells ∧ va.ownBlock = row ∧ (os = [] ∧ row = none ∨ ∃ o E0 t0 xs0, os = [o] ∧ mget s.mem o = some (.row E0 t0 xs0) ∧ row = vblk (C.σ o)) := by
    rcases exOwn_rel h.mem hx ha with ⟨_, rfl, rfl, rfl⟩ | ⟨o, _, rfl, hm, hd, rfl⟩
    · exact ⟨[], none, World.ownsRow_nil w 0 E inf.t.sz, fun j x hj => by simp at hj, rfl, .inl ⟨rfl, rfl⟩⟩
    · obtain ⟨cells, ho, hr, hf⟩ := h.mem.blk o _ hm
      exact ⟨cells, _, ho, hr, rfl, .inr ⟨o, E, inf.t, xs, rfl, hm, (vblk_own ho).symm⟩⟩
  obtain ⟨cells, row, hown, hrc, hrow, hos⟩ := hA
  obtain ⟨⟨A, cp, hvb, hlc, hz, hel⟩, hrows⟩ := rowOf_rel h.mem hy hb
  simp only [List.cons.injEq, and_true] at hvb
  subst hvb
  have hcl : cells.length = xs.length * inf.t.sz := hown.1
  cases A with
  | none =>
    have hcp := hz rfl
    subst hcp
    have hy0 : ys = [] := List.length_eq_zero_iff.1 (Nat.le_zero.1 hlc)
    subst hy0
    have hrun := run_append_owned_none (P := P) (w := w) 0 T ty E it inf.t.sz hu t1 va xs.length cells hown
    refine ⟨va, w, C.add i va, hrun, ?_⟩
    rw [List.append_nil]
    exact post_moved h hi hos ⟨rfl, rfl, rfl, Nat.le_refl _, fun _ _ _ => rfl⟩ hown (fun g hg => .inl (by rw [← hrow, ← vblk_own hown, hg])) hrc
  | some ad =>
    have hnews : ∃ news : List Value, news.length = ys.length * inf.t.sz ∧ (∀ (j : Nat) (u : Value), news[j]? = some u → w.cell? (ad.add j) = some u) ∧ (∀ u ∈ news, u.oneCell' = true) ∧ RowC C.Fz w inf.t ys news := by
      -- the elements' own cells are frozen by what was frozen before
      have hel' : ∀ (i : Nat) (x : inf.t.den), ys[i]? = some x → ∃ es, KF C.Fz w inf.t x es ∧ ∀ (j : Nat) (u : Value), es[j]? = some u → w.cell? (ad.add ((0 + i) * inf.t.sz + j)) = some u := by
        unfold rowOf at hy
        split at hy
        · cases hy
          intro i x hi; simp at hi
        · split at hy
          · rename_i t' zs hq
            cases hy
            obtain ⟨he, rfl⟩ := castL_eq hq
            intro i x hi
            obtain ⟨ad', es, e1, _, hk, hc⟩ := hel i x hi
            cases e1
            rw [Nat.zero_add]
            exact ⟨es, hk, hc⟩
          · cases hy
        · rename_i o
          split at hy
          · rename_i E' t' zs hg
            split at hy
            · rename_i zs' hq
              cases hy
              obtain ⟨he, rfl⟩ := castL_eq hq
              subst he
              obtain ⟨cells', ho', hr', hf'⟩ := h.mem.blk o _ hg
              intro i x hi
              obtain ⟨es, hk, hc⟩ := hr' i x hi
              refine ⟨es, hk, fun j u hj => ?_⟩
              rcases ho'.2 with ⟨hv, hn⟩ | ⟨g, cap, cur, hv, _, hgg, hl, hm, hs, ht⟩
              · rw [hb.2.symm] at hv; cases hv
              · rw [← hb.2] at hv
                simp at hv
                rw [hv.1, add_lit, cell_own hgg, Nat.zero_add]
                have h1 := hc j u hj
                rw [← ht, List.getElem?_take] at h1
                split at h1
                · rw [← Array.getElem?_toList]
                  exact h1
                · cases h1
            · cases hy
          · rename_i t' zs hg
            split at hy
            · rename_i zs' hq
              cases hy
              obtain ⟨he, rfl⟩ := castL_eq hq
              intro i x hi
              obtain ⟨ad', es, e1, _, hk, hc⟩ := hel i x hi
              cases e1
              rw [Nat.zero_add]
              exact ⟨es, hk, hc⟩
            · cases hy
          · cases hy
        · cases hy
      obtain ⟨news, n1, n2, n3, n4⟩ := KF_news ys 0 hel'
      exact ⟨news, n1, fun j u hj => by have := n2 j u hj; rwa [Nat.zero_mul, Nat.zero_add] at this, n3, n4⟩
    obtain ⟨news, n1, n2, n3, n4⟩ := hnews
    obtain ⟨v', w', hrun, hown', hgr, _, hat⟩ := run_append_own_at (P := P) (w := w) 0 T ty E it z inf.t.sz inf.bytes hu t1 t6 t4 t5 hzs hsz va xs.length cells hown ad ys.length cp news n1 n2 n3 hle63 hbytes (Nat.zero_le _)
    rw [hrow] at hgr
    refine ⟨v', w', C.add i v', hrun, ?_⟩
    refine post_moved h hi hos hgr (by rw [List.length_append]; exact hown') (fun g hg => ?_) (hrc.append n4 hcl)
    rw [vblk_own hown'] at hg
    rcases hat with hh | hh
    · exact .inl (by rw [← hrow, ← hh, hg])
    · rw [hh] at hg
      cases hg
      exact .inr (Nat.le_refl _)

end Go.Ev
