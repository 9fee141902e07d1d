/-
  The abstract evaluator: shapes: what a shape's data is in the machine; how an abstract state's data is taken out and laid anew.
-/
import Derived.Test.YtgpjfmjceamonaaDoorEv10
namespace Go.Ev
variable {P : Program} {e : Env} {Γ : Actv} {C : Ctx} {s : St} {a : Act} {w : World}

/-! ### What a shape's data is in the machine -/
def OwnR (Fz : Nat → Prop) (w : World) (E : Nat) (t : Ty) (xs : List t.den) (u : Value) : Prop :=
  ∃ cells, w.ownsRow 0 E t.sz u xs.length cells ∧ RowC Fz w t xs cells

def CSsR (Fz : Nat → Prop) (w : World) : (cs : List CS) → CS.dens cs → List Value → List Nat → Prop
  | [], _, us, bs => us = [] ∧ bs = []
  | .sc t :: r, x, us, bs => ∃ u1 u2, us = u1 ++ u2 ∧ KF Fz w t x.1 u1 ∧ CSsR Fz w r x.2 u2 bs
  | .own E t :: r, x, us, bs => ∃ u u2 b2, us = u :: u2 ∧ bs = (vblk u).toList ++ b2 ∧ OwnR Fz w E t x.1 u ∧ CSsR Fz w r x.2 u2 b2

def MapR (es : List (Int × Int)) (ents : List MapEntry) : Prop := All2 (fun (p : Int × Int) (m : MapEntry) => m.key = .int .i64 p.1 ∧ m.val = .int .i64 p.2) es ents

def VSR (Fz : Nat → Prop) (w : World) : (v : VS) → v.den → Value → List Nat → Prop
  | .val t, x, u, bs => bs = [] ∧ ((t.isSt = true ∧ ∃ arr : Array Value, u = .agg arr ∧ KF Fz w t x arr.toList) ∨ (t.isSt = false ∧ KF Fz w t x [u]))
  | .own E t, x, u, bs => bs = (vblk u).toList ∧ OwnR Fz w E t x u
  | .eat E t, x, u, bs => bs = (vblk u).toList ∧ OwnR Fz w E t x u
  | .box T cs, x, u, bs => ∃ g arr b2, u = .pointer (some ⟨g, 0, none⟩) ∧ bs = g :: b2 ∧ w.heap[g]? = some (.cells arr T (0, 0)) ∧ CSsR Fz w cs x arr.toList b2
  | .mp, x, u, bs => ∃ g ents ck, u = .map (some g) ∧ bs = [g] ∧ w.heap[g]? = some (.map ents ck) ∧ (MapR x ents.toList ∧ Born ents.toList ck)
  | .rc cs, x, u, bs => ∃ arr : Array Value, u = .agg arr ∧ CSsR Fz w cs x arr.toList bs

def VSsR (Fz : Nat → Prop) (w : World) : (vs : List VS) → VS.dens vs → List Value → List Nat → Prop
  | [], _, us, bs => us = [] ∧ bs = []
  | v :: r, x, us, bs => ∃ u u2 b1 b2, us = u :: u2 ∧ bs = b1 ++ b2 ∧ VSR Fz w v x.1 u b1 ∧ VSsR Fz w r x.2 u2 b2

theorem OwnR.mono {Fz Fz' : Nat → Prop} {E : Nat} {t : Ty} {xs : List t.den} {u : Value} (hF : ∀ k, Fz k → Fz' k) (h : OwnR Fz w E t xs u) : OwnR Fz' w E t xs u := by
  obtain ⟨cells, h1, h2⟩ := h
  exact ⟨cells, h1, h2.move hF (fun _ _ _ => rfl)⟩

theorem OwnR.one {Fz : Nat → Prop} {E : Nat} {t : Ty} {xs : List t.den} {u : Value} (h : OwnR Fz w E t xs u) : u.oneCell' = true := by
  obtain ⟨cells, h1, _⟩ := h
  rcases h1.2 with ⟨rfl, _⟩ | ⟨g, cap, cur, rfl, _⟩ <;> rfl

/-! ### Out of an abstract state -/
def blks (C : Ctx) (os : List Nat) : List Nat := os.filterMap fun o => vblk (C.σ o)
def Lives (m : Mem) (os : List Nat) : Prop := ∀ o, o ∈ os → ∃ b, mget m o = some b ∧ live b = true

theorem Lives.append {m : Mem} {os os' : List Nat} (h : Lives m os) (h' : Lives m os') : Lives m (os ++ os') := fun o ho => (List.mem_append.1 ho).elim (h o) (h' o)

theorem exOwn_sem {D : Nat → Prop} {m : Mem} (hm : RelM D C w m) {E : Nat} {t : Ty} {c : CV} {v : Value} {xs : List t.den} {os : List Nat} (h : exCells.exOwn m E t c = some (xs, os)) (hc : CRel C w c v) :
    Lives m os ∧ blks C os = (vblk v).toList ∧ OwnR C.Fz w E t xs v := by
  rcases exOwn_rel hm h hc with ⟨_, rfl, rfl, rfl⟩ | ⟨o, _, rfl, hg, hd, rfl⟩
  · exact ⟨fun _ hh => (by cases hh), rfl, [], World.ownsRow_nil w 0 E t.sz, fun i y hy => by simp at hy⟩
  · obtain ⟨cells, ho, hr, _⟩ := hm.blk o _ hg
    refine ⟨fun o' ho' => ?_, ?_, cells, ho, hr⟩
    · have := List.mem_singleton.1 ho'
      subst this
      exact ⟨_, hg, rfl⟩
    · unfold blks
      cases hv : vblk (C.σ o) <;> simp [hv]

theorem frz_mono {os : List Nat} {Fz' : Nat → Prop} (h : ∀ k, (C.frz os).Fz k → Fz' k) : ∀ k, C.Fz k → Fz' k := fun k hk => h k ((C.frz_le os).Fz k hk)

theorem exCells_sem {D : Nat → Prop} {m : Mem} (hm : RelM D C w m) : ∀ {cs : List CS} {l : List CV} {x : CS.dens cs} {fs os : List Nat} {us : List Value}, exCells m cs l = some (x, fs, os) → All2 (CRel C w) l us →
    Rows C m fs ∧ Lives m os ∧ ∀ Fz' : Nat → Prop, (∀ k, (C.frz fs).Fz k → Fz' k) → CSsR Fz' w cs x us (blks C os)
  | [], [], x, fs, os, [], h, _ => by
    cases h
    exact ⟨fun _ hh => (by cases hh), fun _ hh => (by cases hh), fun _ _ => ⟨rfl, rfl⟩⟩
  | .sc t :: r, l, x, fs, os, us, h, hc => by
    have h' : (match t.pack m l with
      | some (x, l', fs) => match exCells m r l' with
        | some (y, fs', os) => some ((x, y), fs ++ fs', os)
        | none => none
      | none => none) = some (x, fs, os) := by cases l <;> exact h
    split at h'
    · rename_i x1 l1 f1 hq1
      split at h'
      · rename_i y1 f2 o2 hq2
        cases h'
        obtain ⟨v1, v2, e1, k1, c1, s1⟩ := pack_rel hm hq1 hc
        obtain ⟨a1, a2, a3⟩ := exCells_sem hm hq2 c1
        refine ⟨s1.append a1, a2, fun Fz' hF => ⟨v1, v2, e1, ?_, a3 Fz' fun k hk => hF k (frz_right k hk)⟩⟩
        exact KF.move (fun k hk => hF k (frz_left k hk)) (fun _ _ _ => rfl) k1
      · cases h'
    · cases h'
  | .own E t :: r, c :: l, x, fs, os, v :: us, h, hc => by
    simp only [exCells] at h
    split at h
    · rename_i x1 o1 hq1
      split at h
      · rename_i y1 f2 o2 hq2
        cases h
        obtain ⟨b1, b2, b3⟩ := exOwn_sem hm hq1 hc.1
        obtain ⟨a1, a2, a3⟩ := exCells_sem hm hq2 hc.2
        refine ⟨a1, b1.append a2, fun Fz' hF => ⟨v, us, blks C o2, rfl, ?_, b3.mono (frz_mono hF), a3 Fz' hF⟩⟩
        unfold blks
        rw [List.filterMap_append]
        exact congrArg (· ++ _) b2
      · cases h
    · cases h

theorem packV_sem {D : Nat → Prop} {m : Mem} (hm : RelM D C w m) {t : Ty} {x : Vl} {y : t.den} {fs : List Nat} {v : Value} (h : packV m t x = some (y, fs)) (hv : VRel C w x v) :
    Rows C m fs ∧ ∀ Fz' : Nat → Prop, (∀ k, (C.frz fs).Fz k → Fz' k) → VSR Fz' w (.val t) y v [] := by
  unfold packV at h
  cases hq : packV.Bool.beq' t.isSt x.isAgg with
  | false => rw [hq] at h; cases h
  | true =>
    rw [hq] at h
    simp only [cond_true] at h
    split at h
    · rename_i y' fs' hp
      cases h
      cases x with
      | one c =>
        have hst : t.isSt = false := by
          cases ht : t.isSt with
          | false => rfl
          | true => rw [ht] at hq; cases hq
        obtain ⟨v1, v2, e1, k1, c1, s1⟩ := pack_rel hm hp (show All2 (CRel C w) [c] [v] from ⟨hv, trivial⟩)
        have hv2 : v2 = [] := List.length_eq_zero_iff.1 c1.length.symm
        subst hv2
        rw [List.append_nil] at e1
        subst e1
        exact ⟨s1, fun Fz' hF => ⟨rfl, .inr ⟨hst, KF.move hF (fun _ _ _ => rfl) k1⟩⟩⟩
      | agg cs =>
        have hst : t.isSt = true := by
          cases ht : t.isSt with
          | true => rfl
          | false => rw [ht] at hq; cases hq
        obtain ⟨arr, rfl, h2⟩ := hv
        obtain ⟨v1, v2, e1, k1, c1, s1⟩ := pack_rel hm hp h2
        have hv2 : v2 = [] := List.length_eq_zero_iff.1 c1.length.symm
        subst hv2
        rw [List.append_nil] at e1
        subst e1
        exact ⟨s1, fun Fz' hF => ⟨rfl, .inl ⟨hst, arr, rfl, KF.move hF (fun _ _ _ => rfl) k1⟩⟩⟩
    · cases h

theorem exV_sem {D : Nat → Prop} {m : Mem} (hm : RelM D C w m) : ∀ {v : VS} {l : Vl} {x : v.den} {fs os : List Nat} {u : Value}, exV m v l = some (x, fs, os) → VRel C w l u →
    Rows C m fs ∧ Lives m os ∧ ∀ Fz' : Nat → Prop, (∀ k, (C.frz fs).Fz k → Fz' k) → VSR Fz' w v x u (blks C os) := by
  intro v l x fs os u h hv
  cases v with
  | val t =>
    have h' : (match packV m t l with
      | some (y, fs) => some (y, fs, ([] : List Nat))
      | none => none) = some (x, fs, os) := by cases l <;> exact h
    split at h'
    · rename_i y f hp
      cases h'
      obtain ⟨h1, h2⟩ := packV_sem hm hp hv
      exact ⟨h1, fun _ hh => (by cases hh), h2⟩
    · cases h'
  | own E t =>
    cases l with
    | agg cs => cases h
    | one c =>
      simp only [exV] at h
      split at h
      · rename_i y o hp
        cases h
        obtain ⟨h1, h2, h3⟩ := exOwn_sem hm hp hv
        exact ⟨fun _ hh => (by cases hh), h1, fun Fz' hF => ⟨h2, h3.mono (frz_mono hF)⟩⟩
      · cases h
  | eat E t =>
    cases l with
    | agg cs => cases h
    | one c =>
      simp only [exV] at h
      split at h
      · rename_i y o hp
        cases h
        obtain ⟨h1, h2, h3⟩ := exOwn_sem hm hp hv
        exact ⟨fun _ hh => (by cases hh), h1, fun Fz' hF => ⟨h2, h3.mono (frz_mono hF)⟩⟩
      · cases h
  | box T cs =>
    cases l with
    | agg cs' => cases h
    | one c =>
    cases c <;> first | (cases h; done) | skip
    rename_i b off
    cases off with
    | succ n => cases h
    | zero =>
      simp only [exV] at h
      split at h
      · rename_i T2 l hg
        cases hq : Nat.beq T2 T with
        | false => rw [hq] at h; cases h
        | true =>
          rw [hq] at h
          have := Nat.eq_of_beq_eq_true hq
          subst this
          simp only [cond_true] at h
          split at h
          · rename_i x1 f1 o1 hq1
            cases h
            obtain ⟨g, arr, hs, hh, ha, _⟩ := hm.blk b _ hg
            obtain ⟨a1, a2, a3⟩ := exCells_sem hm hq1 ha
            obtain ⟨_, g', hs', rfl⟩ := hv
            rw [hs] at hs'
            cases hs'
            refine ⟨a1, fun o ho => ?_, fun Fz' hF => ⟨g, arr, blks C o1, rfl, ?_, hh, a3 Fz' hF⟩⟩
            · rcases List.mem_cons.1 ho with rfl | ho
              · exact ⟨_, hg, rfl⟩
              · exact a2 o ho
            · unfold blks
              rw [List.filterMap_cons, hs]
              rfl
          · cases h
      · cases h
  | mp =>
    cases l with
    | agg cs' => cases h
    | one c =>
    cases c <;> first | (cases h; done) | skip
    · rename_i o
      simp only [exV] at h
      split at h
      · rename_i es hg
        cases h
        obtain ⟨g, ents, ck, hs, hh, ha, _⟩ := hm.blk _ _ hg
        obtain ⟨_, rfl⟩ := hv
        refine ⟨fun _ hh => (by cases hh), fun o' ho' => ?_, fun Fz' hF => ⟨g, ents, ck, hs, ?_, hh, ha⟩⟩
        · have := List.mem_singleton.1 ho'
          subst this
          exact ⟨_, hg, rfl⟩
        · unfold blks
          rw [List.filterMap_cons, hs]
          rfl
      · cases h
  | rc cs =>
    cases l with
    | one c => cases h
    | agg l =>
      obtain ⟨arr, rfl, ha⟩ := hv
      obtain ⟨a1, a2, a3⟩ := exCells_sem hm h ha
      exact ⟨a1, a2, fun Fz' hF => ⟨arr, rfl, a3 Fz' hF⟩⟩

theorem exVs_sem {D : Nat → Prop} {m : Mem} (hm : RelM D C w m) : ∀ {vs : List VS} {l : List Vl} {x : VS.dens vs} {fs os : List Nat} {us : List Value}, exVs m vs l = some (x, fs, os) → All2 (VRel C w) l us →
    Rows C m fs ∧ Lives m os ∧ ∀ Fz' : Nat → Prop, (∀ k, (C.frz fs).Fz k → Fz' k) → VSsR Fz' w vs x us (blks C os)
  | [], [], x, fs, os, [], h, _ => by
    cases h
    exact ⟨fun _ hh => (by cases hh), fun _ hh => (by cases hh), fun _ _ => ⟨rfl, rfl⟩⟩
  | v :: r, c :: l, x, fs, os, u :: us, h, hc => by
    simp only [exVs] at h
    split at h
    · rename_i x1 f1 o1 hq1
      split at h
      · rename_i y1 f2 o2 hq2
        cases h
        obtain ⟨b1, b2, b3⟩ := exV_sem hm hq1 hc.1
        obtain ⟨a1, a2, a3⟩ := exVs_sem hm hq2 hc.2
        refine ⟨b1.append a1, b2.append a2, fun Fz' hF => ⟨u, us, blks C o1, blks C o2, rfl, ?_, b3 Fz' fun k hk => hF k (frz_left k hk), a3 Fz' fun k hk => hF k (frz_right k hk)⟩⟩
        unfold blks
        rw [List.filterMap_append]
      · cases h
    · cases h

/-! ### Separate blocks -/
theorem nodup_of : ∀ {os : List Nat}, nodup os = true → os.Nodup
  | [], _ => List.nodup_nil
  | o :: r, h => by
    unfold nodup at h
    rw [Bool.and_eq_true, Bool.not_eq_true'] at h
    refine List.nodup_cons.2 ⟨fun hm => ?_, nodup_of h.2⟩
    have : r.any (Nat.beq o) = true := List.any_eq_true.2 ⟨o, hm, Nat.beq_refl o⟩
    rw [h.1] at this
    cases this

theorem sep_of {fs os : List Nat} (h : sep fs os = true) : os.Nodup ∧ ∀ o, o ∈ os → o ∉ fs := by
  unfold sep at h
  rw [Bool.and_eq_true, Bool.not_eq_true'] at h
  refine ⟨nodup_of h.1, fun o ho hf => ?_⟩
  have : (os.any fun o => fs.any (Nat.beq o)) = true := List.any_eq_true.2 ⟨o, ho, List.any_eq_true.2 ⟨o, hf, Nat.beq_refl o⟩⟩
  rw [h.2] at this
  cases this

theorem mem_blks {os : List Nat} {g : Nat} : g ∈ blks C os ↔ ∃ o, o ∈ os ∧ vblk (C.σ o) = some g := by
  unfold blks
  rw [List.mem_filterMap]

theorem blks_nodup {D : Nat → Prop} {m : Mem} (hm : RelM D C w m) : ∀ {os : List Nat}, os.Nodup → Lives m os → (blks C os).Nodup
  | [], _, _ => List.nodup_nil
  | o :: r, hn, hl => by
    obtain ⟨h1, h2⟩ := List.nodup_cons.1 hn
    have ih := blks_nodup hm h2 (fun o' ho' => hl o' (List.mem_cons_of_mem _ ho'))
    unfold blks at ih ⊢
    rw [List.filterMap_cons]
    split
    · exact ih
    · rename_i g hg
      refine List.nodup_cons.2 ⟨fun hh => ?_, ih⟩
      obtain ⟨o', ho', hg'⟩ := List.mem_filterMap.1 hh
      obtain ⟨b, hb, hlb⟩ := hl o List.mem_cons_self
      obtain ⟨b', hb', hlb'⟩ := hl o' (List.mem_cons_of_mem _ ho')
      exact hm.inj o o' b b' hb hb' hlb hlb' (fun hh => h1 (hh ▸ ho')) g hg hg'

end Go.Ev
