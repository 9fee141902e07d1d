/-
  The abstract evaluator: a shape's data is laid anew.
-/
import Derived.Test.YtgpjfmjceamonaaDoorEv11
namespace Go.Ev
variable {P : Program} {e : Env} {Γ : Actv} {C : Ctx} {s : St} {a : Act} {w : World}

def cntC : List CS → Nat
  | [] => 0
  | .sc _ :: r => cntC r
  | .own _ _ :: r => cntC r + 1
def cntV : VS → Nat
  | .val _ => 0
  | .own _ _ => 1
  | .eat _ _ => 1
  | .box _ cs => cntC cs + 1
  | .mp => 1
  | .rc cs => cntC cs
def cntVs : List VS → Nat
  | [] => 0
  | v :: r => cntV v + cntVs r

def Free (m : Mem) (n k : Nat) : Prop := ∀ i, n ≤ i → i < n + k → mget m i = none
theorem Free.of_fresh : ∀ {k n : Nat} {m : Mem}, fresh m n k = true → Free m n k
  | 0, _, _, _ => fun i h1 h2 => by omega
  | k + 1, n, m, h => fun i h1 h2 => by
    unfold fresh at h
    rw [Bool.and_eq_true] at h
    by_cases hi : i = n
    · subst hi
      cases hm : mget m i with
      | none => rfl
      | some b => rw [hm] at h; cases h.1
    · exact Free.of_fresh h.2 i (by omega) (by omega)
theorem Free.part {m : Mem} {n k n' k' : Nat} (h : Free m n k) (h1 : n ≤ n') (h2 : n' + k' ≤ n + k) : Free m n' k' := fun i hi hj => h i (by omega) (by omega)

/-- No live block is one of these. -/
def Sepd (C : Ctx) (m : Mem) (bs : List Nat) : Prop := ∀ j c, mget m j = some c → live c = true → ∀ g, vblk (C.σ j) = some g → g ∉ bs

structure Laid (D : Nat → Prop) (C : Ctx) (w : World) (m : Mem) (n k : Nat) (bs : List Nat) (C' : Ctx) (m' : Mem) : Prop where
  le : CLe C C'
  fz : C'.Fz = C.Fz
  rel : RelM D C' w m'
  keep : ∀ i, ¬ (n ≤ i ∧ i < n + k) → mget m' i = mget m i
  sep : ∀ j c, mget m' j = some c → live c = true → ∀ g, vblk (C'.σ j) = some g → g ∈ bs ∨ (mget m j = some c ∧ vblk (C.σ j) = some g)

theorem Laid.refl {D : Nat → Prop} {m : Mem} {n : Nat} (hm : RelM D C w m) : Laid D C w m n 0 [] C m :=
  ⟨CLe.refl C, rfl, hm, fun _ _ => rfl, fun _ _ h1 _ _ h2 => .inr ⟨h1, h2⟩⟩

theorem Laid.trans {D : Nat → Prop} {C1 C2 : Ctx} {m m1 m2 : Mem} {n k n' k' : Nat} {bs bs' : List Nat} (h : Laid D C w m n k bs C1 m1) (h' : Laid D C1 w m1 n' k' bs' C2 m2) (hn : n' = n + k) : Laid D C w m n (k + k') (bs ++ bs') C2 m2 := by
  subst hn
  refine ⟨h.le.trans h'.le, h'.fz.trans h.fz, h'.rel, fun i hi => ?_, fun j c hj hl g hg => ?_⟩
  · rw [h'.keep i (fun hh => hi ⟨by omega, by omega⟩), h.keep i (fun hh => hi ⟨by omega, by omega⟩)]
  · rcases h'.sep j c hj hl g hg with hh | ⟨h1, h2⟩
    · exact .inl (List.mem_append.2 (.inr hh))
    · rcases h.sep j c h1 hl g h2 with hh | hh
      · exact .inl (List.mem_append.2 (.inl hh))
      · exact .inr hh

theorem Laid.sepd {D : Nat → Prop} {C' : Ctx} {m m' : Mem} {n k : Nat} {b1 b2 : List Nat} (h : Laid D C w m n k b1 C' m') (hs : Sepd C m (b1 ++ b2)) (hn : (b1 ++ b2).Nodup) : Sepd C' m' b2 := fun j c hj hl g hg hmem => by
  rcases h.sep j c hj hl g hg with hh | ⟨h1, h2⟩
  · exact (List.nodup_append.1 hn).2.2 g hh g hmem rfl
  · exact hs j c h1 hl g h2 (List.mem_append.2 (.inr hmem))

/-- One block more. -/
theorem lay_one {D : Nat → Prop} {m : Mem} {n : Nat} {b : Bk} {u : Value} {bs : List Nat} (hm : RelM D C w m) (hn : mget m n = none) (hv : ∀ g, vblk u = some g → g ∈ bs) (hs : Sepd C m bs) (h1 : u.oneCell' = true)
    (hb : BRel D (C.add n u) w n b) : Laid D C w m n 1 bs (C.add n u) (mput m n b) := by
  have hni : ¬ C.Dm n := fun hd => by
    have := (hm.dm n).1 hd
    rw [hn] at this
    cases this
  have hle : CLe C (C.add n u) := Ctx.add_le hni
  refine ⟨hle, rfl, ?_, fun i hi => ?_, fun j c hj hl g hg => ?_⟩
  · refine RelM.put (X := fun _ => False) hm hle (Ch.refl w _) (fun _ _ hh => hh) (fun j c hj hl hji g hg => ⟨fun hh => hh, (hm.blk j c hj).nf hl hg |>.1⟩) hb (fun _ j c hj hl hji g hg hh => ?_) (fun _ => Iff.rfl) (by rw [Ctx.add_σ]; exact h1)
    rw [Ctx.add_σ] at hg
    exact hs j c hj hl g hh (hv g hg)
  · rw [mget_mput, if_neg (fun hh => hi ⟨by omega, by omega⟩)]
  · rw [mget_mput] at hj
    by_cases hjn : j = n
    · subst hjn
      rw [Ctx.add_σ] at hg
      exact .inl (hv g hg)
    · rw [if_neg hjn] at hj
      have hd : C.Dm j := (hm.dm j).2 (by rw [hj]; rfl)
      rw [hle.σ j hd] at hg
      exact .inr ⟨hj, hg⟩

theorem lay_own {D : Nat → Prop} {m : Mem} {n E : Nat} {t : Ty} {xs : List t.den} {u : Value} {bs : List Nat} (hm : RelM D C w m) (hn : mget m n = none) (hx : OwnR C.Fz w E t xs u) (hv : ∀ g, vblk u = some g → g ∈ bs) (hs : Sepd C m bs)
    (hd : ∀ g, g ∈ bs → ¬ C.Fz g ∧ D g) : Laid D C w m n 1 bs (C.add n u) (mput m n (.row E t xs)) := by
  refine lay_one hm hn hv hs hx.one ?_
  obtain ⟨cells, h1, h2⟩ := hx
  exact ⟨cells, by rw [Ctx.add_σ]; exact h1, h2, fun g hg => by rw [Ctx.add_σ] at hg; exact hd g (hv g hg)⟩

theorem mkCells_rel {D : Nat → Prop} : ∀ {cs : List CS} {x : CS.dens cs} {m : Mem} {n : Nat} {C : Ctx} {us : List Value} {bs : List Nat}, RelM D C w m → CSsR C.Fz w cs x us bs → bs.Nodup → (∀ g, g ∈ bs → ¬ C.Fz g ∧ D g) → Sepd C m bs → Free m n (cntC cs) →
    ∃ C', Laid D C w m n (cntC cs) bs C' (mkCells cs x m n).2.1 ∧ All2 (CRel C' w) (mkCells cs x m n).1 us ∧ (mkCells cs x m n).2.2 = n + cntC cs
  | [], x, m, n, C, us, bs, hm, h, _, _, _, _ => by
    obtain ⟨rfl, rfl⟩ := h
    exact ⟨C, Laid.refl hm, trivial, rfl⟩
  | .sc t :: r, x, m, n, C, us, bs, hm, h, hn, hd, hs, hf => by
    obtain ⟨u1, u2, rfl, hk, hr⟩ := h
    obtain ⟨C', h1, h2, h3⟩ := mkCells_rel hm hr hn hd hs hf
    exact ⟨C', h1, ((KF.cells hk).imp fun _ _ hh => CRel.move h1.le (fun _ _ _ => rfl) hh).append h2, h3⟩
  | .own E t :: r, x, m, n, C, us, bs, hm, h, hn, hd, hs, hf => by
    obtain ⟨u, u2, b2, rfl, rfl, ho, hr⟩ := h
    have e0 : cntC (.own E t :: r) = cntC r + 1 := rfl
    have hn0 : mget m n = none := hf n (Nat.le_refl _) (by omega)
    have hl := lay_own (bs := (vblk u).toList) hm hn0 ho (fun g hg => by rw [hg]; simp) (fun j c hj hl g hg hh => hs j c hj hl g hg (List.mem_append.2 (.inl hh))) (fun g hg => hd g (List.mem_append.2 (.inl hg)))
    obtain ⟨C', h1, h2, h3⟩ := mkCells_rel (n := n + 1) hl.rel hr (List.nodup_append.1 hn).2.1 (fun g hg => hd g (List.mem_append.2 (.inr hg))) (hl.sepd hs hn)
      (fun i hi hj => by rw [hl.keep i (by omega)]; exact hf i (by omega) (by omega))
    have ht := hl.trans h1 rfl
    refine ⟨C', by rw [show cntC (.own E t :: r) = 1 + cntC r by omega]; exact ht, ⟨?_, h2⟩, ?_⟩
    · have hdm : (C.add n u).Dm n := .inr rfl
      exact ⟨h1.le.Dm n hdm, by rw [h1.le.σ n hdm, Ctx.add_σ]⟩
    · show (mkCells r x.2 (mput m n (.row E t x.1)) (n + 1)).2.2 = _
      rw [h3]
      omega

theorem mkV_rel {D : Nat → Prop} : ∀ {v : VS} {x : v.den} {m : Mem} {n : Nat} {C : Ctx} {u : Value} {bs : List Nat}, RelM D C w m → VSR C.Fz w v x u bs → bs.Nodup → (∀ g, g ∈ bs → ¬ C.Fz g ∧ D g) → Sepd C m bs → Free m n (cntV v) →
    ∃ C', Laid D C w m n (cntV v) bs C' (mkV v x m n).2.1 ∧ VRel C' w (mkV v x m n).1 u ∧ (mkV v x m n).2.2 = n + cntV v := by
  intro v x m n C u bs hm h hn hd hs hf
  cases v with
  | val t =>
    obtain ⟨rfl, h⟩ := h
    refine ⟨C, Laid.refl hm, ?_, rfl⟩
    show VRel C w (bif t.isSt then .agg (t.cells x) else .one ((t.cells x).headD .junk)) u
    rcases h with ⟨ht, arr, rfl, hk⟩ | ⟨ht, hk⟩
    · rw [ht]
      exact ⟨arr, rfl, KF.cells hk⟩
    · rw [ht]
      have hc := KF.cells hk
      cases hl : t.cells x with
      | nil => rw [hl] at hc; exact hc.elim
      | cons c r => rw [hl] at hc; exact hc.1
  | own E t =>
    obtain ⟨rfl, h⟩ := h
    have e0 : cntV (.own E t) = 1 := rfl
    have hn0 : mget m n = none := hf n (Nat.le_refl _) (by omega)
    have hl := lay_own (bs := (vblk u).toList) hm hn0 h (fun g hg => by rw [hg]; simp) hs hd
    exact ⟨_, hl, ⟨.inr rfl, (Ctx.add_σ _ _ _).symm⟩, rfl⟩
  | eat E t =>
    obtain ⟨rfl, h⟩ := h
    have e0 : cntV (.eat E t) = 1 := rfl
    have hn0 : mget m n = none := hf n (Nat.le_refl _) (by omega)
    have hl := lay_own (bs := (vblk u).toList) hm hn0 h (fun g hg => by rw [hg]; simp) hs hd
    exact ⟨_, hl, ⟨.inr rfl, (Ctx.add_σ _ _ _).symm⟩, rfl⟩
  | box T cs =>
    obtain ⟨g, arr, b2, rfl, rfl, hh, hr⟩ := h
    have e0 : cntV (.box T cs) = cntC cs + 1 := rfl
    obtain ⟨hg1, hg2⟩ := List.nodup_cons.1 hn
    obtain ⟨C', h1, h2, h3⟩ := mkCells_rel (n := n + 1) hm hr hg2 (fun g hg => hd g (List.mem_cons_of_mem _ hg)) (fun j c hj hl g' hg' hh' => hs j c hj hl g' hg' (List.mem_cons_of_mem _ hh')) (hf.part (by omega) (by omega))
    have hn0 : mget (mkCells cs x m (n + 1)).2.1 n = none := by rw [h1.keep n (by omega)]; exact hf n (Nat.le_refl _) (by omega)
    have hni : ¬ C'.Dm n := fun hd => by
      have := (h1.rel.dm n).1 hd
      rw [hn0] at this
      cases this
    have hl := lay_one (bs := [g]) (b := .box T (mkCells cs x m (n + 1)).1) (u := .pointer (some ⟨g, 0, none⟩)) h1.rel hn0 (fun g' hg' => by simp [vblk] at hg'; simp [hg'])
      (fun j c hj hlv g' hg' hh' => by
        have := List.mem_singleton.1 hh'
        subst this
        rcases h1.sep j c hj hlv g' hg' with hq | ⟨hq1, hq2⟩
        · exact hg1 hq
        · exact hs j c hq1 hlv g' hq2 List.mem_cons_self) rfl
      ⟨g, arr, Ctx.add_σ _ _ _, hh, h2.imp fun _ _ hq => CRel.move (Ctx.add_le hni) (fun _ _ _ => rfl) hq, by rw [show (C'.add n _).Fz = C'.Fz from rfl, h1.fz]; exact (hd g List.mem_cons_self).1, (hd g List.mem_cons_self).2⟩
    refine ⟨_, ⟨h1.le.trans hl.le, hl.fz.trans h1.fz, hl.rel, fun i hi => ?_, fun j c hj hlv g' hg' => ?_⟩, ⟨.inr rfl, g, Ctx.add_σ _ _ _, rfl⟩, ?_⟩
    · have e1 := hl.keep i (fun hq => hi ⟨by omega, by omega⟩)
      have e2 := h1.keep i (fun hq => hi ⟨by omega, by omega⟩)
      exact e1.trans e2
    · rcases hl.sep j c hj hlv g' hg' with hq | ⟨hq1, hq2⟩
      · have := List.mem_singleton.1 hq
        subst this
        exact .inl List.mem_cons_self
      · rcases h1.sep j c hq1 hlv g' hq2 with hq | hq
        · exact .inl (List.mem_cons_of_mem _ hq)
        · exact .inr hq
    · show (mkCells cs x m (n + 1)).2.2 = _
      rw [h3]
      omega
  | mp =>
    obtain ⟨g, ents, ck, rfl, rfl, hh, hr⟩ := h
    have e0 : cntV .mp = 1 := rfl
    have hn0 : mget m n = none := hf n (Nat.le_refl _) (by omega)
    have hl := lay_one (bs := [g]) (b := .mp x) (u := .map (some g)) hm hn0 (fun g' hg' => by simp [vblk] at hg'; simp [hg']) hs rfl
      ⟨g, ents, ck, Ctx.add_σ _ _ _, hh, hr, (hd g List.mem_cons_self).1, (hd g List.mem_cons_self).2⟩
    exact ⟨_, hl, ⟨.inr rfl, (Ctx.add_σ _ _ _).symm⟩, rfl⟩
  | rc cs =>
    obtain ⟨arr, rfl, hr⟩ := h
    obtain ⟨C', h1, h2, h3⟩ := mkCells_rel (n := n) hm hr hn hd hs hf
    exact ⟨C', h1, ⟨arr, rfl, h2⟩, h3⟩

theorem mkVs_rel {D : Nat → Prop} : ∀ {vs : List VS} {x : VS.dens vs} {m : Mem} {n : Nat} {C : Ctx} {us : List Value} {bs : List Nat}, RelM D C w m → VSsR C.Fz w vs x us bs → bs.Nodup → (∀ g, g ∈ bs → ¬ C.Fz g ∧ D g) → Sepd C m bs → Free m n (cntVs vs) →
    ∃ C', Laid D C w m n (cntVs vs) bs C' (mkVs vs x m n).2.1 ∧ All2 (VRel C' w) (mkVs vs x m n).1 us ∧ (mkVs vs x m n).2.2 = n + cntVs vs
  | [], x, m, n, C, us, bs, hm, h, _, _, _, _ => by
    obtain ⟨rfl, rfl⟩ := h
    exact ⟨C, Laid.refl hm, trivial, rfl⟩
  | v :: r, x, m, n, C, us, bs, hm, h, hn, hd, hs, hf => by
    obtain ⟨u, u2, b1, b2, rfl, rfl, hv, hr⟩ := h
    have e0 : cntVs (v :: r) = cntV v + cntVs r := rfl
    obtain ⟨C1, h1, h2, h3⟩ := mkV_rel hm hv (List.nodup_append.1 hn).1 (fun g hg => hd g (List.mem_append.2 (.inl hg))) (fun j c hj hl g hg hh => hs j c hj hl g hg (List.mem_append.2 (.inl hh))) (hf.part (Nat.le_refl _) (by omega))
    obtain ⟨C2, g1, g2, g3⟩ := mkVs_rel (n := n + cntV v) h1.rel (by rw [h1.fz]; exact hr) (List.nodup_append.1 hn).2.1 (fun g hg => by rw [h1.fz]; exact hd g (List.mem_append.2 (.inr hg))) (h1.sepd hs hn)
      (fun i hi hj => by rw [h1.keep i (by omega)]; exact hf i (by omega) (by omega))
    rw [← h3] at g1 g2 g3
    have ht := h1.trans g1 h3
    exact ⟨C2, ht, ⟨VRel.move g1.le (fun _ _ _ => rfl) h2, g2⟩, by
      show (mkVs r x.2 (mkV v x.1 m n).2.1 (mkV v x.1 m n).2.2).2.2 = _
      rw [g3, h3]
      omega⟩

end Go.Ev
