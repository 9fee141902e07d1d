/-
  The abstract evaluator: calls.
-/
import Derived.Test.YtgpjfmjceamonaaDoorEv12
namespace Go.Ev
variable {P : Program} {e : Env} {Γ : Actv} {C : Ctx} {s : St} {a : Act} {w : World}

/-! ### Blocks leave the table, and come back -/
theorem kill_get : ∀ (os : List Nat) (m : Mem) (i : Nat), mget (kill m os) i = if i ∈ os then some .dead else mget m i
  | [], m, i => by simp [kill]
  | o :: r, m, i => by
    rw [kill, kill_get r, mget_mput]
    by_cases h1 : i ∈ r
    · simp [h1]
    · by_cases h2 : i = o
      · simp [h2]
      · simp [h1, h2]

theorem kill_rel {D : Nat → Prop} {m : Mem} {os : List Nat} (hm : RelM D C w m) (hl : Lives m os) : RelM D C w (kill m os) ∧ Sepd C (kill m os) (blks C os) ∧ (∀ i, mget m i = none → mget (kill m os) i = none) := by
  have hlive : ∀ {i b}, mget (kill m os) i = some b → live b = true → i ∉ os ∧ mget m i = some b := fun {i b} hi hb => by
    rw [kill_get] at hi
    by_cases h1 : i ∈ os
    · rw [if_pos h1] at hi; cases hi; cases hb
    · rw [if_neg h1] at hi; exact ⟨h1, hi⟩
  refine ⟨⟨fun i b hi => ?_, fun i j b c hi hj hb hc => ?_, fun i => ?_, hm.one⟩, fun j c hj hc g hg hh => ?_, fun i hi => ?_⟩
  · rw [kill_get] at hi
    by_cases h1 : i ∈ os
    · rw [if_pos h1] at hi; cases hi; trivial
    · rw [if_neg h1] at hi; exact hm.blk i b hi
  · exact hm.inj i j b c (hlive hi hb).2 (hlive hj hc).2 hb hc
  · rw [hm.dm, kill_get]
    by_cases h1 : i ∈ os
    · obtain ⟨b, hb, _⟩ := hl i h1
      rw [if_pos h1, hb]
      simp
    · rw [if_neg h1]
  · obtain ⟨h1, h2⟩ := hlive hj hc
    obtain ⟨o, ho, hgo⟩ := mem_blks.1 hh
    obtain ⟨b, hb, hlb⟩ := hl o ho
    exact hm.inj j o c b h2 hb hc hlb (fun hq => h1 (hq ▸ ho)) g hg hgo
  · rw [kill_get, if_neg (fun h1 => by obtain ⟨b, hb, _⟩ := hl i h1; rw [hb] at hi; cases hi)]
    exact hi

/-- Another world, more that is frozen: the table stands where its live blocks were not touched. -/
theorem RelM.world {D : Nat → Prop} {m : Mem} {C2 : Ctx} {w' : World} {X : Nat → Prop} (hm : RelM D C w m) (hch : Ch w w' X) (hX : ∀ k, C.Fz k → ¬ X k) (hσ : C2.σ = C.σ) (hD : C2.Dm = C.Dm) (hF : ∀ k, C.Fz k → C2.Fz k)
    (hl : ∀ j c, mget m j = some c → live c = true → ∀ g, vblk (C.σ j) = some g → ¬ X g ∧ ¬ C2.Fz g) : RelM D C2 w' m := by
  have hle : CLe C C2 := ⟨fun i _ => by rw [hσ], hF, fun i hi => by rw [hD]; exact hi⟩
  refine ⟨fun i b hi => ?_, fun i j b c hi hj hb hc hij g hg => ?_, fun i => by rw [hD]; exact hm.dm i, fun i hi => by rw [hσ]; exact hm.one i (by rw [← hD]; exact hi)⟩
  · have hd : C.Dm i := (hm.dm i).2 (by rw [hi]; rfl)
    refine BRel.move hle (fun k hf hk => hch.block k hk (hX k hf)) hd (fun hlv g hg => ?_) (hm.blk i b hi)
    obtain ⟨h1, h2⟩ := hl i b hi hlv g hg
    exact ⟨hch.block g ((hm.blk i b hi).lt hlv hg) h1, h2⟩
  · rw [hσ] at hg ⊢
    exact hm.inj i j b c hi hj hb hc hij g hg

def cntBk : List VS → Nat
  | [] => 0
  | .box _ cs :: r => cntC cs + cntBk r
  | _ :: r => cntBk r

def backVals : List VS → List Value → List Value
  | [], _ => []
  | _ :: _, [] => []
  | .val _ :: r, _ :: l => backVals r l
  | .eat _ _ :: r, _ :: l => backVals r l
  | .rc _ :: r, _ :: l => backVals r l
  | _ :: r, u :: l => u :: backVals r l

theorem mkCells_cnt : ∀ (cs : List CS) (x : CS.dens cs) (m : Mem) (n : Nat), (mkCells cs x m n).2.2 = n + cntC cs
  | [], _, _, _ => rfl
  | .sc t :: r, x, m, n => mkCells_cnt r x.2 m n
  | .own E t :: r, x, m, n => by
    show (mkCells r x.2 (mput m n (.row E t x.1)) (n + 1)).2.2 = _
    rw [mkCells_cnt r]
    have e0 : cntC (.own E t :: r) = cntC r + 1 := rfl
    omega
theorem mkV_cnt : ∀ (v : VS) (x : v.den) (m : Mem) (n : Nat), (mkV v x m n).2.2 = n + cntV v
  | .val _, _, _, _ => rfl
  | .own _ _, _, _, _ => rfl
  | .eat _ _, _, _, _ => rfl
  | .box T cs, x, m, n => by
    show (mkCells cs x m (n + 1)).2.2 = _
    rw [mkCells_cnt cs]
    have e0 : cntV (.box T cs) = cntC cs + 1 := rfl
    omega
  | .mp, _, _, _ => rfl
  | .rc cs, x, m, n => mkCells_cnt cs x m n
theorem mkVs_cnt : ∀ (vs : List VS) (x : VS.dens vs) (m : Mem) (n : Nat), (mkVs vs x m n).2.2 = n + cntVs vs
  | [], _, _, _ => rfl
  | v :: r, x, m, n => by
    show (mkVs r x.2 (mkV v x.1 m n).2.1 (mkV v x.1 m n).2.2).2.2 = _
    rw [mkVs_cnt r, mkV_cnt]
    have e0 : cntVs (v :: r) = cntV v + cntVs r := rfl
    omega

theorem putBacks_cnt : ∀ {ps : List VS} {m : Mem} {n : Nat} {l : List Vl} {x : VS.dens (backs ps)} {m' : Mem} {n' : Nat}, putBacks m n ps l x = some (m', n') → n' = n + cntBk ps
  | [], m, n, [], x, m', n', h => by cases h; rfl
  | .val _ :: r, m, n, c :: l, x, m', n', h => putBacks_cnt (ps := r) (m := m) (l := l) (m' := m') (x := x) (by cases c <;> exact h)
  | .eat _ _ :: r, m, n, c :: l, x, m', n', h => putBacks_cnt (ps := r) (m := m) (l := l) (m' := m') (x := x) (by cases c <;> exact h)
  | .rc _ :: r, m, n, c :: l, x, m', n', h => putBacks_cnt (ps := r) (m := m) (l := l) (m' := m') (x := x) (by cases c <;> exact h)
  | .own E t :: r, m, n, .one c :: l, x, m', n', h => by
    cases c <;> first | exact (putBacks_cnt (ps := r) (x := x.2) h) | cases h
  | .box T cs :: r, m, n, .one c :: l, x, m', n', h => by
    cases c <;> first | (cases h; done) | skip
    have := putBacks_cnt (ps := r) (x := x.2) h
    rw [mkCells_cnt] at this
    have e0 : cntBk (.box T cs :: r) = cntC cs + cntBk r := rfl
    omega
  | .mp :: r, m, n, .one c :: l, x, m', n', h => by
    cases c <;> first | exact (putBacks_cnt (ps := r) (x := x.2) h) | cases h

/-- What is true behind some blocks' return. -/
structure Back (D : Nat → Prop) (C : Ctx) (w : World) (m : Mem) (n k : Nat) (bs : List Nat) (C' : Ctx) (m' : Mem) : Prop where
  le : CLe C C'
  fz : C'.Fz = C.Fz
  rel : RelM D C' w m'
  none : ∀ i, mget m i = none → ¬ (n ≤ i ∧ i < n + k) → mget m' i = none
  sep : ∀ j c, mget m' j = some c → live c = true → ∀ g, vblk (C'.σ j) = some g → g ∈ bs ∨ (mget m j = some c ∧ vblk (C.σ j) = some g)

theorem Laid.back {D : Nat → Prop} {C' : Ctx} {m m' : Mem} {n k : Nat} {bs : List Nat} (h : Laid D C w m n k bs C' m') : Back D C w m n k bs C' m' :=
  ⟨h.le, h.fz, h.rel, fun i hi hn => by rw [h.keep i hn]; exact hi, h.sep⟩
theorem Back.trans {D : Nat → Prop} {C1 C2 : Ctx} {m m1 m2 : Mem} {n k n' k' : Nat} {bs bs' : List Nat} (h : Back D C w m n k bs C1 m1) (h' : Back D C1 w m1 n' k' bs' C2 m2) (hn : n' = n + k) : Back D C w m n (k + k') (bs ++ bs') C2 m2 := by
  subst hn
  refine ⟨h.le.trans h'.le, h'.fz.trans h.fz, h'.rel, fun i hi hh => ?_, fun j c hj hl g hg => ?_⟩
  · exact h'.none i (h.none i hi (fun hq => hh ⟨by omega, by omega⟩)) (fun hq => hh ⟨by omega, by omega⟩)
  · rcases h'.sep j c hj hl g hg with hh | ⟨h1, h2⟩
    · exact .inl (List.mem_append.2 (.inr hh))
    · rcases h.sep j c h1 hl g h2 with hh | hh
      · exact .inl (List.mem_append.2 (.inl hh))
      · exact .inr hh
theorem Back.sepd {D : Nat → Prop} {C' : Ctx} {m m' : Mem} {n k : Nat} {b1 b2 : List Nat} (h : Back D C w m n k b1 C' m') (hs : Sepd C m (b1 ++ b2)) (hn : (b1 ++ b2).Nodup) : Sepd C' m' b2 := fun j c hj hl g hg hmem => by
  rcases h.sep j c hj hl g hg with hh | ⟨h1, h2⟩
  · exact (List.nodup_append.1 hn).2.2 g hh g hmem rfl
  · exact hs j c h1 hl g h2 (List.mem_append.2 (.inr hmem))

/-- A known block takes a new content. -/
theorem back_one {D : Nat → Prop} {m : Mem} {n o : Nat} {b : Bk} {bs : List Nat} (hm : RelM D C w m) (ho : C.Dm o) (hv : ∀ g, vblk (C.σ o) = some g → g ∈ bs) (hs : Sepd C m bs) (hb : BRel D C w o b) : Back D C w m n 0 bs C (mput m o b) := by
  refine ⟨CLe.refl C, rfl, ?_, fun i hi _ => ?_, fun j c hj hl g hg => ?_⟩
  · exact RelM.put (X := fun _ => False) hm (CLe.refl C) (Ch.refl w _) (fun _ _ hh => hh) (fun j c hj hl hji g hg => ⟨fun hh => hh, (hm.blk j c hj).nf hl hg |>.1⟩) hb (fun _ j c hj hl hji g hg hh => hs j c hj hl g hh (hv g hg))
      (fun i => ⟨fun hh => .inl hh, fun hh => hh.elim id (fun hh => hh ▸ ho)⟩) (hm.one o ho)
  · rw [mget_mput, if_neg (fun hh => by subst hh; have := (hm.dm i).1 ho; rw [hi] at this; cases this)]
    exact hi
  · rw [mget_mput] at hj
    by_cases hjo : j = o
    · subst hjo; exact .inl (hv g hg)
    · rw [if_neg hjo] at hj
      exact .inr ⟨hj, hg⟩

theorem putBacks_rel {D : Nat → Prop} : ∀ {ps : List VS} {m : Mem} {n : Nat} {l : List Vl} {x : VS.dens (backs ps)} {m' : Mem} {n' : Nat} {C : Ctx} {us : List Value} {bs : List Nat}, putBacks m n ps l x = some (m', n') → RelM D C w m → All2 (VRel C w) l us →
    VSsR C.Fz w (backs ps) x (backVals ps us) bs → bs.Nodup → (∀ g, g ∈ bs → ¬ C.Fz g ∧ D g) → Sepd C m bs → Free m n (cntBk ps) →
    ∃ C', Back D C w m n (cntBk ps) bs C' m'
  | [], m, n, [], x, m', n', C, us, bs, h, hm, _, hx, _, _, _, _ => by
    cases h
    obtain ⟨_, rfl⟩ := hx
    exact ⟨C, (Laid.refl hm).back⟩
  | .val _ :: r, m, n, c :: l, x, m', n', C, u :: us, bs, h, hm, hl, hx, hn, hd, hs, hf =>
    putBacks_rel (ps := r) (x := x) (n' := n') (by cases c <;> exact h) hm hl.2 hx hn hd hs hf
  | .eat _ _ :: r, m, n, c :: l, x, m', n', C, u :: us, bs, h, hm, hl, hx, hn, hd, hs, hf =>
    putBacks_rel (ps := r) (x := x) (n' := n') (by cases c <;> exact h) hm hl.2 hx hn hd hs hf
  | .rc _ :: r, m, n, c :: l, x, m', n', C, u :: us, bs, h, hm, hl, hx, hn, hd, hs, hf =>
    putBacks_rel (ps := r) (x := x) (n' := n') (by cases c <;> exact h) hm hl.2 hx hn hd hs hf
  | .own E t :: r, m, n, .one c :: l, x, m', n', C, u :: us, bs, h, hm, hl, hx, hn, hd, hs, hf => by
    obtain ⟨u', u2, b1, b2, e1, rfl, ⟨rfl, hv⟩, hr⟩ := hx
    have e2 : u :: backVals r us = u' :: u2 := e1
    obtain ⟨rfl, rfl⟩ := List.cons.inj e2
    cases c <;> first | (cases h; done) | skip
    · -- nil
      have hu : u = .slice none 0 0 := hl.1
      subst hu
      exact putBacks_rel (ps := r) (x := x.2) h hm hl.2 hr hn hd hs hf
    · rename_i o
      obtain ⟨ho, rfl⟩ : C.Dm o ∧ u = C.σ o := hl.1
      obtain ⟨cells, h1, h2⟩ := hv
      have hb := back_one (n := n) (b := .row E t x.1) (bs := (vblk (C.σ o)).toList) hm ho (fun g hg => by rw [hg]; simp) (fun j c hj hl g hg hh => hs j c hj hl g hg (List.mem_append.2 (.inl hh)))
        ⟨cells, h1, h2, fun g hg => hd g (List.mem_append.2 (.inl (by rw [hg]; simp)))⟩
      obtain ⟨C', hC⟩ := putBacks_rel (ps := r) (x := x.2) h hb.rel hl.2 hr (List.nodup_append.1 hn).2.1 (fun g hg => hd g (List.mem_append.2 (.inr hg))) (hb.sepd hs hn) (fun i hi hj => hb.none i (hf i hi hj) (by omega))
      have := hb.trans hC rfl
      rw [Nat.zero_add] at this
      exact ⟨C', this⟩
  | .box T cs :: r, m, n, .one c :: l, x, m', n', C, u :: us, bs, h, hm, hl, hx, hn, hd, hs, hf => by
    have e0 : cntBk (.box T cs :: r) = cntC cs + cntBk r := rfl
    obtain ⟨u', u2, b1, b2, e1, rfl, ⟨g, arr, b3, hu, rfl, hh, hcs⟩, hr⟩ := hx
    have e2 : u :: backVals r us = u' :: u2 := e1
    obtain ⟨rfl, rfl⟩ := List.cons.inj e2
    cases c <;> first | (cases h; done) | skip
    rename_i b off
    obtain ⟨ho, g', hσ, hu'⟩ : C.Dm b ∧ ∃ g, C.σ b = .pointer (some ⟨g, 0, none⟩) ∧ u = .pointer (some ⟨g, off, none⟩) := hl.1
    rw [hu] at hu'
    cases hu'
    subst hu
    have hn1 : (g :: b3).Nodup := (List.nodup_append.1 hn).1
    have hs1 : Sepd C m (g :: b3) := fun j c hj hl g' hg hh => hs j c hj hl g' hg (List.mem_append.2 (.inl hh))
    have hd1 : ∀ k, k ∈ g :: b3 → ¬ C.Fz k ∧ D k := fun k hk => hd k (List.mem_append.2 (.inl hk))
    obtain ⟨hg1, hg2⟩ := List.nodup_cons.1 hn1
    obtain ⟨C1, q1, q2, q3⟩ := mkCells_rel (m := m) (n := n) hm hcs hg2 (fun k hk => hd1 k (List.mem_cons_of_mem _ hk)) (fun j c hj hl g' hg hh => hs1 j c hj hl g' hg (List.mem_cons_of_mem _ hh)) (hf.part (Nat.le_refl _) (by omega))
    have hb1 := q1.back
    have hσ1 : C1.σ b = .pointer (some ⟨g, 0, none⟩) := by rw [hb1.le.σ b ho]; exact hσ
    have hb2 := back_one (n := n + cntC cs) (b := .box T (mkCells cs x.1 m n).1) (bs := [g]) hb1.rel (hb1.le.Dm b ho) (fun k hk => by rw [hσ1] at hk; simp [vblk] at hk; simp [hk])
      (fun j c hj hlv k hk hh' => by
        have := List.mem_singleton.1 hh'
        subst this
        rcases hb1.sep j c hj hlv k hk with hq | ⟨hq1, hq2⟩
        · exact hg1 hq
        · exact hs1 j c hq1 hlv k hq2 List.mem_cons_self)
      ⟨g, arr, hσ1, hh, q2, by rw [hb1.fz]; exact (hd1 g List.mem_cons_self).1, (hd1 g List.mem_cons_self).2⟩
    have hb3 := hb1.trans hb2 rfl
    have hperm : ∀ k, k ∈ b3 ++ [g] ↔ k ∈ g :: b3 := fun k => by simp [or_comm]
    have hb4 : Back D C w m n (cntC cs) (g :: b3) C1 (mput (mkCells cs x.1 m n).2.1 b (.box T (mkCells cs x.1 m n).1)) := ⟨hb3.le, hb3.fz, hb3.rel, hb3.none, fun j c hj hl k hk => (hb3.sep j c hj hl k hk).imp (hperm k).1 id⟩
    have h' : putBacks (mput (mkCells cs x.1 m n).2.1 b (.box T (mkCells cs x.1 m n).1)) (n + cntC cs) r l x.2 = some (m', n') := by rw [← q3]; exact h
    obtain ⟨C', hC⟩ := putBacks_rel (ps := r) (x := x.2) h' hb4.rel (hl.2.imp fun _ _ hq => VRel.move hb4.le (fun _ _ _ => rfl) hq) (by rw [hb4.fz]; exact hr) (List.nodup_append.1 hn).2.1
      (fun k hk => by rw [hb4.fz]; exact hd k (List.mem_append.2 (.inr hk))) (hb4.sepd hs hn) (fun i hi hj => hb4.none i (hf i (by omega) (by omega)) (by omega))
    exact ⟨C', hb4.trans hC rfl⟩
  | .mp :: r, m, n, .one c :: l, x, m', n', C, u :: us, bs, h, hm, hl, hx, hn, hd, hs, hf => by
    obtain ⟨u', u2, b1, b2, e1, rfl, ⟨g, ents, ck, hu, rfl, hh, hmp⟩, hr⟩ := hx
    have e2 : u :: backVals r us = u' :: u2 := e1
    obtain ⟨rfl, rfl⟩ := List.cons.inj e2
    cases c <;> first | (cases h; done) | skip
    rename_i o
    obtain ⟨ho, hu2⟩ : C.Dm o ∧ u = C.σ o := hl.1
    have hσ : C.σ o = .map (some g) := by rw [← hu2]; exact hu
    have hb := back_one (n := n) (b := .mp x.1) (bs := [g]) hm ho (fun k hk => by rw [hσ] at hk; simp [vblk] at hk; simp [hk]) (fun j c hj hl g hg hh => hs j c hj hl g hg (List.mem_append.2 (.inl hh)))
      ⟨g, ents, ck, hσ, hh, hmp, (hd g (List.mem_append.2 (.inl List.mem_cons_self))).1, (hd g (List.mem_append.2 (.inl List.mem_cons_self))).2⟩
    obtain ⟨C', hC⟩ := putBacks_rel (ps := r) (x := x.2) h hb.rel hl.2 hr (List.nodup_append.1 hn).2.1 (fun g hg => hd g (List.mem_append.2 (.inr hg))) (hb.sepd hs hn) (fun i hi hj => hb.none i (hf i hi hj) (by omega))
    have := hb.trans hC rfl
    rw [Nat.zero_add] at this
    exact ⟨C', this⟩

end Go.Ev
