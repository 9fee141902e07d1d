/-
 The abstract evaluator: a shape's data is laid anew.
-/
import Derived.Test.YtgpjfmjceamonaaGreatDoorEv11
namespace Go.Ev
variable {P : Program} {e : Env} {Γ : Actv} {C : Ctx} {s : St} {a : Act} {w : World}
def cntC : List CS → Nat
 | [] => 0
 | .sc _ :: r => cntC r
 | .own _ _ :: r => cntC r + 1
 | .deep _ _ :: r => cntC r + 1
def cntV : VS → Nat
 | .val _ => 0
 | .own _ _ => 1
 | .eat _ _ => 1
 | .box _ cs _ => cntC cs + 1
 | .mp => 1
 | .rc cs => cntC cs
 | .deep _ _ _ => 1
 | .lent cs => cntC cs
def cntVs : List VS → Nat
 | [] => 0
 | v :: r => cntV v + cntVs r
def Free (m : Mem) (n k : Nat) : Prop := ∀ i, n ≤ i → i < n + k → mget m i = none
theorem Free.of_fresh : ∀ {k n : Nat} {m : Mem}, fresh m n k = true → Free m n k
 | 0, _, _, _ => fun i h1 h2 => by omega
 | k + 1, n, m, h => fun i h1 h2 => by
  unfold fresh at h
  rw [Bool.and_eq_true] at h
  by_cases hi : i = n
  ·subst hi
   cases hm : mget m i with
   | none => rfl
   | some b => rw [hm] at h; cases h.1
  ·exact Free.of_fresh h.2 i (by omega) (by omega)
theorem Free.part {m : Mem} {n k n' k' : Nat} (h : Free m n k) (h1 : n ≤ n') (h2 : n' + k' ≤ n + k) : Free m n' k' := fun i hi hj => h i (by omega) (by omega)
/-- No live block is one of these. -/
def Sepd (C : Ctx) (m : Mem) (bs : List Nat) : Prop := ∀ j c, mget m j = some c → live c = true → ∀ g, g ∈ C.fp j → g ∉ bs
structure Laid (D : Nat → Prop) (C : Ctx) (w : World) (m : Mem) (n k : Nat) (bs : List Nat) (C' : Ctx) (m' : Mem) : Prop where
 le : CLe C C'
 fz : C'.Fz = C.Fz
 rel : RelM D C' w m'
 keep : ∀ i, ¬ (n ≤ i ∧ i < n + k) → mget m' i = mget m i
 sep : ∀ j c, mget m' j = some c → live c = true → ∀ g, g ∈ C'.fp j → g ∈ bs ∨ (mget m j = some c ∧ g ∈ C.fp j)
theorem Laid.refl {D : Nat → Prop} {m : Mem} {n : Nat} (hm : RelM D C w m) : Laid D C w m n 0 [] C m :=
 ⟨CLe.refl C, rfl, hm, fun _ _ => rfl, fun _ _ h1 _ _ h2 => .inr ⟨h1, h2⟩⟩
theorem Laid.trans {D : Nat → Prop} {C1 C2 : Ctx} {m m1 m2 : Mem} {n k n' k' : Nat} {bs bs' : List Nat} (h : Laid D C w m n k bs C1 m1) (h' : Laid D C1 w m1 n' k' bs' C2 m2) (hn : n' = n + k) : Laid D C w m n (k + k') (bs ++ bs') C2 m2 := by
 subst hn
 refine ⟨h.le.trans h'.le, h'.fz.trans h.fz, h'.rel, fun i hi => ?_, fun j c hj hl g hg => ?_⟩
 ·rw [h'.keep i (fun hh => hi ⟨by omega, by omega⟩), h.keep i (fun hh => hi ⟨by omega, by omega⟩)]
 ·rcases h'.sep j c hj hl g hg with hh | ⟨h1, h2⟩
  ·exact .inl (List.mem_append.2 (.inr hh))
  ·rcases h.sep j c h1 hl g h2 with hh | hh
   ·exact .inl (List.mem_append.2 (.inl hh))
   ·exact .inr hh
theorem Laid.sepd {D : Nat → Prop} {C' : Ctx} {m m' : Mem} {n k : Nat} {b1 b2 : List Nat} (h : Laid D C w m n k b1 C' m') (hs : Sepd C m (b1 ++ b2)) (hn : (b1 ++ b2).Nodup) : Sepd C' m' b2 := fun j c hj hl g hg hmem => by
 rcases h.sep j c hj hl g hg with hh | ⟨h1, h2⟩
 ·exact (List.nodup_append.1 hn).2.2 g hh g hmem rfl
 ·exact hs j c h1 hl g h2 (List.mem_append.2 (.inr hmem))
/-- One block more. -/
theorem lay_oneD {D : Nat → Prop} {m : Mem} {n : Nat} {b : Bk} {u : Value} {bs l : List Nat} {hh0 : Nat → Nat → Value} (hm : RelM D C w m) (hn : mget m n = none) (hv : ∀ g, g ∈ (vblk u).toList ++ l → g ∈ bs) (hs : Sepd C m bs) (h1 : u.oneCell' = true)
  (hb : BRel D (C.addD n u l hh0) w n b) : Laid D C w m n 1 bs (C.addD n u l hh0) (mput m n b) := by
 have hni : ¬ C.Dm n := fun hd => by
  have := (hm.dm n).1 hd
  rw [hn] at this
  cases this
 have hle : CLe C (C.addD n u l hh0) := Ctx.addD_le hni
 refine ⟨hle, rfl, ?_, fun i hi => ?_, fun j c hj hl g hg => ?_⟩
 ·refine RelM.put (X := fun _ => False) hm hle (Ch.refl w _) (fun _ _ hh => hh) (fun j c hj hl hji g hg => ⟨fun hh => hh, (hm.blk j c hj).nf hl hg |>.1⟩) hb (fun _ j c hj hl hji g hg hh => ?_) (fun _ => Iff.rfl) (by rw [Ctx.addD_σ]; exact h1) (Ctx.addD_exo C n u l hh0)
  rw [Ctx.addD_fp] at hg
  exact hs j c hj hl g hh (hv g hg)
 ·rw [mget_mput, if_neg (fun hh => hi ⟨by omega, by omega⟩)]
 ·rw [mget_mput] at hj
  by_cases hjn : j = n
  ·subst hjn
   rw [Ctx.addD_fp] at hg
   exact .inl (hv g hg)
  ·rw [if_neg hjn] at hj
   have hd : C.Dm j := (hm.dm j).2 (by rw [hj]; rfl)
   have hfp : (C.addD n u l hh0).fp j = C.fp j := by
    unfold Ctx.fp
    rw [hle.σ j hd, Ctx.addD_exo C n u l hh0 j hjn]
   rw [hfp] at hg
   exact .inr ⟨hj, hg⟩
theorem lay_one {D : Nat → Prop} {m : Mem} {n : Nat} {b : Bk} {u : Value} {bs : List Nat} (hm : RelM D C w m) (hn : mget m n = none) (hv : ∀ g, vblk u = some g → g ∈ bs) (hs : Sepd C m bs) (h1 : u.oneCell' = true)
  (hb : BRel D (C.add n u) w n b) : Laid D C w m n 1 bs (C.add n u) (mput m n b) :=
 lay_oneD (l := []) (hh0 := fun _ _ => undef) hm hn (fun g hg => by
  rw [List.append_nil] at hg
  cases hv' : vblk u with
  | none => rw [hv'] at hg; cases hg
  | some g' =>
   rw [hv'] at hg
   have := List.mem_singleton.1 hg
   subst this
   exact hv g hv') hs h1 hb
theorem lay_own {D : Nat → Prop} {m : Mem} {n E : Nat} {t : Ty} {xs : List t.den} {u : Value} {bs : List Nat} (hm : RelM D C w m) (hn : mget m n = none) (hx : OwnR C.Fz w E t xs u) (hv : ∀ g, vblk u = some g → g ∈ bs) (hs : Sepd C m bs)
  (hd : ∀ g, g ∈ bs → ¬ C.Fz g ∧ D g) : Laid D C w m n 1 bs (C.add n u) (mput m n (.row E t xs)) := by
 refine lay_one hm hn hv hs hx.one ?_
 obtain ⟨cells, h1, h2⟩ := hx
 exact ⟨⟨cells, by rw [Ctx.add_σ]; exact h1, h2, fun g hg => by rw [Ctx.add_σ] at hg; exact hd g (hv g hg)⟩, Ctx.add_ex _ _ _⟩
theorem own_lt {E n : Nat} {sz : Nat} {u : Value} {cells : List Value} (h : w.ownsRow 0 E sz u n cells) {g : Nat} (hg : vblk u = some g) : g < w.heap.size := own_blk_lt h hg
/-- Owned blocks are there. -/
theorem DVH.lt {Fz : Nat → Prop} : ∀ {d : DT} {ho : List (Nat × Value)} {x : d.ty.den} {cs : List Value} {bs : List Nat}, DVH Fz w ho d x cs bs → ∀ g, g ∈ bs → g < w.heap.size
 | .fl _, _, _, _, _, h, g, hg => by rw [h.2] at hg; cases hg
 | .st d, ho, x, cs, bs, h, g, hg => DVH.lt (d := d) (ho := ho) (x := x) (cs := cs) h g hg
 | .pair _ _, _, _, _, _, h, g, hg => by
  obtain ⟨c1, c2, b1, b2, _, rfl, h1, h2⟩ := h
  rcases List.mem_append.1 hg with hg | hg
  ·exact DVH.lt h1 g hg
  ·exact DVH.lt h2 g hg
 | .row _ d, _, xs, _, _, h, g, hg => by
  rcases h with ⟨v, _, _, _, hb⟩ | ⟨_, u, cells, b2, _, rfl, ho, he⟩
  ·rw [hb] at hg
   cases hg
  rcases List.mem_append.1 hg with hg | hg
  ·cases hv : vblk u with
   | none => rw [hv] at hg; cases hg
   | some g' =>
    rw [hv] at hg
    have := List.mem_singleton.1 hg
    subst this
    exact own_blk_lt ho hv
  ·have key : ∀ {k : Nat} {ys : List d.ty.den} {cs : List Value} {b : List Nat}, Elts (fun _ => DVH Fz w [] d) k ys cs b → ∀ g, g ∈ b → g < w.heap.size := by
    intro k ys
    induction ys generalizing k with
    | nil =>
     intro cs b h g hg
     rw [h.2] at hg
     cases hg
    | cons y ys ih =>
     intro cs b h g hg
     obtain ⟨c1, c2, b1, b2, _, rfl, h1, h2⟩ := h
     rcases List.mem_append.1 hg with hg | hg
     ·exact DVH.lt (d := d) h1 g hg
     ·exact ih h2 g hg
   exact key he g hg
theorem OwnD.lt {Fz : Nat → Prop} {E : Nat} {d : DT} {xs : List d.ty.den} {u : Value} {bs : List Nat} (h : OwnD Fz w E d xs u bs) : ∀ g, g ∈ bs → g < w.heap.size := by
 obtain ⟨cells, b2, rfl, ho, he⟩ := h
 exact DVH.lt (d := .row E d) (ho := []) (x := xs) (cs := [u]) (.inr ⟨rfl, u, cells, b2, rfl, rfl, ho, he⟩)
theorem DeepR.lt {Fz : Nat → Prop} {E : Nat} {d : DT} {xs : List d.ty.den} {u : Value} {bs : List Nat} (h : DeepR Fz w E d xs u bs) : ∀ g, g ∈ bs → g < w.heap.size := fun g hg => by
 obtain ⟨b, h1, h2⟩ := h
 exact h1.lt g (h2.mem_iff.1 hg)
/-- A block list of a deep row, as the table has it. -/
theorem DeepR.ex {Fz : Nat → Prop} {E : Nat} {d : DT} {xs : List d.ty.den} {u : Value} {bs : List Nat} (h : DeepR Fz w E d xs u bs) : ∃ cells b2, w.ownsRow 0 E d.ty.sz u xs.length cells ∧ Elts (fun _ => DVH Fz w [] d) 0 xs cells b2 ∧ bs.Perm ((vblk u).toList ++ b2) := by
 obtain ⟨b, ⟨cells, b2, rfl, h1, h2⟩, hp⟩ := h
 exact ⟨cells, b2, h1, h2, hp⟩
theorem sz_pos : ∀ t : Ty, 0 < t.sz := by
 intro t
 induction t with
 | st t ih => exact ih
 | pair a b iha ihb => show 0 < a.sz + b.sz; omega
 | _ => exact Nat.one_pos
/-- The heads of a block that comes are what they are. -/
theorem heads_of {i : Nat} {d : DT} {n : Nat} {cells : List Value} (hl : cells.length = n * d.ty.sz) (hh : C.hd i = fun k off => cells.getD (k * d.ty.sz + off) undef) : Heads C i d n cells := by
 intro k off h1 h2 _
 have hlt : k * d.ty.sz + off < cells.length := by
  have : (k + 1) * d.ty.sz ≤ n * d.ty.sz := Nat.mul_le_mul_right _ h1
  rw [Nat.succ_mul] at this
  omega
 rw [hh]
 show _ = some (cells.getD (k * d.ty.sz + off) undef)
 rw [List.getElem?_eq_getElem hlt, List.getD_eq_getElem?_getD, List.getElem?_eq_getElem hlt]
 rfl
theorem lay_deep {D : Nat → Prop} {m : Mem} {n E : Nat} {d : DT} {xs : List d.ty.den} {u : Value} {bs : List Nat} (fx : Bool) (hm : RelM D C w m) (hn : mget m n = none) (hx : DeepR C.Fz w E d xs u bs) (hnd : bs.Nodup) (hs : Sepd C m bs)
  (hd : ∀ g, g ∈ bs → ¬ C.Fz g ∧ D g) : ∃ l hh0, Laid D C w m n 1 bs (C.addD n u l hh0) (mput m n (.deep E d xs fx [])) := by
 obtain ⟨cells, b2, h1, h2, hp⟩ := hx.ex
 have hmem : ∀ g, g ∈ (vblk u).toList ++ b2 → g ∈ bs := fun g hg => hp.mem_iff.2 hg
 refine ⟨b2, fun k off => cells.getD (k * d.ty.sz + off) undef, lay_oneD hm hn hmem hs hx.one ?_⟩
 refine ⟨⟨cells, b2, by rw [Ctx.addD_σ]; exact h1, h2, by rw [Ctx.addD_ex], fun _ => heads_of h1.1 (Ctx.addD_hd _ _ _ _ _)⟩, by rw [Ctx.addD_fp]; exact hp.nodup_iff.1 hnd, fun g hg => ?_, fun p hp => (by cases hp), List.nodup_nil, fun p hp => (by cases hp)⟩
 rw [Ctx.addD_fp] at hg
 exact ⟨(hd g (hmem g hg)).1, (hd g (hmem g hg)).2, hx.lt g (hmem g hg)⟩
theorem mkCells_rel {D : Nat → Prop} : ∀ {cs : List CS} {x : CS.dens cs} {m : Mem} {n : Nat} {C : Ctx} {us : List Value} {bs : List Nat}, RelM D C w m → CSsR C.Fz w cs x us bs → bs.Nodup → (∀ g, g ∈ bs → ¬ C.Fz g ∧ D g) → Sepd C m bs → Free m n (cntC cs) →
  ∃ C', Laid D C w m n (cntC cs) bs C' (mkCells cs x m n).2.1 ∧ All2 (CRel C' w) (mkCells cs x m n).1 us ∧ (mkCells cs x m n).2.2 = n + cntC cs
 | [], x, m, n, C, us, bs, hm, h, _, _, _, _ => by
  obtain ⟨rfl, rfl⟩ := h
  exact ⟨C, Laid.refl hm, trivial, rfl⟩
 | .sc t :: r, x, m, n, C, us, bs, hm, h, hn, hd, hs, hf => by
  obtain ⟨u1, u2, rfl, hk, hr⟩ := h
  obtain ⟨C', h1, h2, h3⟩ := mkCells_rel hm hr hn hd hs hf
  exact ⟨C', h1, ((KF.cells hk).imp fun _ _ hh => CRel.move h1.le (fun _ _ _ => rfl) hh).append h2, h3⟩
 | .own E t :: r, x, m, n, C, us, bs, hm, h, hn, hd, hs, hf => by
  obtain ⟨u, u2, b2, rfl, rfl, ho, hr⟩ := h
  have e0 : cntC (.own E t :: r) = cntC r + 1 := rfl
  have hn0 : mget m n = none := hf n (Nat.le_refl _) (by omega)
  have hl := lay_own (bs := (vblk u).toList) hm hn0 ho (fun g hg => by rw [hg]; simp) (fun j c hj hl g hg hh => hs j c hj hl g hg (List.mem_append.2 (.inl hh))) (fun g hg => hd g (List.mem_append.2 (.inl hg)))
  obtain ⟨C', h1, h2, h3⟩ := mkCells_rel (n := n + 1) hl.rel hr (List.nodup_append.1 hn).2.1 (fun g hg => hd g (List.mem_append.2 (.inr hg))) (hl.sepd hs hn)
   (fun i hi hj => by rw [hl.keep i (by omega)]; exact hf i (by omega) (by omega))
  have ht := hl.trans h1 rfl
  refine ⟨C', by rw [show cntC (.own E t :: r) = 1 + cntC r by omega]; exact ht, ⟨?_, h2⟩, ?_⟩
  ·have hdm : (C.add n u).Dm n := .inr rfl
   exact ⟨h1.le.Dm n hdm, by rw [h1.le.σ n hdm, Ctx.add_σ]⟩
  ·show (mkCells r x.2 (mput m n (.row E t x.1)) (n + 1)).2.2 = _
   rw [h3]
   omega
 | .deep E d :: r, x, m, n, C, us, bs, hm, h, hn, hd, hs, hf => by
  obtain ⟨u, u2, b1, b2, rfl, rfl, ho, hr⟩ := h
  have e0 : cntC (.deep E d :: r) = cntC r + 1 := rfl
  have hn0 : mget m n = none := hf n (Nat.le_refl _) (by omega)
  obtain ⟨l, hh0, hl⟩ := lay_deep (bs := b1) false hm hn0 ho (List.nodup_append.1 hn).1 (fun j c hj hl g hg hh => hs j c hj hl g hg (List.mem_append.2 (.inl hh))) (fun g hg => hd g (List.mem_append.2 (.inl hg)))
  obtain ⟨C', h1, h2, h3⟩ := mkCells_rel (n := n + 1) hl.rel hr (List.nodup_append.1 hn).2.1 (fun g hg => hd g (List.mem_append.2 (.inr hg))) (hl.sepd hs hn)
   (fun i hi hj => by rw [hl.keep i (by omega)]; exact hf i (by omega) (by omega))
  have ht := hl.trans h1 rfl
  refine ⟨C', by rw [show cntC (.deep E d :: r) = 1 + cntC r by omega]; exact ht, ⟨?_, h2⟩, ?_⟩
  ·have hdm : (C.addD n u l hh0).Dm n := .inr rfl
   exact ⟨h1.le.Dm n hdm, by rw [h1.le.σ n hdm, Ctx.addD_σ]⟩
  ·show (mkCells r x.2 (mput m n (.deep E d x.1 false [])) (n + 1)).2.2 = _
   rw [h3]
   omega
theorem mkV_rel {D : Nat → Prop} : ∀ {v : VS} {x : v.den} {m : Mem} {n : Nat} {C : Ctx} {u : Value} {bs : List Nat}, RelM D C w m → VSR C.Fz w v x u bs → bs.Nodup → (∀ g, g ∈ bs → ¬ C.Fz g ∧ D g) → Sepd C m bs → Free m n (cntV v) →
  ∃ C', Laid D C w m n (cntV v) bs C' (mkV v x m n).2.1 ∧ VRel C' w (mkV v x m n).1 u ∧ (mkV v x m n).2.2 = n + cntV v := by
 intro v x m n C u bs hm h hn hd hs hf
 cases v with
 | val t =>
  obtain ⟨rfl, h⟩ := h
  refine ⟨C, Laid.refl hm, ?_, rfl⟩
  show VRel C w (bif t.isSt then .agg (t.cells x) else .one ((t.cells x).headD .junk)) u
  rcases h with ⟨ht, arr, rfl, hk⟩ | ⟨ht, hk⟩
  ·rw [ht]
   exact ⟨arr, rfl, KF.cells hk⟩
  ·rw [ht]
   have hc := KF.cells hk
   cases hl : t.cells x with
   | nil => rw [hl] at hc; exact hc.elim
   | cons c r => rw [hl] at hc; exact hc.1
 | own E t =>
  obtain ⟨rfl, h⟩ := h
  have e0 : cntV (.own E t) = 1 := rfl
  have hn0 : mget m n = none := hf n (Nat.le_refl _) (by omega)
  have hl := lay_own (bs := (vblk u).toList) hm hn0 h (fun g hg => by rw [hg]; simp) hs hd
  exact ⟨_, hl, ⟨.inr rfl, (Ctx.add_σ _ _ _).symm⟩, rfl⟩
 | eat E t =>
  obtain ⟨rfl, h⟩ := h
  have e0 : cntV (.eat E t) = 1 := rfl
  have hn0 : mget m n = none := hf n (Nat.le_refl _) (by omega)
  have hl := lay_own (bs := (vblk u).toList) hm hn0 h (fun g hg => by rw [hg]; simp) hs hd
  exact ⟨_, hl, ⟨.inr rfl, (Ctx.add_σ _ _ _).symm⟩, rfl⟩
 | box T cs off =>
  obtain ⟨g, arr, b2, rfl, rfl, hh, hr⟩ := h
  have e0 : cntV (.box T cs off) = cntC cs + 1 := rfl
  obtain ⟨hg1, hg2⟩ := List.nodup_cons.1 hn
  obtain ⟨C', h1, h2, h3⟩ := mkCells_rel (n := n + 1) hm hr hg2 (fun g hg => hd g (List.mem_cons_of_mem _ hg)) (fun j c hj hl g' hg' hh' => hs j c hj hl g' hg' (List.mem_cons_of_mem _ hh')) (hf.part (by omega) (by omega))
  have hn0 : mget (mkCells cs x m (n + 1)).2.1 n = none := by rw [h1.keep n (by omega)]; exact hf n (Nat.le_refl _) (by omega)
  have hni : ¬ C'.Dm n := fun hd => by
   have := (h1.rel.dm n).1 hd
   rw [hn0] at this
   cases this
  have hl := lay_one (bs := [g]) (b := .box T (mkCells cs x m (n + 1)).1) (u := .pointer (some ⟨g, 0, none⟩)) h1.rel hn0 (fun g' hg' => by simp [vblk] at hg'; simp [hg'])
   (fun j c hj hlv g' hg' hh' => by
    have := List.mem_singleton.1 hh'
    subst this
    rcases h1.sep j c hj hlv g' hg' with hq | ⟨hq1, hq2⟩
    ·exact hg1 hq
    ·exact hs j c hq1 hlv g' hq2 List.mem_cons_self) rfl
   ⟨⟨g, arr, Ctx.add_σ _ _ _, hh, h2.imp fun _ _ hq => CRel.move (Ctx.add_le hni) (fun _ _ _ => rfl) hq, by rw [show (C'.add n _).Fz = C'.Fz from rfl, h1.fz]; exact (hd g List.mem_cons_self).1, (hd g List.mem_cons_self).2⟩, Ctx.add_ex _ _ _⟩
  refine ⟨_, ⟨h1.le.trans hl.le, hl.fz.trans h1.fz, hl.rel, fun i hi => ?_, fun j c hj hlv g' hg' => ?_⟩, ⟨.inr rfl, g, Ctx.add_σ _ _ _, rfl⟩, ?_⟩
  ·have e1 := hl.keep i (fun hq => hi ⟨by omega, by omega⟩)
   have e2 := h1.keep i (fun hq => hi ⟨by omega, by omega⟩)
   exact e1.trans e2
  ·rcases hl.sep j c hj hlv g' hg' with hq | ⟨hq1, hq2⟩
   ·have := List.mem_singleton.1 hq
    subst this
    exact .inl List.mem_cons_self
   ·rcases h1.sep j c hq1 hlv g' hq2 with hq | hq
    ·exact .inl (List.mem_cons_of_mem _ hq)
    ·exact .inr hq
  ·show (mkCells cs x m (n + 1)).2.2 = _
   rw [h3]
   omega
 | mp =>
  obtain ⟨g, ents, ck, rfl, rfl, hh, hr⟩ := h
  have e0 : cntV .mp = 1 := rfl
  have hn0 : mget m n = none := hf n (Nat.le_refl _) (by omega)
  have hl := lay_one (bs := [g]) (b := .mp x) (u := .map (some g)) hm hn0 (fun g' hg' => by simp [vblk] at hg'; simp [hg']) hs rfl
   ⟨⟨g, ents, ck, Ctx.add_σ _ _ _, hh, hr, (hd g List.mem_cons_self).1, (hd g List.mem_cons_self).2⟩, Ctx.add_ex _ _ _⟩
  exact ⟨_, hl, ⟨.inr rfl, (Ctx.add_σ _ _ _).symm⟩, rfl⟩
 | rc cs =>
  obtain ⟨arr, rfl, hr⟩ := h
  obtain ⟨C', h1, h2, h3⟩ := mkCells_rel (n := n) hm hr hn hd hs hf
  exact ⟨C', h1, ⟨arr, rfl, h2⟩, h3⟩
 | deep E d fx =>
  have e0 : cntV (.deep E d fx) = 1 := rfl
  have hn0 : mget m n = none := hf n (Nat.le_refl _) (by omega)
  obtain ⟨l, hh0, hl⟩ := lay_deep fx hm hn0 h hn hs hd
  exact ⟨_, hl, ⟨.inr rfl, (Ctx.addD_σ _ _ _ _ _).symm⟩, rfl⟩
 | lent cs =>
  obtain ⟨arr, rfl, hr⟩ := h
  obtain ⟨C', h1, h2, h3⟩ := mkCells_rel (n := n) hm hr hn hd hs hf
  exact ⟨C', h1, ⟨arr, rfl, h2⟩, h3⟩
theorem mkVs_rel {D : Nat → Prop} : ∀ {vs : List VS} {x : VS.dens vs} {m : Mem} {n : Nat} {C : Ctx} {us : List Value} {bs : List Nat}, RelM D C w m → VSsR C.Fz w vs x us bs → bs.Nodup → (∀ g, g ∈ bs → ¬ C.Fz g ∧ D g) → Sepd C m bs → Free m n (cntVs vs) →
  ∃ C', Laid D C w m n (cntVs vs) bs C' (mkVs vs x m n).2.1 ∧ All2 (VRel C' w) (mkVs vs x m n).1 us ∧ (mkVs vs x m n).2.2 = n + cntVs vs
 | [], x, m, n, C, us, bs, hm, h, _, _, _, _ => by
  obtain ⟨rfl, rfl⟩ := h
  exact ⟨C, Laid.refl hm, trivial, rfl⟩
 | v :: r, x, m, n, C, us, bs, hm, h, hn, hd, hs, hf => by
  obtain ⟨u, u2, b1, b2, rfl, rfl, hv, hr⟩ := h
  have e0 : cntVs (v :: r) = cntV v + cntVs r := rfl
  obtain ⟨C1, h1, h2, h3⟩ := mkV_rel hm hv (List.nodup_append.1 hn).1 (fun g hg => hd g (List.mem_append.2 (.inl hg))) (fun j c hj hl g hg hh => hs j c hj hl g hg (List.mem_append.2 (.inl hh))) (hf.part (Nat.le_refl _) (by omega))
  obtain ⟨C2, g1, g2, g3⟩ := mkVs_rel (n := n + cntV v) h1.rel (by rw [h1.fz]; exact hr) (List.nodup_append.1 hn).2.1 (fun g hg => by rw [h1.fz]; exact hd g (List.mem_append.2 (.inr hg))) (h1.sepd hs hn)
   (fun i hi hj => by rw [h1.keep i (by omega)]; exact hf i (by omega) (by omega))
  rw [← h3] at g1 g2 g3
  have ht := h1.trans g1 h3
  exact ⟨C2, ht, ⟨VRel.move g1.le (fun _ _ _ => rfl) h2, g2⟩, by
   show (mkVs r x.2 (mkV v x.1 m n).2.1 (mkV v x.1 m n).2.2).2.2 = _
   rw [g3, h3]
   omega⟩
end Go.Ev
namespace Go.Ev
variable {P : Program} {e : Env} {Γ : Actv} {C : Ctx} {s : St} {a : Act} {w : World}
/-! ### Blocks leave the table, and come back -/
theorem kill_get : ∀ (os : List Nat) (m : Mem) (i : Nat), mget (kill m os) i = if i ∈ os then some .dead else mget m i
 | [], m, i => by simp [kill]
 | o :: r, m, i => by
  rw [kill, kill_get r, mget_mput]
  by_cases h1 : i ∈ r
  ·simp [h1]
  ·by_cases h2 : i = o
   ·simp [h2]
   ·simp [h1, h2]
theorem kill_rel {D : Nat → Prop} {m : Mem} {os : List Nat} (hm : RelM D C w m) (hl : Lives m os) : RelM D C w (kill m os) ∧ Sepd C (kill m os) (blks C os) ∧ (∀ i, mget m i = none → mget (kill m os) i = none) := by
 have hlive : ∀ {i b}, mget (kill m os) i = some b → live b = true → i ∉ os ∧ mget m i = some b := fun {i b} hi hb => by
  rw [kill_get] at hi
  by_cases h1 : i ∈ os
  ·rw [if_pos h1] at hi; cases hi; cases hb
  ·rw [if_neg h1] at hi; exact ⟨h1, hi⟩
 refine ⟨⟨fun i b hi => ?_, fun i j b c hi hj hb hc => ?_, fun i => ?_, hm.one⟩, fun j c hj hc g hg hh => ?_, fun i hi => ?_⟩
 ·rw [kill_get] at hi
  by_cases h1 : i ∈ os
  ·rw [if_pos h1] at hi; cases hi; trivial
  ·rw [if_neg h1] at hi; exact hm.blk i b hi
 ·exact hm.inj i j b c (hlive hi hb).2 (hlive hj hc).2 hb hc
 ·rw [hm.dm, kill_get]
  by_cases h1 : i ∈ os
  ·obtain ⟨b, hb, _⟩ := hl i h1
   rw [if_pos h1, hb]
   simp
  ·rw [if_neg h1]
 ·obtain ⟨h1, h2⟩ := hlive hj hc
  obtain ⟨o, ho, hgo⟩ := mem_blks.1 hh
  obtain ⟨b, hb, hlb⟩ := hl o ho
  exact hm.inj j o c b h2 hb hc hlb (fun hq => h1 (hq ▸ ho)) g hg hgo
 ·rw [kill_get, if_neg (fun h1 => by obtain ⟨b, hb, _⟩ := hl i h1; rw [hb] at hi; cases hi)]
  exact hi
/-- Another world, more that is frozen: the table stands where its live blocks were not touched. -/
theorem RelM.world {D : Nat → Prop} {m : Mem} {C2 : Ctx} {w' : World} {X : Nat → Prop} (hm : RelM D C w m) (hch : Ch w w' X) (hX : ∀ k, C.Fz k → ¬ X k) (hσ : C2.σ = C.σ) (hD : C2.Dm = C.Dm) (hE : C2.ex = C.ex) (hH : C2.hd = C.hd) (hF : ∀ k, C.Fz k → C2.Fz k)
  (hl : ∀ j c, mget m j = some c → live c = true → ∀ g, g ∈ C.fp j → ¬ X g ∧ ¬ C2.Fz g) : RelM D C2 w' m := by
 have hle : CLe C C2 := ⟨fun i _ => by rw [hσ], hF, fun i hi => by rw [hD]; exact hi, fun i _ => by rw [hH]⟩
 refine ⟨fun i b hi => ?_, fun i j b c hi hj hb hc hij g hg => ?_, fun i => by rw [hD]; exact hm.dm i, fun i hi => by rw [hσ]; exact hm.one i (by rw [← hD]; exact hi)⟩
 ·have hd : C.Dm i := (hm.dm i).2 (by rw [hi]; rfl)
  refine BRel.move hle (fun k hf hk => hch.block k hk (hX k hf)) hch.size hd (by rw [hE]) (fun hlv g hg => ?_) (hm.blk i b hi)
  obtain ⟨h1, h2⟩ := hl i b hi hlv g hg
  exact ⟨hch.block g ((hm.blk i b hi).lt hlv hg) h1, h2⟩
 ·have hfp : ∀ k, C2.fp k = C.fp k := fun k => by
   unfold Ctx.fp
   rw [hσ, hE]
  rw [hfp] at hg ⊢
  exact hm.inj i j b c hi hj hb hc hij g hg
def cntBk : List VS → Nat
 | [] => 0
 | .box _ cs _ :: r => cntC cs + cntBk r
 | _ :: r => cntBk r
def backVals : List VS → List Value → List Value
 | [], _ => []
 | _ :: _, [] => []
 | .val _ :: r, _ :: l => backVals r l
 | .eat _ _ :: r, _ :: l => backVals r l
 | .rc _ :: r, _ :: l => backVals r l
 | _ :: r, u :: l => u :: backVals r l
theorem mkCells_cnt : ∀ (cs : List CS) (x : CS.dens cs) (m : Mem) (n : Nat), (mkCells cs x m n).2.2 = n + cntC cs
 | [], _, _, _ => rfl
 | .sc t :: r, x, m, n => mkCells_cnt r x.2 m n
 | .own E t :: r, x, m, n => by
  show (mkCells r x.2 (mput m n (.row E t x.1)) (n + 1)).2.2 = _
  rw [mkCells_cnt r]
  have e0 : cntC (.own E t :: r) = cntC r + 1 := rfl
  omega
 | .deep E d :: r, x, m, n => by
  show (mkCells r x.2 (mput m n (.deep E d x.1 false [])) (n + 1)).2.2 = _
  rw [mkCells_cnt r]
  have e0 : cntC (.deep E d :: r) = cntC r + 1 := rfl
  omega
theorem mkV_cnt : ∀ (v : VS) (x : v.den) (m : Mem) (n : Nat), (mkV v x m n).2.2 = n + cntV v
 | .val _, _, _, _ => rfl
 | .own _ _, _, _, _ => rfl
 | .eat _ _, _, _, _ => rfl
 | .box T cs off, x, m, n => by
  show (mkCells cs x m (n + 1)).2.2 = _
  rw [mkCells_cnt cs]
  have e0 : cntV (.box T cs off) = cntC cs + 1 := rfl
  omega
 | .mp, _, _, _ => rfl
 | .rc cs, x, m, n => mkCells_cnt cs x m n
 | .deep _ _ _, _, _, _ => rfl
 | .lent cs, x, m, n => mkCells_cnt cs x m n
theorem mkVs_cnt : ∀ (vs : List VS) (x : VS.dens vs) (m : Mem) (n : Nat), (mkVs vs x m n).2.2 = n + cntVs vs
 | [], _, _, _ => rfl
 | v :: r, x, m, n => by
  show (mkVs r x.2 (mkV v x.1 m n).2.1 (mkV v x.1 m n).2.2).2.2 = _
  rw [mkVs_cnt r, mkV_cnt]
  have e0 : cntVs (v :: r) = cntV v + cntVs r := rfl
  omega
theorem putBacks_cnt : ∀ {ps : List VS} {m : Mem} {n : Nat} {l : List Vl} {x : VS.dens (backs ps)} {m' : Mem} {n' : Nat}, putBacks m n ps l x = some (m', n') → n' = n + cntBk ps
 | [], m, n, [], x, m', n', h => by cases h; rfl
 | .val _ :: r, m, n, c :: l, x, m', n', h => putBacks_cnt (ps := r) (m := m) (l := l) (m' := m') (x := x) (by cases c <;> exact h)
 | .eat _ _ :: r, m, n, c :: l, x, m', n', h => putBacks_cnt (ps := r) (m := m) (l := l) (m' := m') (x := x) (by cases c <;> exact h)
 | .rc _ :: r, m, n, c :: l, x, m', n', h => putBacks_cnt (ps := r) (m := m) (l := l) (m' := m') (x := x) (by cases c <;> exact h)
 | .own E t :: r, m, n, .one c :: l, x, m', n', h => by
  cases c <;> first | exact (putBacks_cnt (ps := r) (x := x.2) h) | cases h
 | .box T cs bo :: r, m, n, .one c :: l, x, m', n', h => by
  cases c <;> first | (cases h; done) | skip
  have := putBacks_cnt (ps := r) (x := x.2) h
  rw [mkCells_cnt] at this
  have e0 : cntBk (.box T cs bo :: r) = cntC cs + cntBk r := rfl
  omega
 | .mp :: r, m, n, .one c :: l, x, m', n', h => by
  cases c <;> first | exact (putBacks_cnt (ps := r) (x := x.2) h) | cases h
 | .deep E d _ :: r, m, n, .one c :: l, x, m', n', h => by
  cases c <;> first | exact (putBacks_cnt (ps := r) (x := x.2) h) | cases h
 | .lent cs :: r, m, n, .agg cells :: l, x, m', n', h => by
  simp only [putBacks] at h
  split at h
  ·exact putBacks_cnt (ps := r) (x := x.2) h
  ·cases h
/-- What is true behind some blocks' return. -/
structure Back (D : Nat → Prop) (C : Ctx) (w : World) (m : Mem) (n k : Nat) (bs : List Nat) (C' : Ctx) (m' : Mem) : Prop where
 le : CLe C C'
 fz : C'.Fz = C.Fz
 rel : RelM D C' w m'
 none : ∀ i, mget m i = none → ¬ (n ≤ i ∧ i < n + k) → mget m' i = none
 sep : ∀ j c, mget m' j = some c → live c = true → ∀ g, g ∈ C'.fp j → g ∈ bs ∨ (mget m j = some c ∧ g ∈ C.fp j)
theorem Laid.back {D : Nat → Prop} {C' : Ctx} {m m' : Mem} {n k : Nat} {bs : List Nat} (h : Laid D C w m n k bs C' m') : Back D C w m n k bs C' m' :=
 ⟨h.le, h.fz, h.rel, fun i hi hn => by rw [h.keep i hn]; exact hi, h.sep⟩
theorem Back.trans {D : Nat → Prop} {C1 C2 : Ctx} {m m1 m2 : Mem} {n k n' k' : Nat} {bs bs' : List Nat} (h : Back D C w m n k bs C1 m1) (h' : Back D C1 w m1 n' k' bs' C2 m2) (hn : n' = n + k) : Back D C w m n (k + k') (bs ++ bs') C2 m2 := by
 subst hn
 refine ⟨h.le.trans h'.le, h'.fz.trans h.fz, h'.rel, fun i hi hh => ?_, fun j c hj hl g hg => ?_⟩
 ·exact h'.none i (h.none i hi (fun hq => hh ⟨by omega, by omega⟩)) (fun hq => hh ⟨by omega, by omega⟩)
 ·rcases h'.sep j c hj hl g hg with hh | ⟨h1, h2⟩
  ·exact .inl (List.mem_append.2 (.inr hh))
  ·rcases h.sep j c h1 hl g h2 with hh | hh
   ·exact .inl (List.mem_append.2 (.inl hh))
   ·exact .inr hh
theorem Back.sepd {D : Nat → Prop} {C' : Ctx} {m m' : Mem} {n k : Nat} {b1 b2 : List Nat} (h : Back D C w m n k b1 C' m') (hs : Sepd C m (b1 ++ b2)) (hn : (b1 ++ b2).Nodup) : Sepd C' m' b2 := fun j c hj hl g hg hmem => by
 rcases h.sep j c hj hl g hg with hh | ⟨h1, h2⟩
 ·exact (List.nodup_append.1 hn).2.2 g hh g hmem rfl
 ·exact hs j c h1 hl g h2 (List.mem_append.2 (.inr hmem))
/-- A known block takes a new content. -/
def Ctx.setX (C : Ctx) (o : Nat) (l : List Nat) : Ctx := ⟨C.σ, C.Fz, C.Dm, fun j => if j = o then l else C.ex j, C.hd⟩
theorem Ctx.setX_le (C : Ctx) (o : Nat) (l : List Nat) : CLe C (C.setX o l) := ⟨fun _ _ => rfl, fun _ h => h, fun _ h => h, fun _ _ => rfl⟩
theorem Ctx.setX_fp (C : Ctx) (o : Nat) (l : List Nat) : (C.setX o l).fp o = (vblk (C.σ o)).toList ++ l := by simp [Ctx.fp, Ctx.setX]
theorem Ctx.setX_fpo (C : Ctx) (o : Nat) (l : List Nat) {j : Nat} (h : j ≠ o) : (C.setX o l).fp j = C.fp j := by simp [Ctx.fp, Ctx.setX, h]
theorem back_oneD {D : Nat → Prop} {m : Mem} {n o : Nat} {b : Bk} {bs l : List Nat} (hm : RelM D C w m) (ho : C.Dm o) (hv : ∀ g, g ∈ (vblk (C.σ o)).toList ++ l → g ∈ bs) (hs : Sepd C m bs) (hb : BRel D (C.setX o l) w o b) : Back D C w m n 0 bs (C.setX o l) (mput m o b) := by
 refine ⟨Ctx.setX_le C o l, rfl, ?_, fun i hi _ => ?_, fun j c hj hl g hg => ?_⟩
 ·exact RelM.put (X := fun _ => False) hm (Ctx.setX_le C o l) (Ch.refl w _) (fun _ _ hh => hh) (fun j c hj hl hji g hg => ⟨fun hh => hh, (hm.blk j c hj).nf hl hg |>.1⟩) hb (fun _ j c hj hl hji g hg hh => hs j c hj hl g hh (hv g (by rw [Ctx.setX_fp] at hg; exact hg)))
   (fun i => ⟨fun hh => .inl hh, fun hh => hh.elim id (fun hh => hh ▸ ho)⟩) (hm.one o ho) (fun j hj => if_neg hj)
 ·rw [mget_mput, if_neg (fun hh => by subst hh; have := (hm.dm i).1 ho; rw [hi] at this; cases this)]
  exact hi
 ·rw [mget_mput] at hj
  by_cases hjo : j = o
  ·subst hjo
   rw [Ctx.setX_fp] at hg
   exact .inl (hv g hg)
  ·rw [if_neg hjo] at hj
   rw [Ctx.setX_fpo C o l hjo] at hg
   exact .inr ⟨hj, hg⟩
theorem back_one {D : Nat → Prop} {m : Mem} {n o : Nat} {b : Bk} {bs : List Nat} (hm : RelM D C w m) (ho : C.Dm o) (hv : ∀ g, vblk (C.σ o) = some g → g ∈ bs) (hs : Sepd C m bs) (hb : BRel D (C.setX o []) w o b) : Back D C w m n 0 bs (C.setX o []) (mput m o b) :=
 back_oneD hm ho (fun g hg => by
  rw [List.append_nil] at hg
  cases hv' : vblk (C.σ o) with
  | none => rw [hv'] at hg; cases hg
  | some g' =>
   rw [hv'] at hg
   have := List.mem_singleton.1 hg
   subst this
   exact hv g hv') hs hb
/-- A known deep row takes a new content. -/
theorem back_deep {D : Nat → Prop} {m : Mem} {n o E : Nat} {d : DT} {xs : List d.ty.den} {bs : List Nat} (hm : RelM D C w m) (ho : C.Dm o) (hx : DeepR C.Fz w E d xs (C.σ o) bs) (hnd : bs.Nodup) (hd : ∀ g, g ∈ bs → ¬ C.Fz g ∧ D g) (hs : Sepd C m bs) : ∃ l, Back D C w m n 0 bs (C.setX o l) (mput m o (.deep E d xs false [])) := by
 obtain ⟨cells, b2, h1, h2, hp⟩ := hx.ex
 have hmem : ∀ g, g ∈ (vblk (C.σ o)).toList ++ b2 → g ∈ bs := fun g hg => hp.mem_iff.2 hg
 refine ⟨b2, back_oneD hm ho hmem hs ⟨⟨cells, b2, h1, h2, by simp [Ctx.setX], fun hh => by cases hh⟩, by rw [Ctx.setX_fp]; exact hp.nodup_iff.1 hnd, fun g hg => ?_, fun p hp => (by cases hp), List.nodup_nil, fun p hp => (by cases hp)⟩⟩
 rw [Ctx.setX_fp] at hg
 exact ⟨(hd g (hmem g hg)).1, (hd g (hmem g hg)).2, hx.lt g (hmem g hg)⟩
theorem back_own {D : Nat → Prop} {m : Mem} {n o E : Nat} {t : Ty} {xs : List t.den} (hm : RelM D C w m) (ho : C.Dm o) (hx : OwnR C.Fz w E t xs (C.σ o)) (hd : ∀ g, g ∈ (vblk (C.σ o)).toList → ¬ C.Fz g ∧ D g) (hs : Sepd C m (vblk (C.σ o)).toList) : Back D C w m n 0 (vblk (C.σ o)).toList (C.setX o []) (mput m o (.row E t xs)) := by
 obtain ⟨cells, h1, h2⟩ := hx
 exact back_one hm ho (fun g hg => by rw [hg]; simp) hs ⟨⟨cells, h1, h2, fun g hg => hd g (by rw [show vblk (C.σ o) = some g from hg]; simp)⟩, by simp [Ctx.setX]⟩
theorem putCells_rel {D : Nat → Prop} {n : Nat} : ∀ {cs : List CS} {m : Mem} {l : List CV} {x : CS.dens cs} {m' : Mem} {C : Ctx} {us : List Value} {bs : List Nat}, putCells m cs l x = some m' → RelM D C w m → All2 (CRel C w) l us → CSsR C.Fz w cs x us bs → bs.Nodup → (∀ g, g ∈ bs → ¬ C.Fz g ∧ D g) → Sepd C m bs → ∃ C', Back D C w m n 0 bs C' m'
 | [], m, [], x, m', C, us, bs, h, hm, _, hx, _, _, _ => by
  cases h
  obtain ⟨_, rfl⟩ := hx
  exact ⟨C, (Laid.refl hm).back⟩
 | .sc t :: r, m, l, x, m', C, us, bs, h, hm, hl, hx, hn, hd, hs => by
  obtain ⟨u1, u2, rfl, hk, hr⟩ := hx
  have h' : (bif Nat.ble t.sz l.length then putCells m r (l.drop t.sz) x.2 else none) = some m' := by cases l <;> exact h
  cases hb : Nat.ble t.sz l.length with
  | false => rw [hb] at h'; cases h'
  | true =>
   rw [hb] at h'
   have hdr := hl.drop t.sz
   rw [← hk.len, List.drop_left, hk.len] at hdr
   exact putCells_rel (cs := r) (x := x.2) h' hm hdr hr hn hd hs
 | .own E t :: r, m, c :: l, x, m', C, u :: us, bs, h, hm, hl, hx, hn, hd, hs => by
  obtain ⟨u', u2, b2, e1, rfl, hv, hr⟩ := hx
  obtain ⟨rfl, rfl⟩ := List.cons.inj e1
  cases c <;> first | (cases h; done) | skip
  ·have hu : u = .slice none 0 0 := hl.1
   subst hu
   exact putCells_rel (cs := r) (x := x.2) h hm hl.2 hr hn hd hs
  ·rename_i o
   obtain ⟨ho, rfl⟩ : C.Dm o ∧ u = C.σ o := hl.1
   have hb := back_own (n := n) (E := E) (t := t) (xs := x.1) hm ho hv (fun g hg => hd g (List.mem_append.2 (.inl hg))) (fun j c hj hl g hg hh => hs j c hj hl g hg (List.mem_append.2 (.inl hh)))
   obtain ⟨C', hC⟩ := putCells_rel (n := n) (cs := r) (x := x.2) h hb.rel (hl.2.imp fun _ _ hq => CRel.move hb.le (fun _ _ _ => rfl) hq) hr (List.nodup_append.1 hn).2.1 (fun g hg => hd g (List.mem_append.2 (.inr hg))) (hb.sepd hs hn)
   have := hb.trans hC rfl
   exact ⟨C', this⟩
 | .deep E d :: r, m, c :: l, x, m', C, u :: us, bs, h, hm, hl, hx, hn, hd, hs => by
  obtain ⟨u', u2, b1, b2, e1, rfl, hv, hr⟩ := hx
  obtain ⟨rfl, rfl⟩ := List.cons.inj e1
  cases c <;> first | (cases h; done) | skip
  ·have hu : u = .slice none 0 0 := hl.1
   exact putCells_rel (cs := r) (x := x.2) h hm hl.2 hr (List.nodup_append.1 hn).2.1 (fun g hg => hd g (List.mem_append.2 (.inr hg))) (fun j c hj hl g hg hh => hs j c hj hl g hg (List.mem_append.2 (.inr hh))) |>.imp fun C' hC => ⟨hC.le, hC.fz, hC.rel, hC.none, fun j c hj hl g hg => (hC.sep j c hj hl g hg).imp (fun hh => List.mem_append.2 (.inr hh)) id⟩
  ·rename_i o
   obtain ⟨ho, rfl⟩ : C.Dm o ∧ u = C.σ o := hl.1
   obtain ⟨ex, hb⟩ := back_deep (n := n) hm ho hv (List.nodup_append.1 hn).1 (fun g hg => hd g (List.mem_append.2 (.inl hg))) (fun j c hj hl g hg hh => hs j c hj hl g hg (List.mem_append.2 (.inl hh)))
   obtain ⟨C', hC⟩ := putCells_rel (n := n) (cs := r) (x := x.2) h hb.rel (hl.2.imp fun _ _ hq => CRel.move hb.le (fun _ _ _ => rfl) hq) hr (List.nodup_append.1 hn).2.1 (fun g hg => hd g (List.mem_append.2 (.inr hg))) (hb.sepd hs hn)
   have := hb.trans hC rfl
   exact ⟨C', this⟩
theorem putBacks_rel {D : Nat → Prop} : ∀ {ps : List VS} {m : Mem} {n : Nat} {l : List Vl} {x : VS.dens (backs ps)} {m' : Mem} {n' : Nat} {C : Ctx} {us : List Value} {bs : List Nat}, putBacks m n ps l x = some (m', n') → RelM D C w m → All2 (VRel C w) l us →
  VSsR C.Fz w (backs ps) x (backVals ps us) bs → bs.Nodup → (∀ g, g ∈ bs → ¬ C.Fz g ∧ D g) → Sepd C m bs → Free m n (cntBk ps) →
  ∃ C', Back D C w m n (cntBk ps) bs C' m'
 | [], m, n, [], x, m', n', C, us, bs, h, hm, _, hx, _, _, _, _ => by
  cases h
  obtain ⟨_, rfl⟩ := hx
  exact ⟨C, (Laid.refl hm).back⟩
 | .val _ :: r, m, n, c :: l, x, m', n', C, u :: us, bs, h, hm, hl, hx, hn, hd, hs, hf =>
  putBacks_rel (ps := r) (x := x) (n' := n') (by cases c <;> exact h) hm hl.2 hx hn hd hs hf
 | .eat _ _ :: r, m, n, c :: l, x, m', n', C, u :: us, bs, h, hm, hl, hx, hn, hd, hs, hf =>
  putBacks_rel (ps := r) (x := x) (n' := n') (by cases c <;> exact h) hm hl.2 hx hn hd hs hf
 | .rc _ :: r, m, n, c :: l, x, m', n', C, u :: us, bs, h, hm, hl, hx, hn, hd, hs, hf =>
  putBacks_rel (ps := r) (x := x) (n' := n') (by cases c <;> exact h) hm hl.2 hx hn hd hs hf
 | .own E t :: r, m, n, .one c :: l, x, m', n', C, u :: us, bs, h, hm, hl, hx, hn, hd, hs, hf => by
  obtain ⟨u', u2, b1, b2, e1, rfl, ⟨rfl, hv⟩, hr⟩ := hx
  have e2 : u :: backVals r us = u' :: u2 := e1
  obtain ⟨rfl, rfl⟩ := List.cons.inj e2
  cases c <;> first | (cases h; done) | skip
  · -- nil
   have hu : u = .slice none 0 0 := hl.1
   subst hu
   exact putBacks_rel (ps := r) (x := x.2) h hm hl.2 hr hn hd hs hf
  ·rename_i o
   obtain ⟨ho, rfl⟩ : C.Dm o ∧ u = C.σ o := hl.1
   have hb := back_own (n := n) (E := E) (t := t) (xs := x.1) hm ho hv (fun g hg => hd g (List.mem_append.2 (.inl hg))) (fun j c hj hl g hg hh => hs j c hj hl g hg (List.mem_append.2 (.inl hh)))
   obtain ⟨C', hC⟩ := putBacks_rel (ps := r) (x := x.2) h hb.rel (hl.2.imp fun _ _ hq => VRel.move hb.le (fun _ _ _ => rfl) hq) hr (List.nodup_append.1 hn).2.1 (fun g hg => hd g (List.mem_append.2 (.inr hg))) (hb.sepd hs hn) (fun i hi hj => hb.none i (hf i hi hj) (by omega))
   have := hb.trans hC rfl
   rw [Nat.zero_add] at this
   exact ⟨C', this⟩
 | .box T cs bo :: r, m, n, .one c :: l, x, m', n', C, u :: us, bs, h, hm, hl, hx, hn, hd, hs, hf => by
  have e0 : cntBk (.box T cs bo :: r) = cntC cs + cntBk r := rfl
  obtain ⟨u', u2, b1, b2, e1, rfl, ⟨g, arr, b3, hu, rfl, hh, hcs⟩, hr⟩ := hx
  have e2 : u :: backVals r us = u' :: u2 := e1
  obtain ⟨rfl, rfl⟩ := List.cons.inj e2
  cases c <;> first | (cases h; done) | skip
  rename_i b off
  obtain ⟨ho, g', hσ, hu'⟩ : C.Dm b ∧ ∃ g, C.σ b = .pointer (some ⟨g, 0, none⟩) ∧ u = .pointer (some ⟨g, off, none⟩) := hl.1
  rw [hu] at hu'
  cases hu'
  subst hu
  have hn1 : (g :: b3).Nodup := (List.nodup_append.1 hn).1
  have hs1 : Sepd C m (g :: b3) := fun j c hj hl g' hg hh => hs j c hj hl g' hg (List.mem_append.2 (.inl hh))
  have hd1 : ∀ k, k ∈ g :: b3 → ¬ C.Fz k ∧ D k := fun k hk => hd k (List.mem_append.2 (.inl hk))
  obtain ⟨hg1, hg2⟩ := List.nodup_cons.1 hn1
  obtain ⟨C1, q1, q2, q3⟩ := mkCells_rel (m := m) (n := n) hm hcs hg2 (fun k hk => hd1 k (List.mem_cons_of_mem _ hk)) (fun j c hj hl g' hg hh => hs1 j c hj hl g' hg (List.mem_cons_of_mem _ hh)) (hf.part (Nat.le_refl _) (by omega))
  have hb1 := q1.back
  have hσ1 : C1.σ b = .pointer (some ⟨g, 0, none⟩) := by rw [hb1.le.σ b ho]; exact hσ
  have hb2 := back_one (n := n + cntC cs) (b := .box T (mkCells cs x.1 m n).1) (bs := [g]) hb1.rel (hb1.le.Dm b ho) (fun k hk => by rw [hσ1] at hk; simp [vblk] at hk; simp [hk])
   (fun j c hj hlv k hk hh' => by
    have := List.mem_singleton.1 hh'
    subst this
    rcases hb1.sep j c hj hlv k hk with hq | ⟨hq1, hq2⟩
    ·exact hg1 hq
    ·exact hs1 j c hq1 hlv k hq2 List.mem_cons_self)
   ⟨⟨g, arr, hσ1, hh, q2.imp fun _ _ hq => CRel.move (Ctx.setX_le C1 b []) (fun _ _ _ => rfl) hq, by show ¬ C1.Fz g; rw [hb1.fz]; exact (hd1 g List.mem_cons_self).1, (hd1 g List.mem_cons_self).2⟩, by simp [Ctx.setX]⟩
  have hb3 := hb1.trans hb2 rfl
  have hperm : ∀ k, k ∈ b3 ++ [g] ↔ k ∈ g :: b3 := fun k => by simp [or_comm]
  have hb4 : Back D C w m n (cntC cs) (g :: b3) (C1.setX b []) (mput (mkCells cs x.1 m n).2.1 b (.box T (mkCells cs x.1 m n).1)) := ⟨hb3.le, hb3.fz, hb3.rel, hb3.none, fun j c hj hl k hk => (hb3.sep j c hj hl k hk).imp (hperm k).1 id⟩
  have h' : putBacks (mput (mkCells cs x.1 m n).2.1 b (.box T (mkCells cs x.1 m n).1)) (n + cntC cs) r l x.2 = some (m', n') := by rw [← q3]; exact h
  obtain ⟨C', hC⟩ := putBacks_rel (ps := r) (x := x.2) h' hb4.rel (hl.2.imp fun _ _ hq => VRel.move hb4.le (fun _ _ _ => rfl) hq) (by rw [hb4.fz]; exact hr) (List.nodup_append.1 hn).2.1
   (fun k hk => by rw [hb4.fz]; exact hd k (List.mem_append.2 (.inr hk))) (hb4.sepd hs hn) (fun i hi hj => hb4.none i (hf i (by omega) (by omega)) (by omega))
  exact ⟨C', hb4.trans hC rfl⟩
 | .mp :: r, m, n, .one c :: l, x, m', n', C, u :: us, bs, h, hm, hl, hx, hn, hd, hs, hf => by
  obtain ⟨u', u2, b1, b2, e1, rfl, ⟨g, ents, ck, hu, rfl, hh, hmp⟩, hr⟩ := hx
  have e2 : u :: backVals r us = u' :: u2 := e1
  obtain ⟨rfl, rfl⟩ := List.cons.inj e2
  cases c <;> first | (cases h; done) | skip
  rename_i o
  obtain ⟨ho, hu2⟩ : C.Dm o ∧ u = C.σ o := hl.1
  have hσ : C.σ o = .map (some g) := by rw [← hu2]; exact hu
  have hb := back_one (n := n) (b := .mp x.1) (bs := [g]) hm ho (fun k hk => by rw [hσ] at hk; simp [vblk] at hk; simp [hk]) (fun j c hj hl g hg hh => hs j c hj hl g hg (List.mem_append.2 (.inl hh)))
   ⟨⟨g, ents, ck, hσ, hh, hmp, (hd g (List.mem_append.2 (.inl List.mem_cons_self))).1, (hd g (List.mem_append.2 (.inl List.mem_cons_self))).2⟩, by simp [Ctx.setX]⟩
  obtain ⟨C', hC⟩ := putBacks_rel (ps := r) (x := x.2) h hb.rel (hl.2.imp fun _ _ hq => VRel.move hb.le (fun _ _ _ => rfl) hq) hr (List.nodup_append.1 hn).2.1 (fun g hg => hd g (List.mem_append.2 (.inr hg))) (hb.sepd hs hn) (fun i hi hj => hb.none i (hf i hi hj) (by omega))
  have := hb.trans hC rfl
  rw [Nat.zero_add] at this
  exact ⟨C', this⟩
 | .deep E d _ :: r, m, n, .one c :: l, x, m', n', C, u :: us, bs, h, hm, hl, hx, hn, hd, hs, hf => by
  obtain ⟨u', u2, b1, b2, e1, rfl, hv, hr⟩ := hx
  have e2 : u :: backVals r us = u' :: u2 := e1
  obtain ⟨rfl, rfl⟩ := List.cons.inj e2
  cases c <;> first | (cases h; done) | skip
  ·obtain ⟨C', hC⟩ := putBacks_rel (ps := r) (x := x.2) h hm hl.2 hr (List.nodup_append.1 hn).2.1 (fun g hg => hd g (List.mem_append.2 (.inr hg))) (fun j c hj hl g hg hh => hs j c hj hl g hg (List.mem_append.2 (.inr hh))) hf
   exact ⟨C', hC.le, hC.fz, hC.rel, hC.none, fun j c hj hl g hg => (hC.sep j c hj hl g hg).imp (fun hh => List.mem_append.2 (.inr hh)) id⟩
  ·rename_i o
   obtain ⟨ho, rfl⟩ : C.Dm o ∧ u = C.σ o := hl.1
   obtain ⟨ex, hb⟩ := back_deep (n := n) hm ho hv (List.nodup_append.1 hn).1 (fun g hg => hd g (List.mem_append.2 (.inl hg))) (fun j c hj hl g hg hh => hs j c hj hl g hg (List.mem_append.2 (.inl hh)))
   obtain ⟨C', hC⟩ := putBacks_rel (ps := r) (x := x.2) h hb.rel (hl.2.imp fun _ _ hq => VRel.move hb.le (fun _ _ _ => rfl) hq) hr (List.nodup_append.1 hn).2.1 (fun g hg => hd g (List.mem_append.2 (.inr hg))) (hb.sepd hs hn) (fun i hi hj => hb.none i (hf i hi hj) (by omega))
   have := hb.trans hC rfl
   rw [Nat.zero_add] at this
   exact ⟨C', this⟩
 | .lent cs :: r, m, n, .agg cells :: l, x, m', n', C, u :: us, bs, h, hm, hl, hx, hn, hd, hs, hf => by
  obtain ⟨u', u2, b1, b2, e1, rfl, ⟨arr, hu, hv⟩, hr⟩ := hx
  have e2 : u :: backVals r us = u' :: u2 := e1
  obtain ⟨rfl, rfl⟩ := List.cons.inj e2
  obtain ⟨arr', hu', hcl⟩ : ∃ arr : Array Value, u = .agg arr ∧ All2 (CRel C w) cells arr.toList := hl.1
  rw [hu] at hu'
  cases hu'
  simp only [putBacks] at h
  split at h
  ·rename_i m1 hm1
   obtain ⟨C1, hb⟩ := putCells_rel (n := n) hm1 hm hcl hv (List.nodup_append.1 hn).1 (fun g hg => hd g (List.mem_append.2 (.inl hg))) (fun j c hj hl g hg hh => hs j c hj hl g hg (List.mem_append.2 (.inl hh)))
   obtain ⟨C', hC⟩ := putBacks_rel (ps := r) (x := x.2) h hb.rel (hl.2.imp fun _ _ hq => VRel.move hb.le (fun _ _ _ => rfl) hq) (by rw [hb.fz]; exact hr) (List.nodup_append.1 hn).2.1 (fun g hg => by rw [hb.fz]; exact hd g (List.mem_append.2 (.inr hg))) (hb.sepd hs hn) (fun i hi hj => hb.none i (hf i hi hj) (by omega))
   have := hb.trans hC rfl
   rw [Nat.zero_add] at this
   exact ⟨C', this⟩
  ·cases h
end Go.Ev
