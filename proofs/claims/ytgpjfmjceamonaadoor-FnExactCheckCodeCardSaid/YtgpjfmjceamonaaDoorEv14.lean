/-
  The abstract evaluator: calls by contract.
-/
import Derived.Test.YtgpjfmjceamonaaDoorEv13
namespace Go.Ev
variable {P : Program} {e : Env} {Γ : Actv} {C : Ctx} {s : St} {a : Act} {w : World}

/-! ### Flat data leads nowhere -/
theorem KF.flat {Fz Fz' : Nat → Prop} : ∀ {t : Ty} {x : t.den} {cs : List Value}, flatTy t = true → KF Fz w t x cs → KF Fz' w t x cs
  | .int _, _, _, _, h => h
  | .bool, _, _, _, h => h
  | .str, _, _, _, h => h
  | .flt, _, _, _, h => h
  | .st t, x, cs, hf, h => KF.flat (t := t) (x := x) (cs := cs) hf h
  | .pair a b, x, cs, hf, h => by
    have hf' : (flatTy a && flatTy b) = true := hf
    rw [Bool.and_eq_true] at hf'
    obtain ⟨c1, c2, e1, h1, h2⟩ := h
    exact ⟨c1, c2, e1, KF.flat hf'.1 h1, KF.flat hf'.2 h2⟩
  | .row _, _, _, hf, _ => by cases hf

theorem OwnR.flat {Fz Fz' : Nat → Prop} {E : Nat} {t : Ty} {xs : List t.den} {u : Value} (hf : flatTy t = true) (h : OwnR Fz w E t xs u) : OwnR Fz' w E t xs u := by
  obtain ⟨cells, h1, h2⟩ := h
  refine ⟨cells, h1, fun i x hi => ?_⟩
  obtain ⟨es, hk, hc⟩ := h2 i x hi
  exact ⟨es, hk.flat hf, hc⟩

theorem CSsR.flat {Fz Fz' : Nat → Prop} : ∀ {cs : List CS} {x : CS.dens cs} {us : List Value} {bs : List Nat}, cs.all flatCS = true → CSsR Fz w cs x us bs → CSsR Fz' w cs x us bs
  | [], _, _, _, _, h => h
  | .sc t :: r, x, us, bs, hf, h => by
    rw [List.all_cons, Bool.and_eq_true] at hf
    obtain ⟨u1, u2, e1, hk, hr⟩ := h
    exact ⟨u1, u2, e1, hk.flat hf.1, CSsR.flat hf.2 hr⟩
  | .own E t :: r, x, us, bs, hf, h => by
    rw [List.all_cons, Bool.and_eq_true] at hf
    obtain ⟨u, u2, b2, e1, e2, ho, hr⟩ := h
    exact ⟨u, u2, b2, e1, e2, ho.flat hf.1, CSsR.flat hf.2 hr⟩

theorem VSR.flat {Fz Fz' : Nat → Prop} : ∀ {v : VS} {x : v.den} {u : Value} {bs : List Nat}, flatVS v = true → VSR Fz w v x u bs → VSR Fz' w v x u bs
  | .val _, _, _, _, hf, ⟨h1, h2⟩ => ⟨h1, h2.imp (fun ⟨h3, arr, h4, h5⟩ => ⟨h3, arr, h4, h5.flat hf⟩) fun ⟨h3, h4⟩ => ⟨h3, h4.flat hf⟩⟩
  | .own _ _, _, _, _, hf, ⟨h1, h2⟩ => ⟨h1, h2.flat hf⟩
  | .eat _ _, _, _, _, hf, ⟨h1, h2⟩ => ⟨h1, h2.flat hf⟩
  | .box _ _, _, _, _, hf, ⟨g, arr, b2, h1, h2, h3, h4⟩ => ⟨g, arr, b2, h1, h2, h3, h4.flat hf⟩
  | .mp, _, _, _, _, h => h
  | .rc _, _, _, _, hf, ⟨arr, h1, h2⟩ => ⟨arr, h1, h2.flat hf⟩

theorem VSsR.flat {Fz Fz' : Nat → Prop} : ∀ {vs : List VS} {x : VS.dens vs} {us : List Value} {bs : List Nat}, vs.all flatVS = true → VSsR Fz w vs x us bs → VSsR Fz' w vs x us bs
  | [], _, _, _, _, h => h
  | v :: r, x, us, bs, hf, h => by
    rw [List.all_cons, Bool.and_eq_true] at hf
    obtain ⟨u, u2, b1, b2, e1, e2, hv, hr⟩ := h
    exact ⟨u, u2, b1, b2, e1, e2, hv.flat hf.1, VSsR.flat hf.2 hr⟩

/-! ### Contracts -/
def resV : List Value → Value
  | [v] => v
  | l => .tuple l.toArray

def Con (P : Program) (e : Env) (g : Nat) (h : FH) : Prop :=
  ∀ (w : World) (Fz : Nat → Prop) (args : List Value) (x : VS.dens h.ps) (r : VS.dens h.rs × VS.dens (backs h.ps)) (bs : List Nat),
    h.f x = some r → VSsR Fz w h.ps x args bs → bs.Nodup → (∀ k, k ∈ bs → ¬ Fz k) → (∀ k, Fz k → k < w.heap.size) → GlobOk e Fz w →
    (callFunc g args.toArray).run P w = .ok (.enter g args.toArray) w ∧
    Calls P g args.toArray w fun en w' => ∃ (Fz2 : Nat → Prop) (us : List Value) (b2 b3 : List Nat), en = .returned (resV us) ∧ Ch w w' (fun k => k ∈ bs) ∧ (∀ k, Fz k → Fz2 k) ∧ (∀ k, Fz2 k → k < w'.heap.size ∧ (Fz k ∨ k ∈ bs ∨ w.heap.size ≤ k)) ∧
      VSsR Fz2 w' h.rs r.1 us b2 ∧ VSsR Fz2 w' (backs h.ps) r.2 (backVals h.ps args) b3 ∧ (b3 ++ b2).Nodup ∧ ∀ k, k ∈ b3 ++ b2 → ¬ Fz2 k ∧ (k ∈ bs ∨ w.heap.size ≤ k)

theorem resAV_rel : ∀ {l : List Vl} {us : List Value}, All2 (VRel C w) l us → ARel C w (resAV l) (resV us)
  | [], [], _ => ⟨#[], rfl, trivial⟩
  | [_], [_], h => h.1
  | _ :: _ :: _, _ :: _ :: _, h => ⟨_, rfl, h⟩
  | [], _ :: _, h => h.elim
  | _ :: _, [], h => h.elim
  | [_], _ :: _ :: _, h => h.2.elim
  | _ :: _ :: _, [_], h => h.2.elim

theorem avs_rel (h : RelC e Γ C s a w) : ∀ {xs : List Operand} {l : List Vl}, avs s xs = some l → All2 (VRel C w) l (xs.map a.eval)
  | [], l, hl => by cases hl; trivial
  | x :: xs, l, hl => by
    unfold avs at hl
    split at hl
    · rename_i v hv
      split at hl
      · rename_i l' hl'
        cases hl
        exact ⟨opd_v h hv, avs_rel h hl'⟩
      · cases hl
    · cases hl

theorem freeze_none : ∀ {os : List Nat} {m : Mem} {i : Nat}, mget m i = none → mget (freeze m os) i = none
  | [], _, _, h => h
  | o :: r, m, i, h => by
    rw [freeze]
    split
    · rename_i hg
      refine freeze_none ?_
      rw [mget_mput, if_neg (fun hh => by rw [hh, hg] at h; cases h)]
      exact h
    · exact freeze_none h

theorem freeze_get : ∀ {os : List Nat} {m : Mem} {i : Nat}, i ∉ os → mget (freeze m os) i = mget m i
  | [], _, _, _ => rfl
  | o :: r, m, i, h => by
    have h1 : i ≠ o := fun hh => h (hh ▸ List.mem_cons_self)
    have h2 : i ∉ r := fun hh => h (List.mem_cons_of_mem _ hh)
    rw [freeze]
    split
    · rw [freeze_get h2, mget_mput, if_neg h1]
    · exact freeze_get h2

/-- A call's end, in the caller's table. -/
theorem call_post {h : FH} {l : List Vl} {us0 us : List Value} {m0 m' : Mem} {os b2 b3 bs : List Nat} {n' id : Nat} {r : VS.dens h.rs × VS.dens (backs h.ps)} {C1 : Ctx} {F : Nat → Prop} {w' : World}
    (hR : RelC e Γ C s a w) (hm : RelM Γ.D C1 w m0) (hle : CLe C C1) (hσ : C1.σ = C.σ) (hdm : C1.Dm = C.Dm) (hF1 : ∀ k, C1.Fz k → C.Fz k ∨ (Γ.D k ∧ k < w.heap.size)) (hfree : ∀ i, mget s.mem i = none → mget m0 i = none)
    (hlv : Lives m0 os) (hbs : bs = blks C os) (hbF : ∀ k, k ∈ bs → ¬ C1.Fz k) (hl : All2 (VRel C w) l us0)
    (hch : Ch w w' fun k => k ∈ bs) (hF2 : ∀ k, C1.Fz k → F k) (hF3 : ∀ k, F k → k < w'.heap.size ∧ (C1.Fz k ∨ k ∈ bs ∨ w.heap.size ≤ k))
    (hrs : VSsR F w' h.rs r.1 us b2) (hbk : VSsR F w' (backs h.ps) r.2 (backVals h.ps us0) b3) (hnd : (b3 ++ b2).Nodup) (hb : ∀ k, k ∈ b3 ++ b2 → ¬ F k ∧ (k ∈ bs ∨ w.heap.size ≤ k))
    (hp : putBacks (kill m0 os) id h.ps l r.2 = some (m', n')) (hid : fresh s.mem id 8 = true) (hn : (mkVs h.rs r.1 m' n').2.2 ≤ id + 8) :
    ∃ C', Post e Γ C w (resAV (mkVs h.rs r.1 m' n').1, (mkVs h.rs r.1 m' n').2.1) (resV us) w' C' := by
  subst hbs
  have hbk1 : blks C1 os = blks C os := by unfold blks; rw [hσ]
  obtain ⟨k1, k2, k3⟩ := kill_rel hm hlv
  rw [hbk1] at k2
  have hD : ∀ k, k ∈ blks C os ∨ w.heap.size ≤ k → Γ.D k := fun k hk => by
    rcases hk with hk | hk
    · obtain ⟨o, ho, hg⟩ := mem_blks.1 hk
      obtain ⟨b, hb, hlb⟩ := hlv o ho
      exact ((hm.blk o b hb).nf hlb (by rw [hσ]; exact hg)).2
    · exact hR.W.fresh k (Nat.le_trans hR.W.ch.size hk)
  have hkeep1 : ∀ k, C1.Fz k → ¬ k ∈ blks C os := fun k hf hh => hbF k hh hf
  let C2 : Ctx := ⟨C.σ, F, C.Dm⟩
  have hle2 : CLe C C2 := ⟨fun _ _ => rfl, fun k hk => hF2 k (hle.Fz k hk), fun _ hh => hh⟩
  have hm2 : RelM Γ.D C2 w' (kill m0 os) := by
    refine k1.world hch hkeep1 hσ.symm hdm.symm hF2 (fun j c hj hlj g hg => ?_)
    have hg' : vblk (C.σ j) = some g := by rw [← hσ]; exact hg
    have hnb := k2 j c hj hlj g hg
    have hbr := k1.blk j c hj
    refine ⟨hnb, fun hf => ?_⟩
    rcases (hF3 g hf).2 with hh | hh | hh
    · exact (hbr.nf hlj hg).1 hh
    · exact hnb hh
    · exact Nat.lt_irrefl _ (Nat.lt_of_lt_of_le (hbr.lt hlj hg) hh)
  have hlt : ∀ j c, mget (kill m0 os) j = some c → live c = true → ∀ g, vblk (C.σ j) = some g → ¬ (g ∈ blks C os ∨ w.heap.size ≤ g) := fun j c hj hlj g hg => by
    rintro (hh | hh)
    · exact k2 j c hj hlj g (by rw [hσ]; exact hg) hh
    · exact Nat.lt_irrefl _ (Nat.lt_of_lt_of_le ((k1.blk j c hj).lt hlj (by rw [hσ]; exact hg)) hh)
  have hs : Sepd C2 (kill m0 os) (b3 ++ b2) := fun j c hj hlj g hg hh => hlt j c hj hlj g hg (hb g hh).2
  have hfr : Free (kill m0 os) id 8 := fun i hi hj => k3 i (hfree i (Free.of_fresh hid i hi hj))
  have hcnt := putBacks_cnt hp
  rw [mkVs_cnt, hcnt] at hn
  have hl2 : All2 (VRel C2 w') l us0 := hl.imp fun _ _ hh => VRel.move hle2 (fun k hf hk => hch.block k hk (hkeep1 k (hle.Fz k hf))) hh
  obtain ⟨C3, hB⟩ := putBacks_rel (bs := b3) hp hm2 hl2 hbk (List.nodup_append.1 hnd).1 (fun g hg => ⟨(hb g (List.mem_append.2 (.inl hg))).1, hD g (hb g (List.mem_append.2 (.inl hg))).2⟩)
    (fun j c hj hlj g hg hh => hs j c hj hlj g hg (List.mem_append.2 (.inl hh))) (hfr.part (Nat.le_refl _) (by omega))
  have hfz3 : C3.Fz = F := hB.fz
  obtain ⟨C4, hL, hres, _⟩ := mkVs_rel (n := n') (bs := b2) hB.rel (by rw [hfz3]; exact hrs) (List.nodup_append.1 hnd).2.1 (fun g hg => by rw [hfz3]; exact ⟨(hb g (List.mem_append.2 (.inr hg))).1, hD g (hb g (List.mem_append.2 (.inr hg))).2⟩)
    (hB.sepd hs hnd) (fun i hi hj => hB.none i (hfr i (by omega) (by omega)) (by omega))
  have hle4 : CLe C C4 := (hle2.trans hB.le).trans hL.le
  have hfz4 : C4.Fz = F := hL.fz.trans hfz3
  refine ⟨C4, hle4, fun k hf hk => hch.block k hk (hkeep1 k (hle.Fz k hf)), hL.rel, resAV_rel hres, ?_⟩
  refine hR.W.step hle4 hch (fun k _ hk => hD k (.inl hk)) (fun k hf hk => hkeep1 k (hle.Fz k hf) hk) (fun k hk => ?_)
  rw [hfz4] at hk
  obtain ⟨h1, h2⟩ := hF3 k hk
  rcases h2 with h2 | h2
  · rcases hF1 k h2 with h3 | h3
    · exact .inl h3
    · exact .inr ⟨h3.1, h1⟩
  · exact .inr ⟨hD k h2, h1⟩

theorem callT_rel {h : FH} {g id : Nat} {l : List Vl} {us0 : List Value} {r : AV × Mem} (hR : RelC e Γ C s a w) (hcon : Con P e g h) (hl : All2 (VRel C w) l us0) (hr : (callT h l s.mem id).run = some r) :
    (callFunc g us0.toArray).run P w = .ok (.enter g us0.toArray) w ∧ Calls P g us0.toArray w fun en w' => ∃ v C', en = .returned v ∧ Post e Γ C w r v w' C' := by
  unfold callT at hr
  split at hr
  rotate_left
  · cases hr
  rename_i x fs os hex
  cases hq : (sep fs os && fresh s.mem id 8) with
  | false => rw [hq] at hr; cases hr
  | true =>
  rw [hq] at hr
  rw [Bool.and_eq_true] at hq
  obtain ⟨hsep, hid⟩ := hq
  obtain ⟨hnd, hdis⟩ := sep_of hsep
  simp only [cond_true, Tr.run] at hr
  cases hfx : h.f x with
  | none => rw [hfx] at hr; cases hr
  | some y =>
  rw [hfx] at hr
  simp only [Option.bind_some] at hr
  obtain ⟨hrows, hlv, hsem⟩ := exVs_sem hR.mem hex hl
  obtain ⟨hfm, hfz⟩ := freeze_rel fs C s.mem hR.mem hrows
  have hbF : ∀ k, k ∈ blks C os → ¬ (C.frz fs).Fz k := fun k hk hf => by
    obtain ⟨o, ho, hg⟩ := mem_blks.1 hk
    obtain ⟨b, hb, hlb⟩ := hlv o ho
    rcases (Ctx.frz_Fz fs C k).1 hf with hf | ⟨o', ho', hg'⟩
    · exact ((hR.mem.blk o b hb).nf hlb hg).1 hf
    · rcases hrows o' ho' with ⟨E', t', xs', hm'⟩ | ⟨t', xs', hm', hz'⟩
      · exact hR.mem.inj o o' b _ hb hm' hlb rfl (fun hh => hdis o ho (hh ▸ ho')) k hg hg'
      · exact ((hR.mem.blk o b hb).nf hlb hg).1 (hz' k hg')
  have hlt : ∀ k, (C.frz fs).Fz k → k < w.heap.size := fun k hk => (hfz k hk).elim (hR.W.lt k) And.right
  have hglob : GlobOk e (C.frz fs).Fz w := hR.W.glob.move (C.frz_le fs).Fz (fun _ _ _ => rfl)
  obtain ⟨c1, c2⟩ := hcon w (C.frz fs).Fz us0 x y (blks C os) hfx (hsem _ fun _ hk => hk) (blks_nodup hR.mem hnd hlv) hbF hlt hglob
  refine ⟨c1, c2.mono fun en w' hh => ?_⟩
  obtain ⟨Fz2, us, b2, b3, rfl, hch, hF1, hF2, hrs, hbk, hnd2, hb⟩ := hh
  split at hr
  rotate_left
  · cases hr
  rename_i m' n' hp
  have hr' : (bif Nat.ble (mkVs h.rs y.1 m' n').2.2 (id + 8) then Tr.ret (resAV (mkVs h.rs y.1 m' n').1, (mkVs h.rs y.1 m' n').2.1) else .fail).run = some r := hr
  cases hble : Nat.ble (mkVs h.rs y.1 m' n').2.2 (id + 8) with
  | false => rw [hble] at hr'; cases hr'
  | true =>
  rw [hble] at hr'
  cases hr'
  have hn := Nat.le_of_ble_eq_true hble
  cases hfl : (h.rs.all flatVS && (backs h.ps).all flatVS) with
  | false =>
    rw [hfl] at hp
    obtain ⟨C', hC⟩ := call_post (C1 := C.frz fs) (F := Fz2) hR hfm (C.frz_le fs) (Ctx.frz_σ fs C) (Ctx.frz_Dm fs C) hfz (fun i hi => freeze_none hi) (fun o ho => by
        obtain ⟨b, hb, hlb⟩ := hlv o ho
        exact ⟨b, by rw [freeze_get (hdis o ho)]; exact hb, hlb⟩) rfl hbF hl hch hF1 hF2 hrs hbk hnd2 hb hp hid hn
    exact ⟨_, C', rfl, hC⟩
  | true =>
    rw [hfl] at hp
    rw [Bool.and_eq_true] at hfl
    have hbF0 : ∀ k, k ∈ blks C os → ¬ C.Fz k := fun k hk hf => hbF k hk ((C.frz_le fs).Fz k hf)
    obtain ⟨C', hC⟩ := call_post (C1 := C) (F := C.Fz) hR hR.mem (CLe.refl C) rfl rfl (fun k hk => .inl hk) (fun i hi => hi) hlv rfl hbF0 hl hch (fun _ hk => hk)
      (fun k hk => ⟨Nat.lt_of_lt_of_le (hR.W.lt k hk) hch.size, .inl hk⟩) (hrs.flat hfl.1) (hbk.flat hfl.2) hnd2 (fun k hk => ⟨fun hf => (hb k hk).1 (hF1 k ((C.frz_le fs).Fz k hf)), (hb k hk).2⟩) hp hid hn
    exact ⟨_, C', rfl, hC⟩

variable {o : Oper} {id : Nat} {r : AV × Mem}

theorem op_call {h : FH} {c : Call} {f : Operand} {g : Nat} {caps : List Nat} {l : List Vl} (hR : RelC e Γ C s a w) (ho : o.op = .call c) (hc : c.callee = .value f) (hf : opd s f = .v (.one (.clo g caps))) (hl : avs s c.args.toList = some l)
    (hcon : Con P e g h) (hr : (callT h (l ++ caps.map fun b => .one (.pbox b 0)) s.mem id).run = some r) : OpDone P e Γ C o a w r := by
  obtain ⟨vs, hv, hcaps⟩ : CRel C w (.clo g caps) (a.eval f) := opd_one hR hf
  have hcaps' : All2 (VRel C w) (caps.map fun b => .one (.pbox b 0)) vs := by
    clear hr hf hv
    induction caps generalizing vs with
    | nil => cases vs with
      | nil => trivial
      | cons _ _ => exact hcaps.elim
    | cons b r ih => cases vs with
      | nil => exact hcaps.elim
      | cons v vs => exact ⟨hcaps.1, ih vs hcaps.2⟩
  have hargs := (avs_rel hR hl).append hcaps'
  obtain ⟨c1, c2⟩ := callT_rel hR hcon hargs hr
  have harr : (c.args.map a.eval) ++ vs.toArray = (c.args.toList.map a.eval ++ vs).toArray := by
    apply Array.ext'
    simp
  refine .inr (.inr ⟨g, _, ?_, c2⟩)
  unfold execOp
  rw [ho]
  simp only [resolve, hc, Sem.run_bind, hv, Deferred.ofValue, Sem.run_pure, Result.andThen_ok, invoke, Array.empty_append, harr]
  exact c1

end Go.Ev
