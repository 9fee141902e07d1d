/-
  The abstract evaluator: stores, new rows, appends, rows made shorter.
-/
import Derived.Test.YtgpjfmjceamonaaDoorEv6
namespace Go.Ev
variable {P : Program} {e : Env} {Γ : Actv} {C : Ctx} {s : St} {a : Act} {w : World}

theorem run_storeVar (hok : EnvOk P e) {E : Nat} {t : Ty} (ht : e.ty E = some t) {g off T : Nat} {arr : Array Value} (hg : w.heap[g]? = some (.cells arr T (0, 0))) {v : Value} {vs : List Value} (hv : v.cells.toList = vs) (hl : vs.length = t.sz)
    (hfit : off + vs.length ≤ arr.size) (h1 : ∀ u ∈ vs, u.oneCell' = true) :
    (storeVar E ⟨g, off, none⟩ v).run P w = .ok () (w.setRow g (arr.toList.take off ++ vs ++ arr.toList.drop (off + vs.length)).toArray) := by
  obtain ⟨i, hi, rfl⟩ := ty_some ht
  obtain ⟨inf, d, z, q1, q2, q3, q4, _⟩ := (hok.ty E i hi).out
  have hsz : v.cells.size = i.t.sz := by rw [← Array.length_toList, hv, hl]
  have hst := run_storeCells_at P g off T vs 0 arr w hg (by simpa using hfit) h1
  simp only [Nat.add_zero] at hst
  subst hv
  unfold storeVar
  simp only [Sem.run_bind, sizeOf, typeInfo, run_program, Result.andThen_ok, q1, Sem.run_pure, q4, hsz, ne_eq, ite_not]
  simp [hst]

theorem get_spliced {l vs : List Value} {p q : Nat} (hp : p + vs.length ≤ l.length) : (l.take p ++ vs ++ l.drop (p + vs.length))[q]? = if q < p then l[q]? else if q < p + vs.length then vs[q - p]? else l[q]? := by
  have hlen : (l.take p).length = p := by rw [List.length_take]; omega
  rw [List.append_assoc]
  by_cases h1 : q < p
  · rw [if_pos h1, List.getElem?_append_left (by omega), List.getElem?_take, if_pos h1]
  · rw [if_neg h1, List.getElem?_append_right (by omega), hlen]
    by_cases h2 : q < p + vs.length
    · rw [if_pos h2, List.getElem?_append_left (by omega)]
    · rw [if_neg h2, List.getElem?_append_right (by omega), List.getElem?_drop]
      congr 1
      omega

theorem writeAt_rel (hok : EnvOk P e) (h : RelC e Γ C s a w) {E : Nat} {t : Ty} (ht : e.ty E = some t) {c : CV} {cs : List CV} {m : Mem} {v u : Value} (hw : writeAt s.mem cs c = some m) (hc : CRel C w c v)
    (hcs : All2 (CRel C w) cs u.cells.toList) (h1 : ∀ x ∈ u.cells.toList, x.oneCell' = true) (hl : cs.length = t.sz) :
    ∃ w' C', (Instr.storeAt E v u).run P w = .ok () w' ∧ Post e Γ C w (unit, m) undef w' C' := by
  have hul : u.cells.toList.length = t.sz := by rw [← hcs.length]; exact hl
  have hunit : ∀ (C' : Ctx) (w' : World), ARel C' w' unit undef := fun C' w' => ⟨#[], rfl, trivial⟩
  unfold writeAt at hw
  split at hw
  · rename_i b off
    obtain ⟨hd, g, hg, rfl⟩ := hc
    split at hw
    · rename_i T l hb
      cases hq : Nat.ble (off + cs.length) l.length with
      | false => rw [hq] at hw; cases hw
      | true =>
        rw [hq] at hw
        cases hw
        have hle := Nat.le_of_ble_eq_true hq
        have hbr := h.mem.blk b _ hb
        obtain ⟨g', arr, hs, hh, ha, hnf, hD⟩ := hbr
        rw [hg] at hs
        have : g = g' := by simpa using hs
        subst this
        have hsz : arr.size = l.length := by rw [← Array.length_toList, ha.length]
        have hrun := run_storeVar hok ht hh (v := u) (off := off) rfl hul (by rw [hsz, ← hcs.length]; exact hle) h1
        refine ⟨_, C, by simp only [Instr.storeAt, Instr.sureAddr, Sem.run_bind, Sem.run_pure, Result.andThen_ok]; exact hrun, ?_⟩
        refine post_setRow h hb rfl (by rw [hg]; rfl) ?_ (hunit _ _)
        have hkeep : ∀ k, C.Fz k → k < w.heap.size → (w.setRow g (arr.toList.take off ++ u.cells.toList ++ arr.toList.drop (off + u.cells.toList.length)).toArray).heap[k]? = w.heap[k]? := fun k hf _ => heap_setRow_other (fun hh => hnf (hh ▸ hf))
        exact ⟨g, _, hg, heap_setRow_same hh, by simpa using (splice_cells ha hcs).imp fun _ _ hr => CRel.move (CLe.refl C) hkeep hr, hnf, hD⟩
    · cases hw
  · rename_i o t' i off
    obtain ⟨hd, ad, l, cap0, hs, h0, hi, rfl⟩ := hc
    split at hw
    · rename_i E' t'' xs hb
      split at hw
      · rename_i ys hcast
        obtain ⟨he, rfl⟩ := castL_eq hcast
        subst he
        cases hq : Nat.ble (off + cs.length) t''.sz with
        | false => rw [hq] at hw; cases hw
        | true =>
          rw [hq] at hw
          simp only [cond_true] at hw
          have hle := Nat.le_of_ble_eq_true hq
          split at hw
          · rename_i x os hpk
            cases hany : os.any (Nat.beq o) with
            | true => rw [hany] at hw; cases hw
            | false =>
              rw [hany] at hw
              cases hw
              have hbr := h.mem.blk o _ hb
              obtain ⟨cells, ho, hr, hnf⟩ := hbr
              rcases ho.2 with ⟨hv, hn⟩ | ⟨g, cap, cur, hv, _, hg, hlc, hmx, hsz, htk⟩
              · rw [hs] at hv; cases hv
              · have hadl : ad = ⟨g, 0, none⟩ ∧ l = xs.length := by
                  rw [hs] at hv; simp at hv; exact ⟨hv.1, hv.2.1⟩
                obtain ⟨rfl, rfl⟩ := hadl
                obtain ⟨es, hk, hce⟩ := hr i.toNat _ (getD_some (d := t''.zero) hi)
                have hes : es.length = t''.sz := hk.len
                have hcl : cells.length = xs.length * t''.sz := ho.1
                have hmul : (i.toNat + 1) * t''.sz ≤ xs.length * t''.sz := Nat.mul_le_mul_right _ hi
                have hmul2 : (i.toNat + 1) * t''.sz = i.toNat * t''.sz + t''.sz := Nat.succ_mul _ _
                have hul' : u.cells.toList.length = cs.length := hcs.length.symm
                have hcapl : xs.length * t''.sz ≤ cap * t''.sz := Nat.mul_le_mul_right _ hlc
                have hfit : i.toNat * t''.sz + off + u.cells.toList.length ≤ cells.length := by omega
                have hfit2 : i.toNat * t''.sz + off + u.cells.toList.length ≤ cur.size := by omega
                rw [add_lit]
                have hrun := run_storeVar hok ht hg (v := u) (off := i.toNat * t''.sz + off) rfl hul hfit2 h1
                -- what the new element is
                have hsp : All2 (CRel C w) (splice (t''.cells (xs.getD i.toNat t''.zero)) off cs) (es.take off ++ u.cells.toList ++ es.drop (off + u.cells.toList.length)) := splice_cells (KF.cells hk) hcs
                obtain ⟨v1, v2, e1, hkx, hr2, hrows⟩ := pack_rel h.mem hpk hsp
                have hv2 : v2 = [] := by cases v2 with
                  | nil => rfl
                  | cons _ _ => exact hr2.elim
                subst hv2
                rw [List.append_nil] at e1
                subst e1
                have hF := h.frz hrows
                have hmo : mget (freeze s.mem os) o = some (.row E' t'' xs) := by
                  have : ∀ (os : List Nat) (m : Mem), os.any (Nat.beq o) = false → mget m o = some (.row E' t'' xs) → mget (freeze m os) o = some (.row E' t'' xs) := by
                    intro os
                    induction os with
                    | nil => exact fun m _ hm => hm
                    | cons o' r ih =>
                      intro m hq hm
                      rw [List.any_cons, Bool.or_eq_false_iff] at hq
                      rw [freeze]
                      split
                      · refine ih _ hq.2 ?_
                        rw [mget_mput, if_neg (fun hh => by rw [hh, show Nat.beq o' o' = true from Nat.beq_refl o'] at hq; cases hq.1)]
                        exact hm
                      · exact ih _ hq.2 hm
                  exact this os s.mem hany hb
                refine ⟨_, C.frz os, by simp only [Instr.storeAt, Instr.sureAddr, Sem.run_bind, Sem.run_pure, Result.andThen_ok]; exact hrun, Post.frz (post_setRow hF hmo rfl (g := g) (by rw [Ctx.frz_σ, hv]; rfl) ?_ (hunit _ _))⟩
                obtain ⟨cells', ho', hr', hnf'⟩ := hF.mem.blk o _ hmo
                have hng := hnf' g (by rw [Ctx.frz_σ, hv]; rfl)
                have hkeep : ∀ k, (C.frz os).Fz k → k < w.heap.size → (w.setRow g (cur.toList.take (i.toNat * t''.sz + off) ++ u.cells.toList ++ cur.toList.drop (i.toNat * t''.sz + off + u.cells.toList.length)).toArray).heap[k]? = w.heap[k]? := fun k hf _ => heap_setRow_other (fun hh => hng.1 (hh ▸ hf))
                have hcurl : i.toNat * t''.sz + off + u.cells.toList.length ≤ cur.toList.length := by simpa using hfit2
                refine ⟨cells.take (i.toNat * t''.sz + off) ++ u.cells.toList ++ cells.drop (i.toNat * t''.sz + off + u.cells.toList.length), ⟨?_, .inr ⟨g, cap, _, by rw [Ctx.frz_σ, hv, List.length_set], Nat.zero_le _, heap_setRow_same hg, by rw [List.length_set]; exact hlc, hmx, ?_, ?_⟩⟩, fun j y hj => ?_, fun g' hg' => hnf' g' hg'⟩
                · rw [List.length_set]
                  simp only [List.length_append, List.length_take, List.length_drop]
                  omega
                · have hz1 : cur.toList.length = cur.size := Array.length_toList
                  simp only [List.size_toArray, List.length_append, List.length_take, List.length_drop]
                  omega
                · rw [List.length_set, ← htk]
                  refine List.ext_getElem? fun q => ?_
                  have hfit3 : i.toNat * t''.sz + off + u.cells.toList.length ≤ (cur.toList.take (xs.length * t''.sz)).length := by rw [htk]; exact hfit
                  rw [List.getElem?_take, get_spliced hfit3, List.getElem?_take]
                  split
                  · rename_i hq2
                    rw [show ((cur.toList.take (i.toNat * t''.sz + off) ++ u.cells.toList ++ cur.toList.drop (i.toNat * t''.sz + off + u.cells.toList.length)).toArray).toList = cur.toList.take (i.toNat * t''.sz + off) ++ u.cells.toList ++ cur.toList.drop (i.toNat * t''.sz + off + u.cells.toList.length) from rfl, get_spliced hcurl]
                  · rename_i hq2
                    have q1 : ¬ q < i.toNat * t''.sz + off := by omega
                    have q2 : ¬ q < i.toNat * t''.sz + off + u.cells.toList.length := by omega
                    rw [if_neg q1, if_neg q2]
                · rw [List.getElem?_set] at hj
                  by_cases hij : i.toNat = j
                  · subst hij
                    rw [if_pos rfl, if_pos hi] at hj
                    cases hj
                    refine ⟨_, KF.move (fun _ hh => hh) hkeep hkx, fun k z hz => ?_⟩
                    rw [get_spliced hfit]
                    have hkl : k < t''.sz := by
                      have := (List.getElem?_eq_some_iff.1 hz).1
                      simp only [List.length_append, List.length_take, List.length_drop] at this
                      omega
                    rw [get_spliced (by omega)] at hz
                    by_cases c1 : k < off
                    · rw [if_pos c1] at hz
                      rw [if_pos (by omega)]
                      exact hce k z hz
                    · rw [if_neg c1] at hz
                      rw [if_neg (by omega)]
                      by_cases c2 : k < off + u.cells.toList.length
                      · rw [if_pos c2] at hz
                        rw [if_pos (by omega)]
                        rw [show i.toNat * t''.sz + k - (i.toNat * t''.sz + off) = k - off by omega]
                        exact hz
                      · rw [if_neg c2] at hz
                        rw [if_neg (by omega)]
                        exact hce k z hz
                  · rw [if_neg hij] at hj
                    obtain ⟨es2, hk2, hce2⟩ := hr j y hj
                    refine ⟨es2, KF.move (C.frz_le os).Fz (fun k hf hk => hkeep k ((C.frz_le os).Fz k hf) hk) hk2, fun k z hz => ?_⟩
                    have hkl : k < t''.sz := by
                      have := (List.getElem?_eq_some_iff.1 hz).1
                      rw [hk2.len] at this
                      exact this
                    rw [get_spliced hfit]
                    have hjk := hce2 k z hz
                    rcases Nat.lt_or_gt_of_ne hij with hlt | hgt
                    · have : (i.toNat + 1) * t''.sz ≤ j * t''.sz := Nat.mul_le_mul_right _ hlt
                      rw [if_neg (by omega), if_neg (by omega)]
                      exact hjk
                    · have : (j + 1) * t''.sz ≤ i.toNat * t''.sz := Nat.mul_le_mul_right _ hgt
                      have h3 : (j + 1) * t''.sz = j * t''.sz + t''.sz := Nat.succ_mul _ _
                      rw [if_pos (by omega)]
                      exact hjk
          · cases hw
      · cases hw
    · cases hw
  · cases hw

end Go.Ev
