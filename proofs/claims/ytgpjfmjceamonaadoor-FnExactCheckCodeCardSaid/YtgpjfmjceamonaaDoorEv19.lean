/-
  The abstract evaluator: a whole function keeps its contract.
-/
import Derived.Test.YtgpjfmjceamonaaDoorEv18
namespace Go.Ev
variable {P : Program} {e : Env} {H : Nat → Option FH} {Γ : Actv} {C : Ctx} {s : St} {a : Act} {w : World}

def oneRes (tmps : Array Value) : ResultVar → Sem Value
  | .tmp t => pure (tmps.getD t undef)
  | .cell a t => do loadVar t (← asAddr (tmps.getD a undef))

theorem results_eq (fn : Func) (tmps : Array Value) : results fn tmps = (do let vs ← fn.results.mapM (oneRes tmps); pure (if h : vs.size = 1 then vs[0] else .tuple vs)) := by
  unfold results
  congr 2

theorem resOne_rel (hok : EnvOk P e) (h : RelC e Γ C s a w) {rv : ResultVar} {x : Vl} (hx : resOne e s rv = some x) : ∃ v, (oneRes a.tmps rv).run P w = .ok v w ∧ VRel C w x v := by
  cases rv with
  | tmp t =>
    simp only [resOne] at hx
    split at hx
    · rename_i y hy
      cases hx
      have := get_rel h t
      rw [hy] at this
      exact ⟨_, rfl, this⟩
    · cases hx
  | cell b t =>
    simp only [resOne] at hx
    split at hx
    · rename_i c ty hc ht
      split at hx
      · rename_i cs hr
        have hcr := get_rel h b
        rw [hc] at hcr
        obtain ⟨ad, vs, e1, hl, hcs, hat⟩ := readAt_rel h.mem hr hcr
        have hlen : ty.isSt = false → vs.length = 1 := fun hs => by
          rw [hs] at hx
          rw [← hcs.length]
          exact asVl_one hx
        refine ⟨_, ?_, asVl_rel hx hcs⟩
        simp only [oneRes, Sem.run_bind]
        rw [e1]
        exact run_loadVar (P := P) hok ht hl hat hlen
      · cases hx
    · cases hx

theorem resAll_rel (hok : EnvOk P e) (h : RelC e Γ C s a w) : ∀ {rv : List ResultVar} {l : List Vl}, resAll e s rv = some l → ∃ us, (rv.mapM (oneRes a.tmps)).run P w = .ok us w ∧ All2 (VRel C w) l us
  | [], l, hl => by
    cases hl
    exact ⟨[], by simp, trivial⟩
  | r :: rs, l, hl => by
    unfold resAll at hl
    split at hl
    · rename_i x hx
      split at hl
      · rename_i l' hl'
        cases hl
        obtain ⟨v, h1, h2⟩ := resOne_rel hok h hx
        obtain ⟨us, h3, h4⟩ := resAll_rel hok h hl'
        exact ⟨v :: us, by simp [List.mapM_cons, h1, h3], h2, h4⟩
      · cases hl
    · cases hl

theorem run_results (hok : EnvOk P e) (h : RelC e Γ C s a w) {fn : Func} {l : List Vl} (hl : resAll e s fn.results.toList = some l) : ∃ us, (results fn a.tmps).run P w = .ok (resV us) w ∧ All2 (VRel C w) l us := by
  obtain ⟨us, h1, h2⟩ := resAll_rel hok h hl
  refine ⟨us, ?_, h2⟩
  rw [results_eq, Array.mapM_eq_mapM_toList]
  simp [h1]
  match us with
  | [] => simp [resV]
  | [v] => simp [resV]
  | _ :: _ :: _ => simp [resV]

theorem VSsR.length {Fz : Nat → Prop} : ∀ {vs : List VS} {x : VS.dens vs} {us : List Value} {bs : List Nat}, VSsR Fz w vs x us bs → us.length = vs.length
  | [], _, _, _, h => by rw [h.1]; rfl
  | v :: r, x, us, bs, h => by
    obtain ⟨u, u2, b1, b2, rfl, _, _, hr⟩ := h
    rw [List.length_cons, VSsR.length hr, List.length_cons]

theorem backs_rel : ∀ {ps : List VS} {as : List Vl} {us : List Value}, All2 (VRel C w) as us → All2 (VRel C w) (backVls ps as) (backVals ps us)
  | [], _, _, _ => by simp [backVls, backVals, All2]
  | p :: r, [], [], _ => by cases p <;> trivial
  | p :: r, x :: as, u :: us, h => by
    cases p with
    | val t => exact backs_rel (ps := r) h.2
    | eat E t => exact backs_rel (ps := r) h.2
    | own E t => exact ⟨h.1, backs_rel (ps := r) h.2⟩
    | box T cs => exact ⟨h.1, backs_rel (ps := r) h.2⟩
    | mp => exact ⟨h.1, backs_rel (ps := r) h.2⟩
    | rc cs => exact backs_rel (ps := r) h.2
  | _ :: _, [], _ :: _, h => h.elim
  | _ :: _, _ :: _, [], h => h.elim

theorem backs_none : ∀ {ps : List VS} {us : List Value}, backs ps = [] → backVals ps us = []
  | [], _, _ => rfl
  | .val _ :: r, [], _ => rfl
  | .val _ :: r, _ :: us, h => backs_none (ps := r) h
  | .eat _ _ :: r, [], _ => rfl
  | .eat _ _ :: r, _ :: us, h => backs_none (ps := r) h
  | .rc _ :: r, [], _ => rfl
  | .rc _ :: r, _ :: us, h => backs_none (ps := r) h
  | .own _ _ :: _, _, h => by cases h
  | .box _ _ :: _, _, h => by cases h
  | .mp :: _, _, h => by cases h

theorem range_args {args : List Value} (h : ∀ k, k < args.length → a.tmps[k]? = args[k]?) : (List.range args.length).map (fun k => a.tmps.getD k undef) = args := by
  apply List.ext_getElem
  · simp
  · intro i h1 h2
    have h3 := h i h2
    rw [List.getElem?_eq_getElem h2] at h3
    have hlt := (Array.getElem?_eq_some_iff.1 h3).1
    have he := (Array.getElem?_eq_some_iff.1 h3).2
    simp [Array.getD, hlt, he]

theorem end_rel (hok : EnvOk P e) (h : RelC e Γ C s a w) {fn : Func} {ps rs : List VS} {r : VS.dens rs × VS.dens (backs ps)} (he : endK e fn.results.toList ps rs s = some r) (hnp : Γ.np = npOf ps) (hargs : Γ.args.length = ps.length) :
    ∃ (Fz2 : Nat → Prop) (us : List Value) (b2 b3 : List Nat), (results fn a.tmps).run P w = .ok (resV us) w ∧ RelW e Γ ⟨C.σ, Fz2, C.Dm⟩ w ∧ VSsR Fz2 w rs r.1 us b2 ∧ VSsR Fz2 w (backs ps) r.2 (backVals ps Γ.args) b3 ∧ (b3 ++ b2).Nodup ∧ ∀ k, k ∈ b3 ++ b2 → ¬ Fz2 k ∧ Γ.D k := by
  unfold endK at he
  split at he
  rotate_left
  · cases he
  rename_i l hl
  split at he
  rotate_left
  · cases he
  rename_i r1 fs os hex
  split at he
  rotate_left
  · cases he
  rename_i as has
  split at he
  rotate_left
  · cases he
  rename_i b fs' os' hbx
  cases hs : sep (fs ++ fs') (os' ++ os) with
  | false => rw [hs] at he; cases he
  | true =>
  rw [hs] at he
  cases he
  obtain ⟨hnd, hdis⟩ := sep_of hs
  obtain ⟨us, hrun, hus⟩ := run_results hok h hl
  have hback : All2 (VRel C w) (backVls ps as) (backVals ps Γ.args) := by
    cases hb : backs ps with
    | nil =>
      have h0 : npOf ps = 0 := by unfold npOf; rw [hb]
      rw [h0] at has
      cases has
      rw [backs_none hb]
      cases ps with
      | nil => trivial
      | cons p r => trivial
    | cons p r =>
      have h0 : npOf ps = ps.length := by unfold npOf; rw [hb]
      have hal := getAll_rel h has
      rw [h0, ← hargs] at hal
      rw [range_args (fun k hk => h.par k (by rw [hnp, h0, ← hargs]; exact hk))] at hal
      exact backs_rel hal
  obtain ⟨p1, p2, p3⟩ := exVs_sem h.mem hex hus
  obtain ⟨q1, q2, q3⟩ := exVs_sem h.mem hbx hback
  have hlv : Lives s.mem (os' ++ os) := q2.append p2
  have hrows : Rows C s.mem (fs ++ fs') := p1.append q1
  have hap := blks_apart h.mem hlv hrows hdis
  have hbl : blks C (os' ++ os) = blks C os' ++ blks C os := by unfold blks; rw [List.filterMap_append]
  refine ⟨(C.frz (fs ++ fs')).Fz, us, blks C os, blks C os', hrun, (h.frz hrows).W.fzEq rfl, p3 _ fun k hk => frz_left k hk, q3 _ fun k hk => frz_right k hk, ?_, ?_⟩
  · rw [← hbl]
    exact blks_nodup h.mem hnd hlv
  · rw [← hbl]
    exact hap

theorem con_of {T : List Pc} {g n : Nat} {fn : Func} {c : Code} {ps rs : List VS} {f : VS.dens ps → Option (VS.dens rs × VS.dens (backs ps))} (hok : EnvOk P e) (hH : ∀ g h, H g = some h → Con P e g h) (hfn : P.funcs[g]? = some fn) (hname : (fn.name == "runtime.NumGoroutine") = false) (hb : fn.body = some c)
    (hnt : fn.ntmps = n) (hle : Nat.ble ps.length n = true) (hT : Ok P e (npOf ps) n T c) (hwr : wrC (npOf ps) c = true) (hf : ∀ x, evC e H T c (mkSt n (startSh ps) x) (finF e fn.results.toList ps rs) = f x) : Con P e g ⟨ps, rs, f⟩ := by
  intro w Fz args x r bs hfx hx hnd hbF hlt hglob
  refine ⟨?_, calls_of_wp hfn hb ?_⟩
  · have h1 : fn.name ≠ "runtime.NumGoroutine" := by simpa using hname
    simp [callFunc, hfn, h1, hb]
  have hle := Nat.le_of_ble_eq_true hle
  have halen : args.length = ps.length := hx.length
  let Γ : Actv := ⟨w, fun k => k ∈ bs ∨ w.heap.size ≤ k, Fz, npOf ps, args⟩
  let a0 : Act := { tmps := args.toArray ++ Array.replicate (fn.ntmps - args.toArray.size) undef, defers := [] }
  have hsz : a0.tmps.size = n := by
    show (args.toArray ++ Array.replicate (fn.ntmps - args.toArray.size) undef).size = n
    rw [Array.size_append, Array.size_replicate, List.size_toArray]
    omega
  have hget : ∀ k, k < args.length → a0.tmps[k]? = args[k]? := fun k hk => by
    show (args.toArray ++ Array.replicate (fn.ntmps - args.toArray.size) undef)[k]? = _
    rw [Array.getElem?_append_left (by simpa using hk)]
    simp
  have hnp : npOf ps ≤ args.length := by
    unfold npOf
    split
    · exact Nat.zero_le _
    · rw [halen]
      exact Nat.le_refl _
  obtain ⟨C0, hR0, hn0⟩ := mkSt_rel (e := e) (Γ := Γ) (sh := startSh ps) (a := a0) (us := args) Fz rfl hsz.symm (fun k hk => hget k (Nat.lt_of_lt_of_le hk hnp)) (by
      show args = (List.range ps.length).map _
      rw [← halen, range_args hget]) hx (fun p hp => by cases hp) hnd (fun g hg => ⟨hbF g hg, .inl hg⟩)
    (fun C hC => ⟨Ch.refl w _, fun k hk => .inr hk, fun k hk => .inl (show Fz k from hC ▸ hk), fun k hk => hC.symm ▸ hk, fun k hk => hlt k (by rw [← hC]; exact hk), by rw [hC]; exact hglob⟩)
  have hfx' := hfx
  rw [show FH.f ⟨ps, rs, f⟩ x = f x from rfl, ← hf x] at hfx'
  refine evC_sound (Γ := Γ) hok hH c _ _ C0 a0 w _ hT hwr hfx' hR0 hn0 fun ex s' C' a' w' g1 g2 g3 => ?_
  have hend : endK e fn.results.toList ps rs s' = some r → a'.defers = [] ∧ ∃ v, (results fn a'.tmps).run P w' = .ok v w' ∧ ∃ (Fz2 : Nat → Prop) (us : List Value) (b2 b3 : List Nat), Ending.returned v = .returned (resV us) ∧ Ch w w' (fun k => k ∈ bs) ∧ (∀ k, Fz k → Fz2 k) ∧ (∀ k, Fz2 k → k < w'.heap.size ∧ (Fz k ∨ k ∈ bs ∨ w.heap.size ≤ k)) ∧
      VSsR Fz2 w' rs r.1 us b2 ∧ VSsR Fz2 w' (backs ps) r.2 (backVals ps args) b3 ∧ (b3 ++ b2).Nodup ∧ ∀ k, k ∈ b3 ++ b2 → ¬ Fz2 k ∧ (k ∈ bs ∨ w.heap.size ≤ k) := fun he => by
    obtain ⟨Fz2, us, b2, b3, h1, h2, h3, h4, h5, h6⟩ := end_rel hok g2 he rfl halen
    exact ⟨g2.defers, resV us, h1, Fz2, us, b2, b3, rfl, h2.ch.mono fun k hk hd => hd.resolve_right (Nat.not_le.2 hk), h2.fz0, fun k hk => ⟨h2.lt k hk, h2.fz k hk⟩, h3, h4, h5, h6⟩
  cases ex with
  | normal => exact hend g3
  | ret => exact hend g3
  | exit id => cases g3

end Go.Ev
