/-
  The abstract evaluator: regions whose order is given.
-/
import Derived.Test.YtbcnfakifochmaaEvD4
namespace Go.Ev
variable {P : Program} {e : Env} {H : Nat → Option FH} {Γ : Actv} {C : Ctx} {s : St} {a : Act} {w : World}

/-! ### Regions -/
def wr1 (np : Nat) : Option Nat → Bool
  | some d => Nat.ble np d
  | none => true
def wrOps (np : Nat) : List Oper → Bool
  | [] => true
  | o :: r => wr1 np o.dst && wrOps np r

def wrC (np : Nat) : Code → Bool
  | .region _ ops _ => wrOps np ops.toList
  | .seq a b => wrC np a && wrC np b
  | .cond _ a b => wrC np a && wrC np b
  | .block _ c => wrC np c
  | .loop c => wrC np c
  | _ => true

theorem wrOps_get {np : Nat} : ∀ {l : List Oper} {i : Nat} {o : Oper}, wrOps np l = true → l[i]? = some o → ∀ k, o.dst = some k → np ≤ k := by
  intro l
  induction l with
  | nil => intro i o _ hi; cases hi
  | cons o' r ih =>
    intro i o h hi k hk
    have h' : (wr1 np o'.dst && wrOps np r) = true := h
    rw [Bool.and_eq_true] at h'
    cases i with
    | zero =>
      rw [List.getElem?_cons_zero] at hi
      have ho := Option.some.inj hi
      rw [ho, hk] at h'
      exact Nat.le_of_ble_eq_true h'.1
    | succ i => exact ih h'.2 (by rw [List.getElem?_cons_succ] at hi; exact hi) k hk

theorem guard_rel {ops : Array Oper} {o : Oper} {b : Bool} (h : RelC e Γ C s a w) (hg : guardOf ops.toList s o = some b) : Region.wanted o (yielded ops a.tmps) = b := by
  unfold guardOf at hg
  unfold Region.wanted
  split at hg
  · rename_i hn
    cases hg
    rw [hn]
  · rename_i j want hn
    rw [hn]
    split at hg
    · rename_i o' ho'
      split at hg
      · rename_i d hd
        split at hg
        · rename_i bv hbv
          cases hg
          have ho'' : ops[j]? = some o' := by rw [← Array.getElem?_toList]; exact ho'
          have hlt : d < s.slots.length := by
            rcases Nat.lt_or_ge d s.slots.length with hh | hh
            · exact hh
            · unfold St.get at hbv
              rw [List.getD_eq_getElem?_getD, List.getElem?_eq_none hh] at hbv
              cases hbv
          have hv := get_rel h d
          rw [hbv] at hv
          have hv' : a.tmps.getD d undef = .bool bv := hv
          have hlt' : d < a.tmps.size := by rw [← h.len]; exact hlt
          have hy : yielded ops a.tmps j = some bv := by
            unfold yielded
            rw [ho'']
            simp only [Option.bind_some, hd]
            rw [Array.getElem?_eq_getElem hlt']
            have : a.tmps[d] = .bool bv := by simpa [Array.getD, hlt'] using hv'
            rw [this]
          show (yielded ops a.tmps j == some want) = _
          rw [hy]
          cases want <;> cases bv <;> rfl
        · rename_i xs hbv
          cases hg
          have ho'' : ops[j]? = some o' := by rw [← Array.getElem?_toList]; exact ho'
          have hv := get_rel h d
          rw [hbv] at hv
          obtain ⟨arr, hv', _⟩ := hv
          have hy : yielded ops a.tmps j = none := by
            unfold yielded
            rw [ho'']
            simp only [Option.bind_some, hd]
            cases hq : a.tmps[d]? with
            | none => rfl
            | some q =>
              have : q = .tuple arr := by
                rw [← hv']
                simp [Array.getD_eq_getD_getElem?, hq]
              rw [this]
          show (yielded ops a.tmps j == some want) = _
          rw [hy]
          cases want <;> rfl
        · cases hg
      · cases hg
    · cases hg

theorem stepT_sound {ops : Array Oper} {i : Nat} {o : Oper} {s' : St} {Q : Exit → Act → World → Prop} {K : Act → World → Prop} (hok : EnvOk P e) (hH : ∀ g h, H g = some h → Con P e g h) (hi : ops[i]? = some o) (hwr : ∀ k, o.dst = some k → Γ.np ≤ k)
    (hs : (stepT e H ops.toList i o s).run = some s') (h : RelC e Γ C s a w) (hK : s'.slots.length = s.slots.length → ∀ C' a' w', RelC e Γ C' s' a' w' → K a' w') : wpOp P ops Q i K a w := by
  unfold stepT at hs
  split at hs
  · cases hs
  rename_i b hg
  have hw := guard_rel h hg
  unfold wpOp
  simp only [hi]
  rw [hw]
  have hlen : ∀ (r : AV × Mem), (s.put o.dst r).slots.length = s.slots.length := fun r => by
    unfold St.put
    split
    · exact List.length_set
    · rfl
  cases b with
  | false =>
    simp only [Tr.run, cond_false] at hs
    cases hs
    exact hK (hlen _) C _ w (put_rel h (Post.same (x := unit) (v := undef) h ⟨#[], rfl, trivial⟩) o.dst hwr)
  | true =>
    simp only [Tr.run, cond_true] at hs
    rw [Tr.run_bind] at hs
    obtain ⟨r, hr, hs⟩ := Option.bind_eq_some_iff.1 hs
    cases hs
    refine .inl ?_
    unfold Oper.wp
    rcases opT_rel hok hH h hr with ⟨v, w', C', h1, h2⟩ | ⟨w', C', h1, h2⟩ | ⟨f, args, h1, h2⟩
    · rw [h1]
      exact hK (hlen _) C' _ w' (put_rel h h2 o.dst hwr)
    · rw [h1]
      exact hK (hlen _) C' _ w' (put_rel h h2 o.dst hwr)
    · rw [h1]
      refine Calls.mono h2 fun en w' hh => ?_
      obtain ⟨v, C', rfl, hp⟩ := hh
      exact hK (hlen _) C' _ w' (put_rel h hp o.dst hwr)


theorem put_len' (s : St) (d : Option Nat) (r : AV × Mem) : (s.put d r).slots.length = s.slots.length := by
  cases d with
  | none => rfl
  | some d => exact List.length_set

/-! ### What leaves the memory as it was -/
theorem exV_val {m : Mem} {v : VS} {l : Vl} {x : v.den} {fs os : List Nat} (hv : isVal v = true) (h : exV m v l = some (x, fs, os)) : os = [] := by
  cases v with
  | val t =>
    have h' : (match packV m t l with
      | some (y, fs) => some (y, fs, [])
      | none => none) = some (x, fs, os) := h
    split at h'
    · cases h'
      rfl
    · cases h'
  | own E t => cases hv
  | eat E t => cases hv
  | box T cs => cases hv
  | mp => cases hv
theorem exVs_val {m : Mem} : ∀ {vs : List VS} {l : List Vl} {x : VS.dens vs} {fs os : List Nat}, vs.all isVal = true → exVs m vs l = some (x, fs, os) → os = []
  | [], [], _, _, _, _, h => by cases h; rfl
  | [], _ :: _, _, _, _, _, h => by cases h
  | v :: r, [], _, _, _, _, h => by cases h
  | v :: r, a :: l, x, fs, os, hv, h => by
    rw [List.all_cons, Bool.and_eq_true] at hv
    unfold exVs at h
    split at h
    · rename_i y f1 o1 h1
      split at h
      · rename_i z f2 o2 h2
        cases h
        rw [exV_val hv.1 h1, exVs_val hv.2 h2]
        rfl
      · cases h
    · cases h
theorem backs_val : ∀ {ps : List VS}, ps.all isVal = true → backs ps = []
  | [], _ => rfl
  | .val _ :: r, h => by
    rw [List.all_cons, Bool.and_eq_true] at h
    exact backs_val (ps := r) h.2
  | .own _ _ :: r, h => by cases h
  | .eat _ _ :: r, h => by cases h
  | .box _ _ :: r, h => by cases h
  | .mp :: r, h => by cases h
theorem putBacks_val : ∀ {ps : List VS} {m : Mem} {n : Nat} {l : List Vl} {x : VS.dens (backs ps)} {y : Mem × Nat}, ps.all isVal = true → putBacks m n ps l x = some y → y = (m, n)
  | [], _, _, [], _, _, _, h => by cases h; rfl
  | [], _, _, _ :: _, _, _, _, h => by cases h
  | .val _ :: r, _, _, [], _, _, _, h => by cases h
  | .val _ :: r, m, n, _ :: l, x, y, hv, h => by
    rw [List.all_cons, Bool.and_eq_true] at hv
    exact putBacks_val (ps := r) (l := l) (x := x) hv.2 h
  | .own _ _ :: r, _, _, _, _, _, hv, _ => by cases hv
  | .eat _ _ :: r, _, _, _, _, _, hv, _ => by cases hv
  | .box _ _ :: r, _, _, _, _, _, hv, _ => by cases hv
  | .mp :: r, _, _, _, _, _, hv, _ => by cases hv
theorem mkVs_val : ∀ {vs : List VS} {x : VS.dens vs} {m : Mem} {n : Nat}, vs.all isVal = true → (mkVs vs x m n).2.1 = m
  | [], _, _, _, _ => rfl
  | .val t :: r, x, m, n, hv => by
    rw [List.all_cons, Bool.and_eq_true] at hv
    exact mkVs_val (vs := r) (x := x.2) (m := m) (n := n) hv.2
  | .own _ _ :: r, _, _, _, hv => by cases hv
  | .eat _ _ :: r, _, _, _, hv => by cases hv
  | .box _ _ :: r, _, _, _, hv => by cases hv
  | .mp :: r, _, _, _, hv => by cases hv

theorem callT_quiet {h : FH} {l : List Vl} {m : Mem} {id : Nat} {r : AV × Mem} (h1 : h.ps.all isVal = true) (h2 : h.rs.all isVal = true) (h3 : h.rs.all flatVS = true) (hr : (callT h l m id).run = some r) : r.2 = m := by
  unfold callT at hr
  split at hr
  · rename_i x fs os hx
    have hos := exVs_val h1 hx
    subst hos
    have hb : (backs h.ps).all flatVS = true := by rw [backs_val h1]; rfl
    rw [h3, hb] at hr
    cases hc : (sep fs [] && fresh m id 8) with
    | false => rw [hc] at hr; cases hr
    | true =>
      rw [hc] at hr
      simp only [cond_true, Tr.run] at hr
      obtain ⟨y, _, hr⟩ := Option.bind_eq_some_iff.1 hr
      split at hr
      · rename_i m' n hp
        have hp' := putBacks_val h1 hp
        cases hp'
        have hm := mkVs_val (x := y.1) (m := (kill (bif true && true then m else freeze m fs) [])) (n := id) h2
        revert hr
        generalize mkVs h.rs y.1 (kill (bif true && true then m else freeze m fs) []) id = q at hm
        obtain ⟨l2, m2, n2⟩ := q
        intro hr
        simp only at hr
        cases hn : Nat.ble n2 (id + 8) with
        | false => rw [hn] at hr; cases hr
        | true =>
          rw [hn] at hr
          cases hr
          exact hm
      · cases hr
  · cases hr

theorem quiet_mem {o : Op} {id : Nat} {r : AV × Mem} (hq : quietOp H o = true) (hr : (opT e H o id s).run = some r) : r.2 = s.mem := by
  unfold quietOp at hq
  cases hp : pureOp o with
  | true =>
    have := (opT_pure (s2 := s) (id2 := id) hp hr (fun _ _ => rfl) (fun _ _ => rfl)).1
    rw [hr] at this
    exact congrArg Prod.snd (Option.some.inj this)
  | false =>
    rw [hp, Bool.false_or] at hq
    split at hq
    · rename_i c
      split at hq
      · rename_i g hc
        split at hq
        · rename_i h hh
          rw [Bool.and_eq_true, Bool.and_eq_true] at hq
          unfold opT at hr
          simp only [hc] at hr
          split at hr
          · rename_i g' caps l hg hl
            have hg' : (AV.v (Vl.one (CV.clo g []))) = .v (.one (.clo g' caps)) := hg
            cases hg'
            rw [hh] at hr
            exact callT_quiet hq.1 hq.2.1 hq.2.2 hr
          · cases hr
        · cases hq
      · cases hq
    · cases hq

/-! ### A short circuit -/
def dstsOf : List Oper → List Nat
  | [] => []
  | o :: r => match o.dst with
    | some d => d :: dstsOf r
    | none => dstsOf r

theorem junkAll_get : ∀ {l : List Oper} {sl : List AV} {k : Nat}, k ∉ dstsOf l → (junkAll sl l)[k]? = sl[k]?
  | [], _, _, _ => rfl
  | o :: r, sl, k, h => by
    unfold junkAll
    unfold dstsOf at h
    cases hd : o.dst with
    | none =>
      rw [hd] at h
      exact junkAll_get (l := r) h
    | some d =>
      rw [hd] at h
      simp only [List.mem_cons, not_or] at h
      simp only
      rw [junkAll_get (l := r) h.2, List.getElem?_set, if_neg (fun hh => h.1 hh.symm)]
theorem junkAll_junk : ∀ {l : List Oper} {sl : List AV} {k : Nat} {x : AV}, k ∈ dstsOf l → (junkAll sl l)[k]? = some x → x = AV.junk
  | [], _, _, _, h, _ => by cases h
  | o :: r, sl, k, x, h, hx => by
    unfold junkAll at hx
    unfold dstsOf at h
    by_cases hk : k ∈ dstsOf r
    · cases hd : o.dst with
      | none =>
        rw [hd] at hx
        exact junkAll_junk (l := r) hk hx
      | some d =>
        rw [hd] at hx
        exact junkAll_junk (l := r) hk hx
    · cases hd : o.dst with
      | none =>
        rw [hd] at h
        exact absurd h hk
      | some d =>
        rw [hd] at h hx
        simp only [List.mem_cons] at h
        rcases h with h | h
        · subst h
          simp only at hx
          rw [junkAll_get (l := r) hk, List.getElem?_set, if_pos rfl] at hx
          split at hx
          · exact (Option.some.inj hx).symm
          · cases hx
        · exact absurd h hk
theorem junkAll_len : ∀ {l : List Oper} {sl : List AV}, (junkAll sl l).length = sl.length
  | [], _ => rfl
  | o :: r, sl => by
    unfold junkAll
    cases hd : o.dst with
    | none => exact junkAll_len (l := r)
    | some d =>
      simp only
      rw [junkAll_len (l := r), List.length_set]

/-- What a short circuit leaves. -/
structure Left (l : List Oper) (d : Nat) (b : Bool) (s s' : St) : Prop where
  len : s'.slots.length = s.slots.length
  mem : s'.mem = s.mem
  keep : ∀ k, k ∉ dstsOf l → s'.slots[k]? = s.slots[k]?
  res : s'.get d = .v (.one (.bool b))

theorem merged_rel {l : List Oper} {d : Nat} {b : Bool} {s' : St} (hl : Left l d b s s') (h : RelC e Γ C s' a w) : RelC e Γ C (s.merged l d b) a w := by
  have hlen : (s.merged l d b).slots.length = s.slots.length := by
    unfold St.merged
    rw [List.length_set, junkAll_len]
  refine ⟨h.defers, by rw [hlen, ← hl.len]; exact h.len, fun k x v hx hv => ?_, h.par, by have := h.mem; rw [hl.mem] at this; exact this, h.W⟩
  unfold St.merged at hx
  rw [List.getElem?_set] at hx
  split at hx
  · rename_i hk
    subst hk
    split at hx
    · have hx' := Option.some.inj hx
      have hr := hl.res
      unfold St.get at hr
      rw [List.getD_eq_getElem?_getD] at hr
      cases hq : s'.slots[d]? with
      | none =>
        rw [hq] at hr
        cases hr
      | some y =>
        rw [hq] at hr
        have : y = .v (.one (.bool b)) := hr
        rw [← hx', ← this]
        exact h.slots d y v hq hv
    · cases hx
  · by_cases hk : k ∈ dstsOf l
    · rw [junkAll_junk hk hx]
      exact trivial
    · rw [junkAll_get hk] at hx
      exact h.slots k x v (by rw [hl.keep k hk]; exact hx) hv

theorem stepT_quiet {ops : List Oper} {i : Nat} {o : Oper} {s' : St} (hq : quietOp H o.op = true) (hs : (stepT e H ops i o s).run = some s') : s'.mem = s.mem ∧ s'.slots.length = s.slots.length ∧ ∀ k, o.dst ≠ some k → s'.slots[k]? = s.slots[k]? := by
  have key : ∀ (r : AV × Mem) (k : Nat), o.dst ≠ some k → (s.put o.dst r).slots[k]? = s.slots[k]? := fun r k hk => by
    unfold St.put
    split
    · rename_i d hd
      rw [List.getElem?_set, if_neg (fun hh => hk (by rw [hd, hh]))]
    · rfl
  unfold stepT at hs
  split at hs
  · cases hs
  rename_i b hg
  cases b with
  | false =>
    simp only [Tr.run, cond_false] at hs
    cases hs
    exact ⟨rfl, put_len' _ _ _, key _⟩
  | true =>
    simp only [Tr.run, cond_true] at hs
    rw [Tr.run_bind] at hs
    obtain ⟨r, hr, hs⟩ := Option.bind_eq_some_iff.1 hs
    cases hs
    exact ⟨quiet_mem hq hr, put_len' _ _ _, key _⟩

theorem grp_sound {ops : Array Oper} {Q : Exit → Act → World → Prop} {d : Nat} {b : Bool} (hok : EnvOk P e) (hH : ∀ g h, H g = some h → Con P e g h) (hwr : wrOps Γ.np ops.toList = true) :
    ∀ (l : List Oper) (i m : Nat) (s : St) (C : Ctx) (a : Act) (w : World), (∀ j o, l[j]? = some o → ops[i + j]? = some o) → l.all (fun o => quietOp H o.op) = true → (grp e H ops.toList d i l s).run = some b → RelC e Γ C s a w →
    (∀ s' C' a' w', Left l d b s s' → RelC e Γ C' s' a' w' → wpOps P ops Q (List.range' (i + l.length) m) a' w') → wpOps P ops Q (List.range' i (l.length + m)) a w
  | [], i, m, s, C, a, w, _, _, hr, h, hQ => by
    unfold grp at hr
    rw [List.length_nil, Nat.zero_add]
    refine hQ s C a w ⟨rfl, rfl, fun _ _ => rfl, ?_⟩ h
    split at hr
    · rename_i b' hb
      cases hr
      exact hb
    · cases hr
  | o :: l, i, m, s, C, a, w, hl, hq, hr, h, hQ => by
    unfold grp at hr
    rw [Tr.run_bind, stepG_run] at hr
    obtain ⟨s1, hs1, hr⟩ := Option.bind_eq_some_iff.1 hr
    rw [List.all_cons, Bool.and_eq_true] at hq
    have hi : ops[i]? = some o := hl 0 o rfl
    rw [List.length_cons, show l.length + 1 + m = (l.length + m) + 1 by omega, List.range'_succ, wpOps_cons]
    refine stepT_sound hok hH hi (wrOps_get hwr (by rw [Array.getElem?_toList]; exact hi)) hs1 h fun hlen C' a' w' h' => ?_
    refine grp_sound hok hH hwr l (i + 1) m s1 C' a' w' (fun j o' hj => ?_) hq.2 hr h' fun s' C2 a2 w2 h1 h2 => ?_
    · have := hl (j + 1) o' (by simpa using hj)
      rw [← this]
      congr 1
      omega
    · obtain ⟨g1, g2, g3⟩ := stepT_quiet hq.1 hs1
      have := hQ s' C2 a2 w2 ⟨h1.len.trans g2, h1.mem.trans g1, fun k hk => ?_, h1.res⟩ h2
      · rw [List.length_cons, show i + (l.length + 1) = i + 1 + l.length by omega] at this
        exact this
      · unfold dstsOf at hk
        cases hd : o.dst with
        | none =>
          rw [hd] at hk
          rw [h1.keep k hk, g3 k (by rw [hd]; intro hh; cases hh)]
        | some d' =>
          rw [hd] at hk
          simp only [List.mem_cons, not_or] at hk
          rw [h1.keep k hk.2, g3 k (by rw [hd]; intro hh; exact hk.1 (Option.some.inj hh).symm)]

theorem grpLen_le : ∀ {l : List Oper} {n d : Nat}, grpLen l = some (n, d) → n + 1 ≤ l.length
  | [], _, _, h => by cases h
  | o :: r, n, d, h => by
    unfold grpLen at h
    split at h
    · split at h
      · rename_i n' d' h'
        cases h
        have := grpLen_le h'
        rw [List.length_cons]
        omega
      · cases h
    · rw [List.length_cons]
      split at h
      · split at h
        · cases h
          omega
        · cases h
      · cases h
theorem grpAt_of {o : Oper} {r : List Oper} {n d : Nat} (h : grpAt H o r = some (n, d)) : n ≤ r.length ∧ (o :: r.take n).all (fun o => quietOp H o.op) = true := by
  unfold grpAt at h
  split at h
  · cases h
  · split at h
    · rename_i n' d' h'
      cases hc : (quietOp H o.op && (r.take (n' + 1)).all (fun o => quietOp H o.op)) with
      | false => rw [hc] at h; cases h
      | true =>
        rw [hc] at h
        cases h
        exact ⟨grpLen_le h', by rw [List.all_cons]; exact hc⟩
    · cases h

theorem evOps_sound {R : Type} {ops : Array Oper} {Q : Exit → Act → World → Prop} {K : St → Option R} {r : R} (hok : EnvOk P e) (hH : ∀ g h, H g = some h → Con P e g h) (hwr : wrOps Γ.np ops.toList = true) :
    ∀ (l : List Oper) (i k : Nat) (s : St) (C : Ctx) (a : Act) (w : World), k ≤ l.length → (∀ j o, l[j]? = some o → ops[i + j]? = some o) → evOps e H ops.toList i k l s K = some r → RelC e Γ C s a w →
    (∀ s' C' a' w', s'.slots.length = s.slots.length → RelC e Γ C' s' a' w' → K s' = some r → Q .normal a' w') → wpOps P ops Q (List.range' (i + k) (l.length - k)) a w
  | [], i, k, s, C, a, w, hk, _, hr, h, hQ => by
    have : k = 0 := by simpa using hk
    subst this
    unfold evOps at hr
    exact hQ ⟨s.slots, s.mem, s.next + 8 * i⟩ C a w rfl ⟨h.defers, h.len, h.slots, h.par, h.mem, h.W⟩ hr
  | o :: l, i, k + 1, s, C, a, w, hk, hl, hr, h, hQ => by
    unfold evOps at hr
    rw [List.length_cons] at hk ⊢
    rw [show i + (k + 1) = i + 1 + k by omega, show l.length + 1 - (k + 1) = l.length - k by omega]
    refine evOps_sound hok hH hwr l (i + 1) k s C a w (by omega) (fun j o' hj => ?_) hr h hQ
    have := hl (j + 1) o' (by simpa using hj)
    rw [← this]
    congr 1
    omega
  | o :: l, i, 0, s, C, a, w, hk, hl, hr, h, hQ => by
    have hi : ops[i]? = some o := hl 0 o rfl
    have hl' : ∀ j o', l[j]? = some o' → ops[i + 1 + j]? = some o' := fun j o' hj => by
      have := hl (j + 1) o' (by simpa using hj)
      rw [← this]
      congr 1
      omega
    unfold evOps at hr
    rw [Nat.add_zero, Nat.sub_zero]
    split at hr
    · rename_i n d hg
      obtain ⟨hn, hq⟩ := grpAt_of hg
      obtain ⟨b, hb, hr⟩ := Option.bind_eq_some_iff.1 hr
      rw [Tr.runJ_eq] at hb
      have hlen : (o :: l.take n).length = n + 1 := by rw [List.length_cons, List.length_take, Nat.min_eq_left hn]
      have := grp_sound (Q := Q) hok hH hwr (o :: l.take n) i (l.length - n) s C a w (fun j o' hj => ?_) hq hb h fun s' C' a' w' h1 h2 => ?_
      · rw [hlen, show n + 1 + (l.length - n) = (o :: l).length by rw [List.length_cons]; omega] at this
        exact this
      · cases j with
        | zero =>
          have : o = o' := by simpa using hj
          subst this
          exact hi
        | succ j =>
          have hj' : (l.take n)[j]? = some o' := by simpa using hj
          rw [List.getElem?_take] at hj'
          split at hj'
          · have := hl' j o' hj'
            rw [← this]
            congr 1
            omega
          · cases hj'
      · rw [hlen, show i + (n + 1) = i + 1 + n by omega]
        have hmlen : (s.merged (o :: l.take n) d b).slots.length = s.slots.length := by
          unfold St.merged
          rw [List.length_set, junkAll_len]
        exact evOps_sound hok hH hwr l (i + 1) n _ C' a' w' hn hl' hr (merged_rel h1 h2) fun s2 C2 a2 w2 q1 q2 q3 => hQ s2 C2 a2 w2 (q1.trans hmlen) q2 q3
    · rw [Tr.cps_run, stepG_run] at hr
      obtain ⟨s1, hs1, hr⟩ := Option.bind_eq_some_iff.1 hr
      rw [List.length_cons, List.range'_succ, wpOps_cons]
      refine stepT_sound hok hH hi (wrOps_get hwr (by rw [Array.getElem?_toList]; exact hi)) hs1 h fun hlen C' a' w' h' => ?_
      have := evOps_sound hok hH hwr l (i + 1) 0 s1 C' a' w' (Nat.zero_le _) hl' hr h' fun s' C2 a2 w2 h1 h2 h3 => hQ s' C2 a2 w2 (h1.trans hlen) h2 h3
      rw [Nat.add_zero, Nat.sub_zero] at this
      exact this

end Go.Ev
