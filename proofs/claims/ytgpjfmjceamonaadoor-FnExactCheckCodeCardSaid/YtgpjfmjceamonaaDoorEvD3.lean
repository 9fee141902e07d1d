/-
  The abstract evaluator: what an operation may change in memory.
-/
import Derived.Test.YtgpjfmjceamonaaDoorEvD2
namespace Go.Ev
variable {e : Env} {H : Nat → Option FH} {s : St}

/-! ### Blocks that values lead to -/
theorem rowOf_ids {m : Mem} {t : Ty} {c : CV} {xs : List t.den} {os : List Nat} (h : rowOf m t c = some (xs, os)) : ∀ o, o ∈ os → o ∈ cv1 c := by
  unfold rowOf at h
  split at h
  · cases h; intro o ho; cases ho
  · split at h
    · cases h; intro o ho; cases ho
    · cases h
  · split at h
    · split at h
      · cases h; intro o ho; exact ho
      · cases h
    · split at h
      · cases h; intro o ho; cases ho
      · cases h
    · cases h
  · cases h

theorem pack_ids {m : Mem} : ∀ {t : Ty} {cs : List CV} {x : t.den} {r : List CV} {os : List Nat}, t.pack m cs = some (x, r, os) → (∀ o, o ∈ os → o ∈ cs.flatMap cv1) ∧ ∀ c, c ∈ r → c ∈ cs
  | .int k, .int k' n :: r, x, r', os, h => by
    simp only [Ty.pack] at h
    cases hk : IK.beq k' k with
    | false => rw [hk] at h; cases h
    | true => rw [hk] at h; cases h; exact ⟨fun _ ho => (by cases ho), fun c hc => List.mem_cons_of_mem _ hc⟩
  | .bool, .bool b :: r, x, r', os, h => by
    simp only [Ty.pack] at h
    cases h; exact ⟨fun _ ho => (by cases ho), fun c hc => List.mem_cons_of_mem _ hc⟩
  | .str, .str b :: r, x, r', os, h => by
    simp only [Ty.pack] at h
    cases h; exact ⟨fun _ ho => (by cases ho), fun c hc => List.mem_cons_of_mem _ hc⟩
  | .flt, .flt b :: r, x, r', os, h => by
    simp only [Ty.pack] at h
    cases h; exact ⟨fun _ ho => (by cases ho), fun c hc => List.mem_cons_of_mem _ hc⟩
  | .row t, c :: r, x, r', os, h => by
    simp only [Ty.pack] at h
    split at h
    · rename_i ys os' hq
      cases h
      exact ⟨fun o ho => by rw [List.flatMap_cons]; exact List.mem_append.2 (.inl (rowOf_ids hq o ho)), fun c hc => List.mem_cons_of_mem _ hc⟩
    · cases h
  | .st t, cs, x, r, os, h => pack_ids (t := t) (x := x) (show t.pack m cs = _ by cases cs <;> exact h)
  | .pair a b, cs, x, r, os, h => by
    have h' : (match a.pack m cs with
      | some (x, r, os) => match b.pack m r with
        | some (y, r', os') => some ((x, y), r', os ++ os')
        | none => none
      | none => none) = some (x, r, os) := by cases cs <;> exact h
    split at h'
    · rename_i x1 r1 os1 hq1
      split at h'
      · rename_i y1 r2 os2 hq2
        cases h'
        obtain ⟨a1, a2⟩ := pack_ids hq1
        obtain ⟨b1, b2⟩ := pack_ids hq2
        refine ⟨fun o ho => ?_, fun c hc => a2 c (b2 c hc)⟩
        rcases List.mem_append.1 ho with ho | ho
        · exact a1 o ho
        · obtain ⟨c, hc, hoc⟩ := List.mem_flatMap.1 (b1 o ho)
          exact List.mem_flatMap.2 ⟨c, a2 c hc, hoc⟩
      · cases h'
    · cases h'

theorem exOwn_ids {m : Mem} {E : Nat} {t : Ty} {c : CV} {xs : List t.den} {os : List Nat} (h : exCells.exOwn m E t c = some (xs, os)) : ∀ o, o ∈ os → o ∈ cv1 c := by
  unfold exCells.exOwn at h
  split at h
  · cases h; intro o ho; cases ho
  · split at h
    · rename_i E' t' ys hg
      cases hq : Nat.beq E' E with
      | false => rw [hq] at h; cases h
      | true =>
        rw [hq] at h
        simp only [cond_true] at h
        split at h
        · cases h; intro o ho; exact ho
        · cases h
    · cases h
  · cases h

theorem exCells_ids {m : Mem} : ∀ {cs : List CS} {l : List CV} {x : CS.dens cs} {fs os : List Nat}, exCells m cs l = some (x, fs, os) → ∀ o, o ∈ fs ++ os → o ∈ l.flatMap cv1
  | [], [], x, fs, os, h => by cases h; intro o ho; cases ho
  | .sc t :: r, l, x, fs, os, h => by
    have h' : (match t.pack m l with
      | some (x, l', fs) => match exCells m r l' with
        | some (y, fs', os) => some ((x, y), fs ++ fs', os)
        | none => none
      | none => none) = some (x, fs, os) := by cases l <;> exact h
    split at h'
    · rename_i x1 l1 f1 hq1
      split at h'
      · rename_i y1 f2 o2 hq2
        cases h'
        obtain ⟨a1, a2⟩ := pack_ids hq1
        have b1 := exCells_ids hq2
        intro o ho
        have hback : ∀ o, o ∈ l1.flatMap cv1 → o ∈ l.flatMap cv1 := fun o ho => by
          obtain ⟨c, hc, hoc⟩ := List.mem_flatMap.1 ho
          exact List.mem_flatMap.2 ⟨c, a2 c hc, hoc⟩
        rcases List.mem_append.1 ho with ho | ho
        · rcases List.mem_append.1 ho with ho | ho
          · exact a1 o ho
          · exact hback o (b1 o (List.mem_append.2 (.inl ho)))
        · exact hback o (b1 o (List.mem_append.2 (.inr ho)))
      · cases h'
    · cases h'
  | .own E t :: r, c :: l, x, fs, os, h => by
    simp only [exCells] at h
    split at h
    · rename_i x1 o1 hq1
      split at h
      · rename_i y1 f2 o2 hq2
        cases h
        have a1 := exOwn_ids hq1
        have b1 := exCells_ids hq2
        intro o ho
        rw [List.flatMap_cons]
        rcases List.mem_append.1 ho with ho | ho
        · exact List.mem_append.2 (.inr (b1 o (List.mem_append.2 (.inl ho))))
        · rcases List.mem_append.1 ho with ho | ho
          · exact List.mem_append.2 (.inl (a1 o ho))
          · exact List.mem_append.2 (.inr (b1 o (List.mem_append.2 (.inr ho))))
      · cases h
    · cases h

theorem cv1_cv2 {m : Mem} {l : List CV} {o : Nat} (h : o ∈ l.flatMap cv1) : o ∈ l.flatMap (cv2 m) := by
  obtain ⟨c, hc, hoc⟩ := List.mem_flatMap.1 h
  exact List.mem_flatMap.2 ⟨c, hc, List.mem_append.2 (.inl hoc)⟩

theorem packV_ids {m : Mem} {t : Ty} {x : Vl} {y : t.den} {fs : List Nat} (h : packV m t x = some (y, fs)) : ∀ o, o ∈ fs → o ∈ x.cells.flatMap cv1 := by
  unfold packV at h
  cases hq : packV.Bool.beq' t.isSt x.isAgg with
  | false => rw [hq] at h; cases h
  | true =>
    rw [hq] at h
    simp only [cond_true] at h
    split at h
    · rename_i y' fs' hp
      cases h
      exact (pack_ids hp).1
    · cases h

theorem exV_ids {m : Mem} {v : VS} {l : Vl} {x : v.den} {fs os : List Nat} (h : exV m v l = some (x, fs, os)) : ∀ o, o ∈ fs ++ os → o ∈ l.cells.flatMap (cv2 m) := by
  cases v with
  | val t =>
    have h' : (match packV m t l with
      | some (y, fs) => some (y, fs, ([] : List Nat))
      | none => none) = some (x, fs, os) := by cases l <;> exact h
    split at h'
    · rename_i y f hp
      cases h'
      intro o ho
      rw [List.append_nil] at ho
      exact cv1_cv2 (packV_ids hp o ho)
    · cases h'
  | own E t =>
    cases l with
    | agg cs => cases h
    | one c =>
      simp only [exV] at h
      split at h
      · rename_i y o hp
        cases h
        intro o ho
        exact cv1_cv2 (by simpa [Vl.cells] using exOwn_ids hp o ho)
      · cases h
  | eat E t =>
    cases l with
    | agg cs => cases h
    | one c =>
      simp only [exV] at h
      split at h
      · rename_i y o hp
        cases h
        intro o ho
        exact cv1_cv2 (by simpa [Vl.cells] using exOwn_ids hp o ho)
      · cases h
  | box T cs =>
    cases l with
    | agg cs' => cases h
    | one c =>
    cases c <;> first | (cases h; done) | skip
    rename_i b off
    cases off with
    | succ n => cases h
    | zero =>
      simp only [exV] at h
      split at h
      · rename_i T2 l hg
        cases hq : Nat.beq T2 T with
        | false => rw [hq] at h; cases h
        | true =>
          rw [hq] at h
          simp only [cond_true] at h
          split at h
          · rename_i x1 f1 o1 hq1
            cases h
            have a1 := exCells_ids hq1
            have hbx : ∀ o, o ∈ l.flatMap cv1 → o ∈ (Vl.one (.pbox b 0)).cells.flatMap (cv2 m) := fun o ho => by
              simp only [Vl.cells, List.flatMap_cons, List.flatMap_nil, List.append_nil, cv2, cv1, boxIds, hg]
              exact List.mem_append.2 (.inr ho)
            intro o ho
            rcases List.mem_append.1 ho with ho | ho
            · exact hbx o (a1 o (List.mem_append.2 (.inl ho)))
            · rcases List.mem_cons.1 ho with rfl | ho
              · simp [Vl.cells, cv2, cv1]
              · exact hbx o (a1 o (List.mem_append.2 (.inr ho)))
          · cases h
      · cases h
  | mp =>
    cases l with
    | agg cs' => cases h
    | one c =>
    cases c <;> first | (cases h; done) | skip
    rename_i o
    simp only [exV] at h
    split at h
    · rename_i es hg
      cases h
      intro o' ho
      exact cv1_cv2 (by simpa [Vl.cells, cv1] using ho)
    · cases h
  | rc cs =>
    cases l with
    | one c => cases h
    | agg l => exact fun o ho => cv1_cv2 (exCells_ids h o ho)

theorem exVs_ids {m : Mem} : ∀ {vs : List VS} {l : List Vl} {x : VS.dens vs} {fs os : List Nat}, exVs m vs l = some (x, fs, os) → ∀ o, o ∈ fs ++ os → o ∈ (l.flatMap Vl.cells).flatMap (cv2 m)
  | [], [], x, fs, os, h => by cases h; intro o ho; cases ho
  | v :: r, c :: l, x, fs, os, h => by
    simp only [exVs] at h
    split at h
    · rename_i x1 f1 o1 hq1
      split at h
      · rename_i y1 f2 o2 hq2
        cases h
        have a1 := exV_ids hq1
        have b1 := exVs_ids hq2
        intro o ho
        rw [List.flatMap_cons, List.flatMap_append]
        have hl : o ∈ f1 ++ o1 ∨ o ∈ f2 ++ o2 := by
          rcases List.mem_append.1 ho with ho | ho
          · exact (List.mem_append.1 ho).imp (fun h => List.mem_append.2 (.inl h)) (fun h => List.mem_append.2 (.inl h))
          · exact (List.mem_append.1 ho).imp (fun h => List.mem_append.2 (.inr h)) (fun h => List.mem_append.2 (.inr h))
        exact List.mem_append.2 (hl.imp (a1 o) (b1 o))
      · cases h
    · cases h

/-! ### What stays in memory -/
theorem kill_keep {os : List Nat} {m : Mem} {b : Nat} (h : b ∉ os) : mget (kill m os) b = mget m b := by rw [kill_get, if_neg h]

theorem mkCells_keep : ∀ (cs : List CS) (x : CS.dens cs) (m : Mem) (n b : Nat), ¬ (n ≤ b ∧ b < n + cntC cs) → mget (mkCells cs x m n).2.1 b = mget m b
  | [], _, _, _, _, _ => rfl
  | .sc t :: r, x, m, n, b, h => mkCells_keep r x.2 m n b h
  | .own E t :: r, x, m, n, b, h => by
    have e0 : cntC (.own E t :: r) = cntC r + 1 := rfl
    show mget (mkCells r x.2 (mput m n (.row E t x.1)) (n + 1)).2.1 b = _
    rw [mkCells_keep r x.2 _ (n + 1) b (by omega), mget_mput, if_neg (by omega)]
theorem mkV_keep : ∀ (v : VS) (x : v.den) (m : Mem) (n b : Nat), ¬ (n ≤ b ∧ b < n + cntV v) → mget (mkV v x m n).2.1 b = mget m b
  | .val _, _, _, _, _, _ => rfl
  | .own E t, x, m, n, b, h => by
    have e0 : cntV (.own E t) = 1 := rfl
    show mget (mput m n _) b = _
    rw [mget_mput, if_neg (by omega)]
  | .eat E t, x, m, n, b, h => by
    have e0 : cntV (.eat E t) = 1 := rfl
    show mget (mput m n _) b = _
    rw [mget_mput, if_neg (by omega)]
  | .box T cs, x, m, n, b, h => by
    have e0 : cntV (.box T cs) = cntC cs + 1 := rfl
    show mget (mput (mkCells cs x m (n + 1)).2.1 n _) b = _
    rw [mget_mput, if_neg (by omega), mkCells_keep cs x m (n + 1) b (by omega)]
  | .mp, x, m, n, b, h => by
    have e0 : cntV .mp = 1 := rfl
    show mget (mput m n _) b = _
    rw [mget_mput, if_neg (by omega)]
  | .rc cs, x, m, n, b, h => mkCells_keep cs x m n b h
theorem mkVs_keep : ∀ (vs : List VS) (x : VS.dens vs) (m : Mem) (n b : Nat), ¬ (n ≤ b ∧ b < n + cntVs vs) → mget (mkVs vs x m n).2.1 b = mget m b
  | [], _, _, _, _, _ => rfl
  | v :: r, x, m, n, b, h => by
    have e0 : cntVs (v :: r) = cntV v + cntVs r := rfl
    show mget (mkVs r x.2 (mkV v x.1 m n).2.1 (mkV v x.1 m n).2.2).2.1 b = _
    rw [mkVs_keep r x.2 _ _ b (by rw [mkV_cnt]; omega), mkV_keep v x.1 m n b (by omega)]

theorem putBacks_keep : ∀ {ps : List VS} {m : Mem} {n : Nat} {l : List Vl} {x : VS.dens (backs ps)} {m' : Mem} {n' : Nat}, putBacks m n ps l x = some (m', n') → ∀ b, ¬ (n ≤ b ∧ b < n') → b ∉ (l.flatMap Vl.cells).flatMap cv1 → mget m' b = mget m b
  | [], m, n, [], x, m', n', h, b, _, _ => by cases h; rfl
  | .val _ :: r, m, n, c :: l, x, m', n', h, b, h1, h2 => putBacks_keep (ps := r) (m := m) (n := n) (l := l) (x := x) (m' := m') (n' := n') (by cases c <;> exact h) b h1 (fun hh => h2 (by rw [List.flatMap_cons, List.flatMap_append]; exact List.mem_append.2 (.inr hh)))
  | .eat _ _ :: r, m, n, c :: l, x, m', n', h, b, h1, h2 => putBacks_keep (ps := r) (m := m) (n := n) (l := l) (x := x) (m' := m') (n' := n') (by cases c <;> exact h) b h1 (fun hh => h2 (by rw [List.flatMap_cons, List.flatMap_append]; exact List.mem_append.2 (.inr hh)))
  | .rc _ :: r, m, n, c :: l, x, m', n', h, b, h1, h2 => putBacks_keep (ps := r) (m := m) (n := n) (l := l) (x := x) (m' := m') (n' := n') (by cases c <;> exact h) b h1 (fun hh => h2 (by rw [List.flatMap_cons, List.flatMap_append]; exact List.mem_append.2 (.inr hh)))
  | .own E t :: r, m, n, .one c :: l, x, m', n', h, b, h1, h2 => by
    have h3 : b ∉ (l.flatMap Vl.cells).flatMap cv1 := fun hh => h2 (by rw [List.flatMap_cons, List.flatMap_append]; exact List.mem_append.2 (.inr hh))
    cases c <;> first | (cases h; done) | skip
    · exact putBacks_keep (ps := r) (x := x.2) h b h1 h3
    · rename_i o
      have hne : b ≠ o := fun hh => h2 (by rw [hh]; simp [Vl.cells, cv1])
      rw [putBacks_keep (ps := r) (x := x.2) h b h1 h3, mget_mput, if_neg hne]
  | .box T cs :: r, m, n, .one c :: l, x, m', n', h, b, h1, h2 => by
    have h3 : b ∉ (l.flatMap Vl.cells).flatMap cv1 := fun hh => h2 (by rw [List.flatMap_cons, List.flatMap_append]; exact List.mem_append.2 (.inr hh))
    cases c <;> first | (cases h; done) | skip
    rename_i o off
    have hne : b ≠ o := fun hh => h2 (by rw [hh]; simp [Vl.cells, cv1])
    have h' : putBacks (mput (mkCells cs x.1 m n).2.1 o (.box T (mkCells cs x.1 m n).1)) (mkCells cs x.1 m n).2.2 r l x.2 = some (m', n') := h
    have hcnt := putBacks_cnt h'
    rw [mkCells_cnt] at hcnt
    rw [putBacks_keep (ps := r) (x := x.2) h' b (by rw [mkCells_cnt]; omega) h3, mget_mput, if_neg hne, mkCells_keep cs x.1 m n b (by omega)]
  | .mp :: r, m, n, .one c :: l, x, m', n', h, b, h1, h2 => by
    have h3 : b ∉ (l.flatMap Vl.cells).flatMap cv1 := fun hh => h2 (by rw [List.flatMap_cons, List.flatMap_append]; exact List.mem_append.2 (.inr hh))
    cases c <;> first | (cases h; done) | skip
    rename_i o
    have hne : b ≠ o := fun hh => h2 (by rw [hh]; simp [Vl.cells, cv1])
    rw [putBacks_keep (ps := r) (x := x.2) h b h1 h3, mget_mput, if_neg hne]

theorem ids8 {id b : Nat} (h : b ∉ [id, id + 1, id + 2, id + 3, id + 4, id + 5, id + 6, id + 7]) : ¬ (id ≤ b ∧ b < id + 8) := by
  simp only [List.mem_cons, List.not_mem_nil, or_false, not_or] at h
  omega

theorem callT_keep {h : FH} {l : List Vl} {m : Mem} {id : Nat} {r : AV × Mem} (hr : (callT h l m id).run = some r) {b : Nat} (hid : ¬ (id ≤ b ∧ b < id + 8)) (hb : b ∉ (l.flatMap Vl.cells).flatMap (cv2 m)) : mget r.2 b = mget m b := by
  unfold callT at hr
  split at hr
  rotate_left
  · cases hr
  rename_i x fs os hex
  have hids := exVs_ids hex
  obtain ⟨hq, hr⟩ := bif_some hr
  simp only [Tr.run] at hr
  obtain ⟨y, hy, hr⟩ := Option.bind_eq_some_iff.1 hr
  split at hr
  rotate_left
  · cases hr
  rename_i m' n' hp
  have hr' : (bif Nat.ble (mkVs h.rs y.1 m' n').2.2 (id + 8) then Tr.ret (resAV (mkVs h.rs y.1 m' n').1, (mkVs h.rs y.1 m' n').2.1) else .fail).run = some r := hr
  obtain ⟨hn, hr'⟩ := bif_some hr'
  have hn := Nat.le_of_ble_eq_true hn
  rw [mkVs_cnt] at hn
  have hcnt := putBacks_cnt hp
  cases hr'
  have h1 : b ∉ fs := fun hh => hb (hids b (List.mem_append.2 (.inl hh)))
  have h2 : b ∉ os := fun hh => hb (hids b (List.mem_append.2 (.inr hh)))
  rw [mkVs_keep h.rs y.1 m' n' b (by omega), putBacks_keep hp b (by omega) (fun hh => hb (cv1_cv2 hh)), kill_keep h2]
  cases (h.rs.all flatVS && (backs h.ps).all flatVS) with
  | true => rfl
  | false => exact freeze_get h1

end Go.Ev
