/-
  The abstract evaluator: struct literals, maps, function values.
-/
import Derived.Test.YtgpjfmjceamonaaDoorEv14
import Derived.WideMake
namespace Go.Ev
variable {P : Program} {e : Env} {Γ : Actv} {C : Ctx} {s : St} {a : Act} {w : World} {o : Oper} {id : Nat} {r : AV × Mem}

/-! ### Struct literals -/
theorem places_of (P : Program) : ∀ {l : List (Nat × Nat × Bool)} {fs : List Field}, All2 (fun (p : Nat × Nat × Bool) (f : Field) => f.offset = p.1 ∧ p.2.1 ≠ 0 ∧ ∃ inf d, P.info? f.type = some inf ∧ inf.size = p.2.1 ∧ P.underlying f.type = some d ∧ aggD d = p.2.2) l fs →
    fs.mapM (fun f => (P.info? f.type).map fun i => (f.offset, i.size)) = some (l.map fun p => (p.1, p.2.1))
  | [], [], _ => rfl
  | p :: l, f :: fs, h => by
    obtain ⟨⟨h1, _, inf, d, h2, h3, _⟩, h4⟩ := h
    rw [List.mapM_cons, places_of P h4, h2]
    simp [h1, h3]

theorem buildCells_rel (h : RelC e Γ C s a w) {S : Nat} {l : List (Nat × Nat × Bool)} (hl : look e.flds S = some l) : ∀ {parts : List (Nat × Operand)} {cs0 cs : List CV} {z : Array Value}, buildCells e s S parts cs0 = some cs → All2 (CRel C w) cs0 z.toList →
    ∃ out, Instr.fill (fun i => (l.map fun p => (p.1, p.2.1))[i]?) z (parts.map fun x => (x.1, a.eval x.2)) = some out ∧ All2 (CRel C w) cs out.toList
  | [], cs0, cs, z, hb, hz => by
    cases hb
    exact ⟨z, rfl, hz⟩
  | (i, x) :: r, cs0, cs, z, hb, hz => by
    unfold buildCells at hb
    split at hb
    · rename_i off n ag hf
      split at hb
      · rename_i v hv
        cases hq : (Nat.beq v.cells.length n && Nat.ble (off + n) cs0.length && noJunk v.cells) with
        | false => rw [hq] at hb; cases hb
        | true =>
          rw [hq] at hb
          simp only [cond_true] at hb
          simp only [Bool.and_eq_true] at hq
          obtain ⟨⟨h1, h2⟩, h3⟩ := hq
          have h1 := Nat.eq_of_beq_eq_true h1
          have h2 := Nat.le_of_ble_eq_true h2
          obtain ⟨hc, _⟩ := (opd_v h hv).cells h.mem h3
          have hsz : (a.eval x).cells.size = n := by rw [← Array.length_toList, ← hc.length, h1]
          have hzl : cs0.length = z.size := by rw [hz.length, Array.length_toList]
          have hfit : off + (a.eval x).cells.size ≤ z.size := by omega
          have hfc := fold_cells off (a.eval x) z hfit
          have hnew : All2 (CRel C w) (splice cs0 off v.cells) ((a.eval x).cells.zipIdx.foldl (fun (cs : Array Value) (x : Value × Nat) => cs.setIfInBounds (off + x.2) x.1) z).toList := by
            rw [hfc]
            have := splice_cells (off := off) hz hc
            rw [Array.length_toList] at this
            exact this
          obtain ⟨out, ho, hout⟩ := buildCells_rel h hl hb hnew
          refine ⟨out, ?_, hout⟩
          unfold fld at hf
          rw [hl] at hf
          have hp : (l.map fun p => (p.1, p.2.1))[i]? = some (off, n) := by
            have hf' : l[i]? = some (off, n, ag) := hf
            rw [List.getElem?_map, hf']
            rfl
          rw [List.map_cons, Instr.fill, hp]
          simp only [hsz, ne_eq, not_true_eq_false, decide_false, Bool.false_or, decide_eq_true_eq]
          rw [if_neg (by omega)]
          exact ho
      · cases hb
    · cases hb

theorem op_build (hok : EnvOk P e) {S : Nat} {parts : Array (Nat × Operand)} {t : Ty} {cs : List CV} (h : RelC e Γ C s a w) (ho : o.op = .build S parts) (ht : e.ty S = some t) (hS : (look e.flds S).isSome = true) (hb : buildCells e s S parts.toList t.zcells = some cs) :
    OpDone P e Γ C o a w (.v (.agg cs), s.mem) := by
  obtain ⟨inf, hinf, rfl⟩ := ty_some ht
  obtain ⟨it, d, z, q1, q2, q3, q4, q5, q6, q7, q8⟩ := (hok.ty S inf hinf).out
  obtain ⟨l, hl⟩ := Option.isSome_iff_exists.1 hS
  obtain ⟨fs, hu, hf⟩ := hok.fld S l hl
  have hz : All2 (CRel C w) inf.t.zcells z.cells.toList := by rw [q7]; exact zcells_rel _
  obtain ⟨out, hout, hrel⟩ := buildCells_rel h hl hb hz
  have hbuilt : P.built S (parts.map fun (p : Nat × Operand) => (p.1, a.eval p.2)).toList = some out := by
    unfold Program.built
    rw [q1, hu]
    simp only [q6, places_of P hf]
    rw [Array.toList_map, ← hout]
    congr 1
    funext i
    simp
  exact done_v (X := Instr.build S (parts.map fun (p : Nat × Operand) => (p.1, a.eval p.2))) (by unfold execOp; rw [ho]) (run_build w S _ out hbuilt) (Post.same h ⟨out, rfl, hrel⟩)

theorem buildArr_rel (h : RelC e Γ C s a w) : ∀ {parts : List (Nat × Operand)} {cs0 cs : List CV} {z : Array Value}, buildArr s parts cs0 = some cs → All2 (CRel C w) cs0 z.toList →
    ∃ out, Instr.fill (fun i => some (i * 1, 1)) z (parts.map fun x => (x.1, a.eval x.2)) = some out ∧ All2 (CRel C w) cs out.toList
  | [], cs0, cs, z, hb, hz => by
    cases hb
    exact ⟨z, rfl, hz⟩
  | (i, x) :: r, cs0, cs, z, hb, hz => by
    unfold buildArr at hb
    split at hb
    · rename_i k n hx
      cases hq : Nat.blt i cs0.length with
      | false => rw [hq] at hb; cases hb
      | true =>
        rw [hq] at hb
        simp only [cond_true] at hb
        have hlt : i < cs0.length := Nat.le_of_ble_eq_true hq
        have hv : a.eval x = .int k n := opd_one h hx
        have hzl : cs0.length = z.size := by rw [hz.length, Array.length_toList]
        have hc : All2 (CRel C w) [CV.int k n] (a.eval x).cells.toList := by rw [hv]; exact ⟨rfl, trivial⟩
        have hsz : (a.eval x).cells.size = 1 := by rw [hv]; rfl
        have hfit : i + (a.eval x).cells.size ≤ z.size := by omega
        have hfc := fold_cells i (a.eval x) z hfit
        have hnew : All2 (CRel C w) (splice cs0 i [CV.int k n]) ((a.eval x).cells.zipIdx.foldl (fun (cs : Array Value) (x : Value × Nat) => cs.setIfInBounds (i + x.2) x.1) z).toList := by
          rw [hfc]
          have := splice_cells (off := i) hz hc
          rw [Array.length_toList] at this
          exact this
        obtain ⟨out, ho, hout⟩ := buildArr_rel h hb hnew
        refine ⟨out, ?_, hout⟩
        rw [List.map_cons, Instr.fill]
        simp only [hsz, Nat.mul_one, ne_eq, not_true_eq_false, decide_false, Bool.false_or, decide_eq_true_eq]
        rw [if_neg (by omega)]
        simpa using ho
    · cases hb

theorem op_buildArr (hok : EnvOk P e) {S : Nat} {parts : Array (Nat × Operand)} {t : Ty} {cs : List CV} (h : RelC e Γ C s a w) (ho : o.op = .build S parts) (ht : e.ty S = some t) (hS : e.arrs.any (Nat.beq S) = true) (hb : buildArr s parts.toList t.zcells = some cs) :
    OpDone P e Γ C o a w (.v (.agg cs), s.mem) := by
  obtain ⟨inf, hinf, rfl⟩ := ty_some ht
  obtain ⟨it, d, z, q1, q2, q3, q4, q5, q6, q7, q8⟩ := (hok.ty S inf hinf).out
  obtain ⟨E, ie, hu, hE, hie, hsz⟩ := hok.arr S hS
  have hz : All2 (CRel C w) inf.t.zcells z.cells.toList := by rw [q7]; exact zcells_rel _
  obtain ⟨out, hout, hrel⟩ := buildArr_rel h hb hz
  have hbuilt : P.built S (parts.map fun (p : Nat × Operand) => (p.1, a.eval p.2)).toList = some out := by
    unfold Program.built
    rw [q1, hu]
    simp only [q6, hie, hsz]
    rw [Array.toList_map, ← hout]
  exact done_v (X := Instr.build S (parts.map fun (p : Nat × Operand) => (p.1, a.eval p.2))) (by unfold execOp; rw [ho]) (run_build w S _ out hbuilt) (Post.same h ⟨out, rfl, hrel⟩)

/-! ### Function values -/
theorem boxes_rel : ∀ {l : List Vl} {bs : List Nat} {vs : List Value}, opT.boxes l = some bs → All2 (VRel C w) l vs → All2 (fun b u => C.Dm b ∧ ∃ g, C.σ b = .pointer (some ⟨g, 0, none⟩) ∧ u = .pointer (some ⟨g, 0, none⟩)) bs vs
  | [], bs, [], h, _ => by cases h; trivial
  | .one c :: r, bs, v :: vs, h, hv => by
    cases c <;> first | (cases h; done) | skip
    rename_i b off
    cases off with
    | succ n => cases h
    | zero =>
      simp only [opT.boxes] at h
      split at h
      · rename_i l hl
        cases h
        exact ⟨hv.1, boxes_rel hl hv.2⟩
      · cases h

theorem op_makeFunc {f : Nat} {first caps : Array Operand} {l : List Vl} {bs : List Nat} (h : RelC e Γ C s a w) (ho : o.op = .makeFunc (.func f) first caps) (hf : first.isEmpty = true) (hl : avs s caps.toList = some l) (hb : opT.boxes l = some bs) :
    OpDone P e Γ C o a w (.v (.one (.clo f bs)), s.mem) := by
  have hr := boxes_rel hb (avs_rel h hl)
  have hfe : first = #[] := by
    have : first.size = 0 := by simpa using hf
    exact Array.eq_empty_of_size_eq_zero this
  subst hfe
  refine done_v (X := Instr.makeFunc (.func f) ((#[] : Array Operand).map a.eval) (caps.map a.eval)) (v := .func (.func f) ((#[] : Array Operand).map a.eval) (caps.map a.eval)) (w' := w) (by unfold execOp; rw [ho]) rfl (Post.same h ⟨caps.toList.map a.eval, ?_, hr⟩)
  congr 1 <;> exact Array.ext' (by simp)

/-! ### Maps of whole numbers -/
theorem op_makeMap {M : Nat} (h : RelC e Γ C s a w) (ho : o.op = .makeMap M none) (hi : fresh s.mem id 1 = true) : OpDone P e Γ C o a w (.v (.one (.mref id)), mput s.mem id (.mp [])) := by
  refine done_v (X := Instr.makeMap M none) (by unfold execOp; rw [ho]; rfl) (run_makeMap_plain w M) (post_new (x := .v (.one (.mref id))) h hi (fun g hg => by simpa [vblk] using hg.symm) rfl ?_ ⟨.inr rfl, (Ctx.add_σ _ _ _).symm⟩)
  exact ⟨w.heap.size, #[], 0, Ctx.add_σ _ _ _, heap_alloc_new w _, ⟨trivial, fun _ hm => (by cases hm), List.nodup_nil⟩, (size_D h).2, (size_D h).1⟩

theorem tlook_none (n : Int) : ∀ {tbl : List (Int × List Int)}, thas tbl n = false → tlook tbl n = [0, 0, 0, 0]
  | [], _ => rfl
  | (k, l) :: r, h => by
    unfold thas at h
    rw [Bool.or_eq_false_iff] at h
    unfold tlook
    rw [h.1]
    exact tlook_none n h.2

theorem findNow_es (n : Int) {tbl : List (Int × List Int)} : ∀ {es : List MapEntry} (i : Nat), (∀ m, m ∈ es → ∃ k, m.key = .int .i64 k ∧ thas tbl k = true ∧ m.val = tRow (tlook tbl k)) →
    (thas tbl n = true ∧ ∃ j, Instr.findNow (.int .i64) (.int .i64 n) es i = some (some (j, tRow (tlook tbl n)))) ∨
    (Instr.findNow (.int .i64) (.int .i64 n) es i = some none ∧ ∀ m, m ∈ es → m.key ≠ .int .i64 n)
  | [], i, _ => .inr ⟨rfl, fun m hm => by cases hm⟩
  | m :: es, i, h => by
    obtain ⟨k, h1, h2, h3⟩ := h m List.mem_cons_self
    have hs : Instr.sameNow (.int .i64) (.int .i64 n) m.key = some (n == k) := by rw [h1]; simp [Instr.sameNow]
    by_cases hk : k = n
    · subst hk
      refine .inl ⟨h2, i, ?_⟩
      have hs' : Instr.sameNow (.int .i64) (.int .i64 k) m.key = some true := by rw [hs]; simp
      simp only [Instr.findNow, hs']
      rw [h3]
    · have e2 : (n == k) = false := by simpa using fun hh => hk hh.symm
      rw [e2] at hs
      rcases findNow_es n (i + 1) (fun m' hm' => h m' (List.mem_cons_of_mem _ hm')) with ⟨g1, j, g2⟩ | ⟨g1, g2⟩
      · exact .inl ⟨g1, j, by simp only [Instr.findNow, hs]; exact g2⟩
      · refine .inr ⟨by simp only [Instr.findNow, hs]; exact g1, fun m' hm' => ?_⟩
        rcases List.mem_cons.1 hm' with rfl | hm'
        · rw [h1]
          intro hh
          injection hh with _ hh
          exact hk hh
        · exact g2 m' hm'

theorem findNow_tbl (n : Int) {tbl : List (Int × List Int)} {es : List MapEntry} (i : Nat) (h : TblRel tbl es) :
    (thas tbl n = true ∧ ∃ j, Instr.findNow (.int .i64) (.int .i64 n) es i = some (some (j, .agg #[.int .i64 ((tlook tbl n).getD 0 0), .int .i64 ((tlook tbl n).getD 1 0), .int .i64 ((tlook tbl n).getD 2 0), .int .i64 ((tlook tbl n).getD 3 0)]))) ∨
    (thas tbl n = false ∧ Instr.findNow (.int .i64) (.int .i64 n) es i = some none ∧ tlook tbl n = [0, 0, 0, 0]) := by
  rcases findNow_es n i h.1 with h1 | ⟨h1, h2⟩
  · exact .inl h1
  · have hn : thas tbl n = false := by
      cases hq : thas tbl n with
      | false => rfl
      | true =>
        obtain ⟨m, hm, hk⟩ := h.2 n hq
        exact absurd hk (h2 m hm)
    exact .inr ⟨hn, h1, tlook_none n hn⟩

theorem op_lookup (hok : EnvOk P e) {M g : Nat} {x k : Operand} {ok : Bool} {n : Int} {tbl : List (Int × List Int)} (h : RelC e Γ C s a w) (ho : o.op = .lookup M x k ok) (hM : e.maps.any (Nat.beq M) = true) (hx : opd s x = .v (.one (.gmap g))) (hk : opd s k = .v (.one (.int .i64 n)))
    (hg : look e.globs g = some tbl) : OpDone P e Γ C o a w (bif ok then .tup [.agg (opT.row4 (tlook tbl n)), .one (.bool (thas tbl n))] else .v (.agg (opT.row4 (tlook tbl n))), s.mem) := by
  obtain ⟨K, V, inf, u1, u2, u3, u4⟩ := hok.mp M hM
  obtain ⟨r, hv, hc, _⟩ := opd_one h hx
  have hkv : a.eval k = .int .i64 n := opd_one h hk
  obtain ⟨_, r', ents, ck, hc', _, hh, htbl⟩ := h.W.glob g tbl hg
  rw [hc'] at hc
  rw [hv] at hc
  cases hc
  have hck : ∀ b, (Instr.checkKey b 10000 K (.int .i64 n)).run P w = .ok () w := fun b => MapKept.run_checkKey (k := .int .i64 n) u2 (by simp [MapKept.IsKey]) b 9999
  have hex : execOp a.eval o = (do pure (.value (← Instr.lookup M (a.eval x) (a.eval k) ok))) := by unfold execOp; rw [ho]
  have hrow : ∀ (l : List Int), All2 (CRel C w) (opT.row4 l) [.int .i64 (l.getD 0 0), .int .i64 (l.getD 1 0), .int .i64 (l.getD 2 0), .int .i64 (l.getD 3 0)] := fun l => ⟨rfl, rfl, rfl, rfl, trivial⟩
  rcases findNow_tbl n 0 htbl with ⟨g1, j, g2⟩ | ⟨g1, g2, g3⟩
  · cases ok with
    | true =>
      refine done_v hex (v := .tuple #[.agg #[.int .i64 ((tlook tbl n).getD 0 0), .int .i64 ((tlook tbl n).getD 1 0), .int .i64 ((tlook tbl n).getD 2 0), .int .i64 ((tlook tbl n).getD 3 0)], .bool true]) (w' := w) ?_ (Post.same h ⟨_, rfl, ⟨_, rfl, hrow _⟩, ?_, trivial⟩)
      · simp [Instr.lookup, hkv, run_underlying u1, hv, MapKept.run_getObj_map hh, hck, MapKept.run_findKey u2 g2]
      · rw [g1]; rfl
    | false =>
      refine done_v hex (v := .agg #[.int .i64 ((tlook tbl n).getD 0 0), .int .i64 ((tlook tbl n).getD 1 0), .int .i64 ((tlook tbl n).getD 2 0), .int .i64 ((tlook tbl n).getD 3 0)]) (w' := w) ?_ (Post.same h ⟨_, rfl, hrow _⟩)
      simp [Instr.lookup, hkv, run_underlying u1, hv, MapKept.run_getObj_map hh, hck, MapKept.run_findKey u2 g2]
  · rw [g3]
    have hz : (zeroValue V).run P w = .ok (.agg #[.int .i64 0, .int .i64 0, .int .i64 0, .int .i64 0]) w := by simp [zeroValue, typeInfo, u3, u4]
    cases ok with
    | true =>
      refine done_v hex (v := .tuple #[.agg #[.int .i64 0, .int .i64 0, .int .i64 0, .int .i64 0], .bool false]) (w' := w) ?_ (Post.same h ⟨_, rfl, ⟨_, rfl, hrow _⟩, ?_, trivial⟩)
      · simp [Instr.lookup, hkv, run_underlying u1, hv, MapKept.run_getObj_map hh, hck, MapKept.run_findKey u2 g2, hz]
      · rw [g1]; rfl
    | false =>
      refine done_v hex (v := .agg #[.int .i64 0, .int .i64 0, .int .i64 0, .int .i64 0]) (w' := w) ?_ (Post.same h ⟨_, rfl, hrow _⟩)
      simp [Instr.lookup, hkv, run_underlying u1, hv, MapKept.run_getObj_map hh, hck, MapKept.run_findKey u2 g2, hz]

theorem findNow_mp (k v : Int) : ∀ {es : List (Int × Int)} {l : List MapEntry} (i : Nat), MapR es l →
    (∃ j m, Instr.findNow (.int .i64) (.int .i64 k) l i = some (some (i + j, m.val)) ∧ l[j]? = some m ∧ m.key = .int .i64 k ∧ ∀ f : MapEntry → MapEntry, (∀ m : MapEntry, m.key = .int .i64 k → (f m).key = .int .i64 k ∧ (f m).val = .int .i64 v) → MapR (mupd es k v) (l.modify j f)) ∨
    (Instr.findNow (.int .i64) (.int .i64 k) l i = some none ∧ ∀ m : MapEntry, m.key = .int .i64 k → m.val = .int .i64 v → MapR (mupd es k v) (l ++ [m]))
  | [], [], i, _ => .inr ⟨rfl, fun m h1 h2 => ⟨⟨h1, h2⟩, trivial⟩⟩
  | (k', v') :: es, m :: l, i, h => by
    obtain ⟨⟨h1, h2⟩, h3⟩ := h
    have h1' : m.key = .int .i64 k' := h1
    have hs : Instr.sameNow (.int .i64) (.int .i64 k) m.key = some (k == k') := by rw [h1']; simp [Instr.sameNow]
    by_cases hk : k' = k
    · subst hk
      have hs' : Instr.sameNow (.int .i64) (.int .i64 k') m.key = some true := by rw [hs]; simp
      refine .inl ⟨0, m, by simp [Instr.findNow, hs'], rfl, h1, fun f hf => ?_⟩
      simp only [mupd, beq_self_eq_true, cond_true]
      rw [List.modify_zero_cons]
      exact ⟨hf m h1, h3⟩
    · have e1 : (k' == k) = false := by simpa using hk
      have e2 : (k == k') = false := by simpa using fun hh => hk hh.symm
      rw [e2] at hs
      rcases findNow_mp k v (i + 1) h3 with ⟨j, m', g1, g2, g3, g4⟩ | ⟨g1, g2⟩
      · refine .inl ⟨j + 1, m', by simp only [Instr.findNow, hs, g1]; congr 3; omega, g2, g3, fun f hf => ?_⟩
        simp only [mupd, e1, cond_false]
        rw [List.modify_succ_cons]
        exact ⟨⟨h1, h2⟩, g4 f hf⟩
      · refine .inr ⟨by simp only [Instr.findNow, hs]; exact g1, fun m' h4 h5 => ?_⟩
        simp only [mupd, e1, cond_false]
        exact ⟨⟨h1, h2⟩, g2 m' h4 h5⟩

theorem born_modify {f : MapEntry → MapEntry} (hf : ∀ m, (f m).born = m.born) : ∀ (l : List MapEntry) (j : Nat), (l.modify j f).map (·.born) = l.map (·.born)
  | [], j => by cases j <;> rfl
  | m :: l, 0 => by simp [hf]
  | m :: l, j + 1 => by simp [born_modify hf l j]
theorem Born.modify {l : List MapEntry} {ck : Nat} (h : Born l ck) (j : Nat) (f : MapEntry → MapEntry) (hf : ∀ m, (f m).born = m.born) : Born (l.modify j f) ck := by
  have he := born_modify hf l j
  refine ⟨fun m hm => ?_, by rw [he]; exact h.2⟩
  have : m.born ∈ (l.modify j f).map (·.born) := List.mem_map.2 ⟨m, hm, rfl⟩
  rw [he] at this
  obtain ⟨m', hm', hb⟩ := List.mem_map.1 this
  rw [← hb]
  exact h.1 m' hm'
theorem Born.push {l : List MapEntry} {ck : Nat} (h : Born l ck) {m : MapEntry} (hm : m.born = ck) : Born (l ++ [m]) (ck + 1) := by
  refine ⟨fun m' hm' => ?_, ?_⟩
  · rcases List.mem_append.1 hm' with hm' | hm'
    · have := h.1 m' hm'
      omega
    · have := List.mem_singleton.1 hm'
      subst this
      omega
  · rw [List.map_append, List.nodup_append]
    refine ⟨h.2, by simp, fun a ha b hb => ?_⟩
    obtain ⟨m', hm', rfl⟩ := List.mem_map.1 ha
    have h1 := h.1 m' hm'
    have h2 : b = m.born := by simpa using hb
    omega

theorem op_mapUpdate (hok : EnvOk P e) {M b : Nat} {x k y : Operand} {n v : Int} {es : List (Int × Int)} (h : RelC e Γ C s a w) (ho : o.op = .mapUpdate M x k y) (hM : e.imaps.any (Nat.beq M) = true) (hx : opd s x = .v (.one (.mref b))) (hk : opd s k = .v (.one (.int .i64 n)))
    (hy : opd s y = .v (.one (.int .i64 v))) (hb : mget s.mem b = some (.mp es)) : OpDone P e Γ C o a w (unit, mput s.mem b (.mp (mupd es n v))) := by
  obtain ⟨K, V, u1, u2⟩ := hok.imp M hM
  obtain ⟨hd, hxv⟩ := opd_one h hx
  have hkv : a.eval k = .int .i64 n := opd_one h hk
  have hyv : a.eval y = .int .i64 v := opd_one h hy
  obtain ⟨g, ents, ck, hσ, hh, ⟨hmp, hborn⟩, hnf, hD⟩ := h.mem.blk b _ hb
  rw [hσ] at hxv
  have hlt : g < w.heap.size := (Array.getElem?_eq_some_iff.1 hh).1
  have hck : (Instr.checkKey false 10000 K (.int .i64 n)).run P w = .ok () w := MapKept.run_checkKey (k := .int .i64 n) u2 (by simp [MapKept.IsKey]) false 9999
  have hex : execOp a.eval o = (do (Instr.mapUpdate M (a.eval x) (a.eval k) (a.eval y)); pure .skip) := by unfold execOp; rw [ho]
  have hpost : ∀ (ob : Obj) (ents' : Array MapEntry) (ck' : Nat), ob = .map ents' ck' → MapR (mupd es n v) ents'.toList → Born ents'.toList ck' → Post e Γ C w (unit, mput s.mem b (.mp (mupd es n v))) undef { w with heap := w.heap.setIfInBounds g ob } C := by
    intro ob ents' ck' hob hr hbo
    subst hob
    have hset := MapKept.heap_set (o' := .map ents' ck') hh
    have hch : Ch w { w with heap := w.heap.setIfInBounds g (.map ents' ck') } (fun k => k = g) := ⟨rfl, rfl, rfl, by simp, fun k _ hx => hset.2 k hx⟩
    have hbr : BRel Γ.D C w b (.mp es) := h.mem.blk b _ hb
    refine ⟨CLe.refl C, fun k hf hk => hch.block k hk (fun hh' => hnf (hh' ▸ hf)), ?_, ⟨#[], rfl, trivial⟩, h.W.step (CLe.refl C) hch (fun k _ hh' => hh' ▸ hD) (fun k hf hh' => hnf (hh' ▸ hf)) (fun k hk => .inl hk)⟩
    refine RelM.put h.mem (CLe.refl C) hch (fun k hf hh' => hnf (hh' ▸ hf)) (fun j c hj hl hji g' hg' => ⟨fun hh' => ?_, (h.mem.blk j c hj).nf hl hg' |>.1⟩) ⟨g, ents', ck', hσ, hset.1, ⟨hr, hbo⟩, hnf, hD⟩ (fun _ j c hj hl hji g' hg' hh' => ?_)
      (fun i => ⟨fun hh' => .inl hh', fun hh' => hh'.elim (fun q => q) (fun q => q ▸ hd)⟩) (h.mem.one b hd)
    · subst hh'
      exact h.mem.inj j b c _ hj hb hl rfl hji g' hg' (by rw [hσ]; rfl)
    · exact h.mem.inj j b c _ hj hb hl rfl hji g' hh' hg'
  rcases findNow_mp n v 0 hmp with ⟨j, m, g1, g2, g3, g4⟩ | ⟨g1, g2⟩
  · rw [Nat.zero_add] at g1
    have hge : ents[j]? = some m := by rw [← Array.getElem?_toList]; exact g2
    refine done_u hex (w' := { w with heap := w.heap.setIfInBounds g (.map (ents.modify j fun q => { q with key := .int .i64 n, val := .int .i64 v }) ck) }) ?_ (hpost _ _ _ rfl ?_ (by rw [Array.toList_modify]; exact hborn.modify _ _ fun _ => rfl))
    · rw [hxv, hkv, hyv]
      simp [Instr.mapUpdate, run_underlying u1, MapKept.run_getObj_map hh, hck, MapKept.run_findKey u2 g1, Instr.keyThatStays, hge, g3, Instr.sameBits, MapKept.run_setObj_map _ hh]
    · rw [Array.toList_modify]
      exact g4 _ fun _ _ => ⟨rfl, rfl⟩
  · refine done_u hex (w' := { w with heap := w.heap.setIfInBounds g (.map (ents.push { key := .int .i64 n, val := .int .i64 v, born := ck }) (ck + 1)) }) ?_ (hpost _ _ _ rfl ?_ (by rw [Array.toList_push]; exact hborn.push rfl))
    · rw [hxv, hkv, hyv]
      simp [Instr.mapUpdate, run_underlying u1, MapKept.run_getObj_map hh, hck, MapKept.run_findKey u2 g1, MapKept.run_setObj_map _ hh]
    · rw [Array.toList_push]
      exact g2 _ rfl rfl

end Go.Ev
