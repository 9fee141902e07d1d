/-
  The abstract evaluator: each plain operation does to the machine what it does to the abstract state.
-/
import Derived.Test.YtgpjfmjceamonaaDoorEv8
import Derived.Laws.Small
namespace Go.Ev
variable {P : Program} {e : Env} {Γ : Actv} {C : Ctx} {s : St} {a : Act} {w : World}

def OpDone (P : Program) (e : Env) (Γ : Actv) (C : Ctx) (o : Oper) (a : Act) (w : World) (r : AV × Mem) : Prop :=
  (∃ v w' C', (execOp a.eval o).run P w = .ok (.value v) w' ∧ Post e Γ C w r v w' C') ∨
  (∃ w' C', (execOp a.eval o).run P w = .ok .skip w' ∧ Post e Γ C w r undef w' C') ∨
  (∃ f args, (execOp a.eval o).run P w = .ok (.enter f args) w ∧ Calls P f args w fun en w' => ∃ v C', en = .returned v ∧ Post e Γ C w r v w' C')

theorem done_v {o : Oper} {X : Sem Value} {r : AV × Mem} {v : Value} {w' : World} {C' : Ctx} (ho : execOp a.eval o = (do pure (.value (← X)))) (hx : X.run P w = .ok v w') (hp : Post e Γ C w r v w' C') : OpDone P e Γ C o a w r :=
  .inl ⟨v, w', C', by rw [ho, Sem.run_bind, hx]; rfl, hp⟩
theorem done_p {o : Oper} {r : AV × Mem} {v : Value} {C' : Ctx} (ho : execOp a.eval o = pure (.value v)) (hp : Post e Γ C w r v w C') : OpDone P e Γ C o a w r :=
  .inl ⟨v, w, C', by rw [ho]; rfl, hp⟩
theorem done_u {o : Oper} {X : Sem Unit} {r : AV × Mem} {w' : World} {C' : Ctx} (ho : execOp a.eval o = (do X; pure .skip)) (hx : X.run P w = .ok () w') (hp : Post e Γ C w r undef w' C') : OpDone P e Γ C o a w r :=
  .inr (.inl ⟨w', C', by rw [ho, Sem.run_bind, hx]; rfl, hp⟩)

theorem need_some {α : Type} {b : Bool} {x : Tr α} {r : α} (h : (Tr.need b x).run = some r) : b = true ∧ x.run = some r := by
  cases b with
  | true => exact ⟨rfl, h⟩
  | false => cases h

variable {H : Nat → Option FH} {o : Oper} {id : Nat} {r : AV × Mem}

theorem op_move {x : Operand} (h : RelC e Γ C s a w) (ho : o.op = .move x ∨ o.op = .assign x) : OpDone P e Γ C o a w (opd s x, s.mem) := by
  refine done_p (v := a.eval x) ?_ (Post.same h (opd_rel h x))
  rcases ho with ho | ho <;> (unfold execOp; rw [ho])

theorem op_pick {c x y : Operand} (h : RelC e Γ C s a w) (ho : o.op = .pick c x y) {t : Bool} (hc : opd s c = .v (.one (.bool t))) : OpDone P e Γ C o a w (bif t then opd s x else opd s y, s.mem) := by
  have h1 : a.eval c = .bool t := opd_one h hc
  refine .inl ⟨if t then a.eval x else a.eval y, w, C, ?_, Post.same h ?_⟩
  · unfold execOp
    rw [ho]
    simp [h1, asBool]
  · cases t
    · exact opd_rel h y
    · exact opd_rel h x

theorem op_alloc (hok : EnvOk P e) {E : Nat} {t : Ty} (h : RelC e Γ C s a w) (ho : o.op = .alloc E) (ht : e.ty E = some t) (hi : fresh s.mem id 1 = true) :
    OpDone P e Γ C o a w (.v (.one (.pbox id 0)), mput s.mem id (.box E t.zcells)) := by
  obtain ⟨i, hi', rfl⟩ := ty_some ht
  obtain ⟨inf, d, z, q1, q2, q3, q4, q5, q6, q7, q8⟩ := (hok.ty E i hi').out
  refine done_v (X := Instr.alloc E true (.tuple #[])) (by unfold execOp; rw [ho]) (v := .pointer (some ⟨w.heap.size, 0, none⟩)) (w' := w.alloc (.cells z.cells E)) ?_ (post_box h hi (by rw [q7]; exact zcells_rel i.t))
  simp [Instr.alloc, zeroValue, typeInfo, q1, q6, newVar, newRow]

theorem op_box {E : Nat} {x : Operand} {t : Ty} {c : Vl} (h : RelC e Γ C s a w) (ho : o.op = .box E x) (hx : opd s x = .v c) (hj : noJunk c.cells = true) (hi : fresh s.mem id 1 = true) (_ht : e.ty E = some t) :
    OpDone P e Γ C o a w (.v (.one (.pbox id 0)), mput s.mem id (.box E c.cells)) := by
  obtain ⟨h1, h2⟩ := VRel.cells h.mem (opd_v h hx) hj
  refine done_v (X := Instr.box E (a.eval x)) (by unfold execOp; rw [ho]) (v := .pointer (some ⟨w.heap.size, 0, none⟩)) (w' := w.alloc (.cells (a.eval x).cells E)) ?_ (post_box h hi h1)
  simp [Instr.box, newVar, newRow]

theorem op_load (hok : EnvOk P e) {E : Nat} {x : Operand} {c : CV} {t : Ty} {cs : List CV} {v : Vl} (h : RelC e Γ C s a w) (ho : o.op = .load E x) (hx : opd s x = .v (.one c)) (ht : e.ty E = some t) (hr : readAt s.mem t.sz c = some cs) (hv : asVl t.isSt cs = some v) :
    OpDone P e Γ C o a w (.v v, s.mem) := by
  obtain ⟨ad, vs, e1, hl, hc, hat⟩ := readAt_rel h.mem hr (opd_one h hx)
  have hlen : t.isSt = false → vs.length = 1 := fun hs => by
    rw [hs] at hv
    rw [← hc.length]
    exact asVl_one hv
  have hrun := run_loadVar (P := P) hok ht hl hat hlen
  refine done_v (X := Instr.loadAt E (a.eval x)) (by unfold execOp; rw [ho]) (by rw [e1]; simp only [Instr.loadAt, Instr.sureAddr, Sem.run_bind, Sem.run_pure, Result.andThen_ok]; exact hrun) (Post.same h ?_)
  exact asVl_rel hv hc

theorem op_loadg {E g : Nat} {x : Operand} {tbl : List (Int × List Int)} (h : RelC e Γ C s a w) (hok : EnvOk P e) (ho : o.op = .load E x) (hx : opd s x = .v (.one (.glob g))) (hg : look e.globs g = some tbl) (hm : e.maps.any (Nat.beq E) = true) :
    OpDone P e Γ C o a w (.v (.one (.gmap g)), s.mem) := by
  have h1 : a.eval x = .pointer (some ⟨g, 0, none⟩) := opd_one h hx
  obtain ⟨hf, rr, ents, ck, q1, q2, q3, q4⟩ := h.W.glob g tbl hg
  obtain ⟨K, V, inf, u1, u2, u3⟩ := hok.mp E hm
  refine done_v (X := Instr.loadAt E (a.eval x)) (by unfold execOp; rw [ho]) (v := .map (some rr)) (w' := w) ?_ (Post.same h ⟨rr, rfl, q1, hf⟩)
  rw [h1]
  simp [Instr.loadAt, Instr.sureAddr, loadVar, run_isAgg u1, aggD, q1]

theorem op_store (hok : EnvOk P e) {E : Nat} {x y : Operand} {c : CV} {v : Vl} {t : Ty} {m : Mem} (h : RelC e Γ C s a w) (ho : o.op = .store E x y) (hx : opd s x = .v (.one c)) (hy : opd s y = .v v) (ht : e.ty E = some t)
    (hl : v.cells.length = t.sz) (hj : noJunk v.cells = true) (hw : writeAt s.mem v.cells c = some m) : OpDone P e Γ C o a w (unit, m) := by
  obtain ⟨h1, h2⟩ := VRel.cells h.mem (opd_v h hy) hj
  obtain ⟨w', C', hrun, hp⟩ := writeAt_rel hok h ht hw (opd_one h hx) h1 h2 hl
  exact done_u (X := Instr.storeAt E (a.eval x) (a.eval y)) (by unfold execOp; rw [ho]) hrun hp

theorem op_nilCheck {x : Operand} {b off : Nat} (h : RelC e Γ C s a w) (ho : o.op = .nilCheck x) (hx : opd s x = .v (.one (.pbox b off))) : OpDone P e Γ C o a w (.v (.one (.pbox b off)), s.mem) := by
  have h0 := opd_one h hx
  obtain ⟨hd, g, hg, h1⟩ := h0
  refine done_p (v := .pointer (some ⟨g, off, none⟩)) (by unfold execOp; rw [ho]; simp only [h1]) (Post.same h ⟨hd, g, hg, rfl⟩)

theorem fld_some (hok : EnvOk P e) {S f off n : Nat} {ag : Bool} (h : fld e S f = some (off, n, ag)) :
    ∃ fs : Array Field, P.underlying S = some (.struct fs) ∧ ∃ fd, fs[f]? = some fd ∧ fd.offset = off ∧ n ≠ 0 ∧ ∃ inf d, P.info? fd.type = some inf ∧ inf.size = n ∧ P.underlying fd.type = some d ∧ aggD d = ag := by
  unfold fld at h
  split at h
  · rename_i l hl
    obtain ⟨fs, h1, h2⟩ := hok.fld S l hl
    obtain ⟨fd, h3, h4, h5, inf, d, h6, h7, h8, h9⟩ := h2.get_left f _ h
    exact ⟨fs, h1, fd, by simpa using h3, h4, h5, inf, d, h6, h7, h8, h9⟩
  · cases h

theorem op_fieldAddr (hok : EnvOk P e) {S f off n : Nat} {ag : Bool} {x : Operand} {c c' : CV} (h : RelC e Γ C s a w) (ho : o.op = .fieldAddr S x f) (hx : opd s x = .v (.one c)) (hf : fld e S f = some (off, n, ag)) (hc : addOff off c = some c') :
    OpDone P e Γ C o a w (.v (.one c'), s.mem) := by
  obtain ⟨fs, u1, fd, u2, u3, u4, inf, d, u5, u6, u7, u8⟩ := fld_some hok hf
  have h0 := opd_one h hx
  have hrun : ∀ ad : Addr, (Instr.fieldAt S (.pointer (some ad)) f).run P w = .ok (.pointer (some (ad.add off))) w := fun ad => by
    simp [Instr.fieldAt, run_underlying u1, u2, Instr.sureAddr, fieldPlace, sizeOf, typeInfo, u5, u6, u4, u3]
  have hgo : ∀ ad : Addr, a.eval x = .pointer (some ad) → CRel C w c' (.pointer (some (ad.add off))) → OpDone P e Γ C o a w (.v (.one c'), s.mem) := fun ad hv hp =>
    done_v (X := Instr.fieldAt S (a.eval x) f) (by unfold execOp; rw [ho]) (by rw [hv]; exact hrun ad) (Post.same h hp)
  unfold addOff at hc
  split at hc
  · rename_i b k
    cases hc
    obtain ⟨hd, g, hg, hv⟩ := h0
    exact hgo _ hv ⟨hd, g, hg, by rw [add_lit']⟩
  · rename_i b t i k
    cases hc
    obtain ⟨hd, ad, l, cp, hs, q1, q2, hv⟩ := h0
    exact hgo _ hv ⟨hd, ad, l, cp, hs, q1, q2, by rw [add_add, Nat.add_assoc]⟩
  · rename_i t y k
    cases hc
    obtain ⟨ad, cs, hv, hfz, hk, hat⟩ := h0
    refine hgo _ hv ⟨_, cs, rfl, by rw [add_block]; exact hfz, hk, fun j u hj => ?_⟩
    rw [add_add]
    refine hat _ u ?_
    rw [← Nat.add_assoc]
    exact hj
  · cases hc

theorem op_field (hok : EnvOk P e) {S f off n : Nat} {ag : Bool} {x : Operand} {cs l : List CV} {v : Vl} (h : RelC e Γ C s a w) (ho : o.op = .field S x f) (hx : opd s x = .v (.agg cs)) (hf : fld e S f = some (off, n, ag)) (hl : takeN n (cs.drop off) = some l) (hv : asVl ag l = some v) :
    OpDone P e Γ C o a w (.v v, s.mem) := by
  obtain ⟨fs, u1, fd, u2, u3, u4, inf, d, u5, u6, u7, u8⟩ := fld_some hok hf
  obtain ⟨arr, e1, hall⟩ := opd_v h hx
  obtain ⟨rfl, hln⟩ := takeN_eq hl
  have hpart := (hall.drop off).take n
  refine done_v (X := Instr.field S (a.eval x) f) (by unfold execOp; rw [ho]) (v := if ag = true then .agg ((arr.toList.drop off).take n).toArray else ((arr.toList.drop off).take n).headD undef) (w' := w) ?_ (Post.same h (asVl_rel hv hpart))
  rw [e1]
  cases ag with
  | true =>
    have he : arr.extract off (off + n) = ((arr.toList.drop off).take n).toArray := by
      apply Array.ext'
      rw [Array.toList_extract, List.extract_eq_take_drop, Nat.add_sub_cancel_left]
    simp [Instr.field, run_underlying u1, u2, part, run_isAgg u7, u8, asAgg, sizeOf, typeInfo, u5, u6, u3, he]
  | false =>
    have h1 := asVl_one hv
    have hn : n = 1 := by omega
    subst hn
    have hlt : off < arr.size := by
      have := hpart.length
      rw [hln, List.length_take, List.length_drop, Array.length_toList] at this
      omega
    have hg : arr[off]? = some (((arr.toList.drop off).take 1).headD undef) := by
      rw [← Array.getElem?_toList]
      have hlt' : off < arr.toList.length := by rw [Array.length_toList]; exact hlt
      rw [List.getElem?_eq_getElem hlt', List.drop_eq_getElem_cons hlt']
      rfl
    simp only [Bool.false_eq_true, if_false]
    simp [Instr.field, run_underlying u1, u2, part, run_isAgg u7, u8, asAgg, u3, hg]

theorem op_unOp {op : UnOp} {T : Nat} {x : Operand} {v : AV} (h : RelC e Γ C s a w) (ho : o.op = .unOp op T x) (hv : unV op (opd s x) = some v) : OpDone P e Γ C o a w (v, s.mem) := by
  unfold unV at hv
  split at hv
  · rename_i b hb
    have h1 : a.eval x = .bool b := opd_one h hb
    split at hv
    · cases hv
      exact done_v (X := Op.unary .not (a.eval x)) (by unfold execOp; rw [ho]) (by rw [h1]; rfl) (Post.same h rfl)
    · cases hv
  · rename_i k n hb
    have h1 : a.eval x = .int k n := opd_one h hb
    split at hv
    · cases hv
      exact done_v (X := Op.unary .neg (a.eval x)) (by unfold execOp; rw [ho]) (by rw [h1]; rfl) (Post.same h rfl)
    · cases hv
  · cases hv

theorem op_convert (hok : EnvOk P e) {S D : Nat} {x : Operand} {t : Ty} {c c' : CV} (h : RelC e Γ C s a w) (ho : o.op = .convert S D x) (hS : (e.ty S).isSome = true) (hD : e.ty D = some t) (hx : opd s x = .v (.one c))
    (hc : (∃ k j n, t = .int k ∧ c = .int j n ∧ c' = .int k (k.wrap n)) ∨ (∃ b, t = .flt ∧ c = .flt b ∧ c' = .flt b) ∨ (∃ j n, t = .flt ∧ c = .int j n ∧ c' = .flt (FloatKind.f64.nearest n))) :
    OpDone P e Γ C o a w (.v (.one c'), s.mem) := by
  obtain ⟨tS, hS⟩ := Option.isSome_iff_exists.1 hS
  obtain ⟨iS, hiS, rfl⟩ := ty_some hS
  obtain ⟨infS, dS, zS, _, p2, p3, _⟩ := (hok.ty S iS hiS).out
  obtain ⟨iD, hiD, rfl⟩ := ty_some hD
  obtain ⟨infD, dD, zD, _, q2, q3, _⟩ := (hok.ty D iD hiD).out
  have h0 := opd_one h hx
  have hex : execOp a.eval o = (do pure (.value (← convert S D (a.eval x)))) := by unfold execOp; rw [ho]
  rcases hc with ⟨k, j, n, ht, rfl, rfl⟩ | ⟨b, ht, rfl, rfl⟩ | ⟨j, n, ht, rfl, rfl⟩
  · have h1 : a.eval x = .int j n := h0
    rw [ht] at q3
    have hd : dD = .int k := by
      cases dD <;> first | (cases q3; done) | skip
      · rw [IK.eq_of_beq (show IK.beq _ k = true from q3)]
    subst hd
    refine done_v hex (v := .int k (k.wrap n)) (w' := w) ?_ (Post.same h rfl)
    rw [h1]
    simp [convert, run_underlying p2, run_underlying q2, Conv.intToInt]
  · have h1 : a.eval x = .float .f64 b := h0
    rw [ht] at q3
    have hd : dD = .float .f64 := by
      cases dD <;> first | (simp [descOk] at q3; done) | skip
      rename_i k; cases k
      · cases q3
      · rfl
    subst hd
    refine done_v hex (v := .float .f64 b) (w' := w) ?_ (Post.same h rfl)
    rw [h1]
    simp [convert, run_underlying p2, run_underlying q2, Conv.floatToFloat]
  · have h1 : a.eval x = .int j n := h0
    rw [ht] at q3
    have hd : dD = .float .f64 := by
      cases dD <;> first | (simp [descOk] at q3; done) | skip
      rename_i k; cases k
      · cases q3
      · rfl
    subst hd
    refine done_v hex (v := .float .f64 (FloatKind.f64.nearest n)) (w' := w) ?_ (Post.same h rfl)
    rw [h1]
    simp [convert, run_underlying p2, run_underlying q2, Conv.intToFloat]

theorem op_extract {x : Operand} {i : Nat} {l : List Vl} {v : Vl} (h : RelC e Γ C s a w) (ho : o.op = .extract x i) (hx : opd s x = .tup l) (hv : l[i]? = some v) : OpDone P e Γ C o a w (.v v, s.mem) := by
  have h0 := opd_rel h x
  rw [hx] at h0
  obtain ⟨arr, e1, hall⟩ := h0
  obtain ⟨u, hu, hr⟩ := hall.get_left i v hv
  refine done_v (X := Instr.extract (a.eval x) i) (by unfold execOp; rw [ho]) (v := u) (w' := w) ?_ (Post.same h hr)
  rw [e1]
  have : arr[i]? = some u := by simpa using hu
  simp [Instr.extract, this]

theorem op_indexAddr (hok : EnvOk P e) {T E : Nat} {x i : Operand} {c c' : CV} {k : IntKind} {n : Int} (h : RelC e Γ C s a w) (ho : o.op = .indexAddr T x i) (hT : look e.els T = some E) (hx : opd s x = .v (.one c)) (hi : opd s i = .v (.one (.int k n)))
    (hn0 : 0 ≤ n) {t : Ty} (ht : e.ty E = some t)
    (hc : (∃ b, c = .own b ∧ c' = .pel b t n 0 ∧ ((∃ E' xs, mget s.mem b = some (.row E' t xs) ∧ n < (xs.length : Int)) ∨ ∃ xs, mget s.mem b = some (.frz t xs) ∧ n < (xs.length : Int))) ∨
      (∃ xs, c = .fz t xs ∧ n < (xs.length : Int) ∧ c' = .pfz t (xs.getD n.toNat t.zero) 0)) : OpDone P e Γ C o a w (.v (.one c'), s.mem) := by
  have hu := hok.el T E hT
  obtain ⟨inf, hinf, rfl⟩ := ty_some ht
  obtain ⟨it, d, z, t1, _, _, t4, _⟩ := (hok.ty E inf hinf).out
  have h1 : a.eval i = .int k n := opd_one h hi
  have h0 := opd_one h hx
  have hrun : ∀ (ad : Addr) (l cp : Nat), n < (l : Int) → (Instr.indexAt T (.slice (some ad) l cp) (.int k n)).run P w = .ok (.pointer (some (ad.add (n.toNat * inf.t.sz)))) w := fun ad l cp hl => by
    simp [Instr.indexAt, asIntOf, run_underlying hu, hn0, hl, sizeOf, typeInfo, t1, t4]
  have hgo : ∀ (ad : Addr) (l cp : Nat), n < (l : Int) → a.eval x = .slice (some ad) l cp → CRel C w c' (.pointer (some (ad.add (n.toNat * inf.t.sz)))) → OpDone P e Γ C o a w (.v (.one c'), s.mem) := fun ad l cp hl hv hp =>
    done_v (X := Instr.indexAt T (a.eval x) (a.eval i)) (by unfold execOp; rw [ho]) (by rw [hv, h1]; exact hrun ad l cp hl) (Post.same h hp)
  rcases hc with ⟨b, rfl, rfl, hb⟩ | ⟨xs, rfl, hl, rfl⟩
  · obtain ⟨hd, hv⟩ := h0
    rcases hb with ⟨E', xs, hm, hl⟩ | ⟨xs, hm, hl⟩
    · obtain ⟨cells, hown, _, _⟩ := h.mem.blk b _ hm
      rcases hown.2 with ⟨hs, hn⟩ | ⟨g, cap, cur, hs, _⟩
      · omega
      · exact hgo _ _ _ hl (by rw [hv, hs]) ⟨hd, _, _, _, hs, hn0, by omega, by rw [Nat.add_zero]⟩
    · obtain ⟨A, cp, hs, hlc, hz, hel⟩ := h.mem.blk b _ hm
      simp only [List.cons.injEq, and_true] at hs
      obtain ⟨ad, es, e1, _⟩ := hel n.toNat _ (getD_some (d := inf.t.zero) (by omega))
      subst e1
      exact hgo _ _ _ hl (by rw [hv, hs]) ⟨hd, _, _, _, hs, hn0, by omega, by rw [Nat.add_zero]⟩
  · obtain ⟨A, cp, hs, hlc, hz, hel⟩ := h0
    simp only [List.cons.injEq, and_true] at hs
    obtain ⟨ad, es, e1, hf, hk, hat⟩ := hel n.toNat _ (getD_some (d := inf.t.zero) (by omega))
    subst e1
    exact hgo _ _ _ hl hs ⟨_, es, rfl, by rw [add_block]; exact hf, hk, fun j u hj => by rw [add_add]; exact hat j u (by rwa [Nat.zero_add] at hj)⟩

theorem op_indexArr (hok : EnvOk P e) {R b off j : Nat} {x i : Operand} {k : IntKind} (h : RelC e Γ C s a w) (ho : o.op = .indexAddr R x i) (hR : e.arrs.any (Nat.beq R) = true) (hx : opd s x = .v (.one (.pbox b off))) (hi : opd s i = .v (.one (.int k (j : Int))))
    (hj : j < 4) : OpDone P e Γ C o a w (.v (.one (.pbox b (off + j))), s.mem) := by
  obtain ⟨E, inf, hu, hE, hinf, hsz⟩ := hok.arr R hR
  have h1 : a.eval i = .int k (j : Int) := opd_one h hi
  obtain ⟨hd, g, hs, hv⟩ := opd_one h hx
  refine done_v (X := Instr.indexAt R (a.eval x) (a.eval i)) (by unfold execOp; rw [ho]) (v := .pointer (some ⟨g, off + j, none⟩)) (w' := w) ?_ (Post.same h ⟨hd, g, hs, rfl⟩)
  rw [hv, h1]
  simp [Instr.indexAt, asIntOf, run_underlying hu, Instr.sureAddr, sizeOf, typeInfo, hinf, hsz, add_lit']
  intro hh
  omega

end Go.Ev
