/-
  The abstract evaluator: what is asked of the program's tables; what a state is; what one plain operation of the machine does to it (first part).
-/
import Derived.Test.YtgpjfmjceamonaaDoorEv3
import Derived.Laws.CopyRow
import Derived.Laws.Cells
import Derived.Laws.Rows
import Derived.Laws.OwnMore
import Derived.Laws.MakeOwn
namespace Go.Ev

/-! ### The program's tables -/
def litV : CV → Value
  | .int k n => .int k n
  | .bool b => .bool b
  | .str s => .string s
  | .flt b => .float .f64 b
  | .nil => .slice none 0 0
  | _ => undef

def descOk : TypeDesc → Ty → Bool
  | .int k, .int k' => IK.beq k k'
  | .bool, .bool => true
  | .string, .str => true
  | .float k, .flt => match k with
    | .f64 => true
    | .f32 => false
  | .slice _, .row _ => true
  | .struct _, .st _ => true
  | .array _ _, .st _ => true
  | _, _ => false

def aggD : TypeDesc → Bool
  | .struct _ | .array _ _ => true
  | _ => false

theorem aggD_of {d : TypeDesc} {t : Ty} (h : descOk d t = true) : aggD d = t.isSt := by
  cases d <;> cases t <;> first | rfl | (simp [descOk] at h; done)

structure TyOk (P : Program) (T : Nat) (i : TI) : Prop where
  out : ∃ inf d z, P.info? T = some inf ∧ P.underlying T = some d ∧ descOk d i.t = true ∧ inf.size = i.t.sz ∧ inf.bytes = i.bytes ∧ inf.zero = some z ∧ z.cells.toList = i.t.zcells.map litV ∧ 0 < i.bytes

structure EnvOk (P : Program) (e : Env) : Prop where
  ty : ∀ T i, look e.tys T = some i → TyOk P T i
  el : ∀ T E, look e.els T = some E → P.underlying T = some (.slice E)
  fld : ∀ S l, look e.flds S = some l → ∃ fs : Array Field, P.underlying S = some (.struct fs) ∧
    All2 (fun (p : Nat × Nat × Bool) (f : Field) => f.offset = p.1 ∧ p.2.1 ≠ 0 ∧ ∃ inf d, P.info? f.type = some inf ∧ inf.size = p.2.1 ∧ P.underlying f.type = some d ∧ aggD d = p.2.2) l fs.toList
  eq : ∀ T ty, e.ty T = some ty → e.eqs.any (Nat.beq T) = true → ∀ (w : World) (C : Ctx) (a b : List CV) (x y : Array Value) (t : Bool), fitL (leavesT ty) a = true → fitL (leavesT ty) b = true → eqCells a b = some t → All2 (CRel C w) a x.toList → All2 (CRel C w) b y.toList →
    (∀ (op : BinOp) (p q : Operand), (eqGuard op T p q (.agg x) (.agg y)).run P w = .ok () w) ∧ (Op.equal T (.agg x) (.agg y)).run P w = .ok t w
  arr : ∀ R, e.arrs.any (Nat.beq R) = true → ∃ E inf, P.underlying R = some (.array 4 E) ∧ P.underlying E = some (.int .i64) ∧ P.info? E = some inf ∧ inf.size = 1
  mp : ∀ M, e.maps.any (Nat.beq M) = true → ∃ K V inf, P.underlying M = some (.map K V) ∧ P.underlying K = some (.int .i64) ∧ P.info? V = some inf ∧ inf.zero = some (.agg #[.int .i64 0, .int .i64 0, .int .i64 0, .int .i64 0])
  imp : ∀ M, e.imaps.any (Nat.beq M) = true → ∃ K V, P.underlying M = some (.map K V) ∧ P.underlying K = some (.int .i64)

theorem run_isAgg {P : Program} {T : Nat} {d : TypeDesc} (h : P.underlying T = some d) (w : World) : (isAgg T).run P w = .ok (aggD d) w := by
  unfold isAgg
  rw [Sem.run_bind, run_underlying h w]
  cases d <;> rfl

theorem zcells_rel {C : Ctx} {w : World} : ∀ (t : Ty), All2 (CRel C w) t.zcells (t.zcells.map litV)
  | .int _ => ⟨rfl, trivial⟩
  | .bool => ⟨rfl, trivial⟩
  | .str => ⟨rfl, trivial⟩
  | .flt => ⟨rfl, trivial⟩
  | .row _ => ⟨rfl, trivial⟩
  | .st t => zcells_rel t
  | .pair a b => by
    show All2 _ (a.zcells ++ b.zcells) ((a.zcells ++ b.zcells).map litV)
    rw [List.map_append]
    exact (zcells_rel a).append (zcells_rel b)

theorem zcells_len : ∀ (t : Ty), t.zcells.length = t.sz
  | .int _ => rfl
  | .bool => rfl
  | .str => rfl
  | .flt => rfl
  | .row _ => rfl
  | .st t => zcells_len t
  | .pair a b => by
    show (a.zcells ++ b.zcells).length = a.sz + b.sz
    rw [List.length_append, zcells_len a, zcells_len b]

theorem zcells_one : ∀ (t : Ty), ∀ u ∈ t.zcells.map litV, u.oneCell' = true
  | .int _, u, h => by simp [Ty.zcells, litV] at h; subst h; rfl
  | .bool, u, h => by simp [Ty.zcells, litV] at h; subst h; rfl
  | .str, u, h => by simp [Ty.zcells, litV] at h; subst h; rfl
  | .flt, u, h => by simp [Ty.zcells, litV] at h; subst h; rfl
  | .row _, u, h => by simp [Ty.zcells, litV] at h; subst h; rfl
  | .st t, u, h => zcells_one t u h
  | .pair a b, u, h => by
    rw [show Ty.zcells (.pair a b) = a.zcells ++ b.zcells from rfl, List.map_append, List.mem_append] at h
    rcases h with h | h
    · exact zcells_one a u h
    · exact zcells_one b u h

/-- A new variable's cells, as data. -/
theorem zcells_KF {Fz : Nat → Prop} {w : World} : ∀ (t : Ty), KF Fz w t t.zero (t.zcells.map litV)
  | .int _ => rfl
  | .bool => rfl
  | .str => rfl
  | .flt => rfl
  | .row _ => ⟨none, 0, rfl, Nat.le_refl _, fun _ => rfl, fun i x h => by simp [Ty.zero] at h⟩
  | .st t => zcells_KF t
  | .pair a b => ⟨a.zcells.map litV, b.zcells.map litV, by rw [← List.map_append]; rfl, zcells_KF a, zcells_KF b⟩

/-! ### One cell's value -/
theorem CRel.one {C : Ctx} {w : World} {c : CV} {v : Value} (h : CRel C w c v) (hj : noJunk [c] = true) (hw : ∀ o, C.Dm o → (C.σ o).oneCell' = true) : v.oneCell' = true := by
  cases c with
  | junk => cases hj
  | int k n => rw [show v = _ from h]; rfl
  | bool b => rw [show v = _ from h]; rfl
  | str s => rw [show v = _ from h]; rfl
  | flt b => rw [show v = _ from h]; rfl
  | nil => rw [show v = _ from h]; rfl
  | fz t xs => exact KF.one h v (by simp)
  | own o => rw [h.2]; exact hw o h.1
  | pbox b off => obtain ⟨_, g, _, rfl⟩ := h; rfl
  | pel o t i off => obtain ⟨_, ad, l, c, _, _, _, rfl⟩ := h; rfl
  | pfz t x off => obtain ⟨ad, cs, rfl, _⟩ := h; rfl
  | nilp => rw [show v = _ from h]; rfl
  | clo f caps => obtain ⟨vs, rfl, _⟩ := h; rfl
  | glob g => rw [show v = _ from h]; rfl
  | gmap g => obtain ⟨r, rfl, _⟩ := h; rfl
  | mref o => rw [h.2]; exact hw o h.1

/-! ### States -/
def tRow (l : List Int) : Value := .agg #[.int .i64 (l.getD 0 0), .int .i64 (l.getD 1 0), .int .i64 (l.getD 2 0), .int .i64 (l.getD 3 0)]
/-- A map holds a table, in whatever order. -/
def TblRel (tbl : List (Int × List Int)) (es : List MapEntry) : Prop :=
  (∀ m, m ∈ es → ∃ k, m.key = .int .i64 k ∧ thas tbl k = true ∧ m.val = tRow (tlook tbl k)) ∧ ∀ k, thas tbl k = true → ∃ m, m ∈ es ∧ m.key = .int .i64 k

/-- The listed variables hold their tables. -/
def GlobOk (e : Env) (Fz : Nat → Prop) (w : World) : Prop :=
  ∀ g tbl, look e.globs g = some tbl → Fz g ∧ ∃ r ents ck, w.cell? ⟨g, 0, none⟩ = some (.map (some r)) ∧ Fz r ∧ w.heap[r]? = some (.map ents ck) ∧ TblRel tbl ents.toList

theorem GlobOk.move {e : Env} {Fz Fz' : Nat → Prop} {w w' : World} (hF : ∀ k, Fz k → Fz' k) (hw : ∀ k, Fz k → k < w.heap.size → w'.heap[k]? = w.heap[k]?) (h : GlobOk e Fz w) : GlobOk e Fz' w' := by
  intro g tbl hg
  obtain ⟨hf, r, en, ck, h1, h2, h3, h4⟩ := h g tbl hg
  refine ⟨hF _ hf, r, en, ck, ?_, hF _ h2, ?_, h4⟩
  · rw [World.cell?_of_block (w := w) (hw _ hf (block_lt h1))]
    exact h1
  · rw [hw _ h2 (Array.getElem?_eq_some_iff.1 h3).1]
    exact h3

/-- An activation: the world that it began in, the blocks that it may write, what was frozen then. -/
structure Actv where
  w0 : World
  D : Nat → Prop
  Fz0 : Nat → Prop
  np : Nat
  args : List Value

structure RelW (e : Env) (Γ : Actv) (C : Ctx) (w : World) : Prop where
  ch : Ch Γ.w0 w Γ.D
  fresh : ∀ k, Γ.w0.heap.size ≤ k → Γ.D k
  fz : ∀ k, C.Fz k → Γ.Fz0 k ∨ Γ.D k
  fz0 : ∀ k, Γ.Fz0 k → C.Fz k
  lt : ∀ k, C.Fz k → k < w.heap.size
  glob : GlobOk e C.Fz w

structure RelC (e : Env) (Γ : Actv) (C : Ctx) (s : St) (a : Act) (w : World) : Prop where
  defers : a.defers = []
  len : s.slots.length = a.tmps.size
  slots : ∀ (k : Nat) (x : AV) (v : Value), s.slots[k]? = some x → a.tmps[k]? = some v → ARel C w x v
  par : ∀ k, k < Γ.np → a.tmps[k]? = Γ.args[k]?
  mem : RelM Γ.D C w s.mem
  W : RelW e Γ C w

def Rel (e : Env) (Γ : Actv) (s : St) (a : Act) (w : World) : Prop := ∃ C, RelC e Γ C s a w

/-- What one operation leaves: a value, memory, the world. -/
structure Post (e : Env) (Γ : Actv) (C : Ctx) (w : World) (r : AV × Mem) (v : Value) (w' : World) (C' : Ctx) : Prop where
  le : CLe C C'
  keep : ∀ k, C.Fz k → k < w.heap.size → w'.heap[k]? = w.heap[k]?
  mem : RelM Γ.D C' w' r.2
  val : ARel C' w' r.1 v
  W : RelW e Γ C' w'

variable {P : Program} {e : Env} {Γ : Actv} {C : Ctx} {s : St} {a : Act} {w : World}

theorem Post.same {x : AV} {v : Value} (h : RelC e Γ C s a w) (hx : ARel C w x v) : Post e Γ C w (x, s.mem) v w C :=
  ⟨CLe.refl C, fun _ _ _ => rfl, h.mem, hx, h.W⟩

theorem put_rel {r : AV × Mem} {v : Value} {w' : World} {C' : Ctx} (h : RelC e Γ C s a w) (hp : Post e Γ C w r v w' C') (d : Option Nat) (hd : ∀ k, d = some k → Γ.np ≤ k) : RelC e Γ C' (s.put d r) (a.put d v) w' := by
  have hold : ∀ (k : Nat) (x : AV) (u : Value), s.slots[k]? = some x → a.tmps[k]? = some u → ARel C' w' x u := fun k x u h1 h2 => ARel.move hp.le hp.keep (h.slots k x u h1 h2)
  cases d with
  | none => exact ⟨h.defers, h.len, hold, h.par, hp.mem, hp.W⟩
  | some d =>
    refine ⟨h.defers, ?_, fun k x u h1 h2 => ?_, fun k hk => ?_, hp.mem, hp.W⟩
    · show (s.slots.set d r.1).length = (a.tmps.setIfInBounds d v).size
      rw [List.length_set, Array.size_setIfInBounds]
      exact h.len
    · have h1' : (s.slots.set d r.1)[k]? = some x := h1
      have h2' : (a.tmps.setIfInBounds d v)[k]? = some u := h2
      rw [List.getElem?_set] at h1'
      rw [Array.getElem?_setIfInBounds] at h2'
      by_cases hk : d = k
      · subst hk
        simp only [if_true] at h1' h2'
        split at h1'
        · split at h2'
          · cases h1'; cases h2'
            exact hp.val
          · cases h2'
        · cases h1'
      · rw [if_neg hk] at h1' h2'
        exact hold k x u h1' h2'
    · show (a.tmps.setIfInBounds d v)[k]? = _
      rw [Array.getElem?_setIfInBounds, if_neg (by have := hd d rfl; omega)]
      exact h.par k hk

theorem get_rel (h : RelC e Γ C s a w) (k : Nat) : ARel C w (s.get k) (a.tmps.getD k undef) := by
  unfold St.get
  rw [List.getD_eq_getElem?_getD]
  cases hk : s.slots[k]? with
  | none => exact trivial
  | some x =>
    have hlt : k < a.tmps.size := by rw [← h.len]; exact (List.getElem?_eq_some_iff.1 hk).1
    have hv : a.tmps[k]? = some a.tmps[k] := Array.getElem?_eq_getElem hlt
    have : a.tmps.getD k undef = a.tmps[k] := by simp [Array.getD, hlt]
    rw [this]
    exact h.slots k x _ hk hv

theorem constC_rel : ∀ {v : Value} {c : CV}, constC v = some c → CRel C w c v := by
  intro v c h
  unfold constC at h
  split at h <;> first | (cases h; rfl) | cases h

theorem constCs_rel : ∀ {vs : List Value} {cs : List CV}, constCs vs = some cs → All2 (CRel C w) cs vs
  | [], cs, h => by cases h; trivial
  | v :: vs, cs, h => by
    unfold constCs at h
    split at h
    · rename_i c hc
      split at h
      · rename_i l hl
        cases h
        exact ⟨constC_rel hc, constCs_rel hl⟩
      · cases h
    · cases h

theorem constV_rel (v : Value) : ARel C w (constV v) v := by
  unfold constV
  split
  · rename_i arr
    split
    · rename_i l hl
      exact ⟨arr, rfl, constCs_rel hl⟩
    · trivial
  · split
    · rename_i c hc
      exact constC_rel hc
    · trivial

theorem opd_rel (h : RelC e Γ C s a w) (x : Operand) : ARel C w (opd s x) (a.eval x) := by
  cases x with
  | tmp t => exact get_rel h t
  | const v => exact constV_rel v
  | global g => exact (rfl : (Value.pointer (some ⟨g, 0, none⟩)) = _)
  | func f => exact ⟨[], rfl, trivial⟩

/-- As `opd_rel`, where the value is known. -/
theorem opd_one (h : RelC e Γ C s a w) {x : Operand} {c : CV} (hx : opd s x = .v (.one c)) : CRel C w c (a.eval x) := by
  have := opd_rel h x
  rw [hx] at this
  exact this
theorem opd_v (h : RelC e Γ C s a w) {x : Operand} {c : Vl} (hx : opd s x = .v c) : VRel C w c (a.eval x) := by
  have := opd_rel h x
  rw [hx] at this
  exact this

theorem noJunk_cons {c : CV} {r : List CV} (h : noJunk (c :: r) = true) : noJunk [c] = true ∧ noJunk r = true := by
  cases c <;> first | exact ⟨rfl, h⟩ | cases h

theorem cells_one (hm : RelM Γ.D C w s.mem) : ∀ {cs : List CV} {vs : List Value}, All2 (CRel C w) cs vs → noJunk cs = true → ∀ u ∈ vs, u.oneCell' = true
  | [], [], _, _, u, hu => by cases hu
  | c :: cs, v :: vs, h, hj, u, hu => by
    obtain ⟨h1, h2⟩ := noJunk_cons hj
    rcases List.mem_cons.1 hu with rfl | hu
    · exact h.1.one h1 hm.one
    · exact cells_one hm h.2 h2 u hu

theorem cells_of_one {v : Value} (h : v.oneCell' = true) : v.cells = #[v] := by cases v <;> first | rfl | cases h

/-- A value's cells, place by place. -/
theorem VRel.cells (hm : RelM Γ.D C w s.mem) {x : Vl} {v : Value} (h : VRel C w x v) (hj : noJunk x.cells = true) : All2 (CRel C w) x.cells v.cells.toList ∧ ∀ u ∈ v.cells.toList, u.oneCell' = true := by
  cases x with
  | one c =>
    have h1 : v.oneCell' = true := CRel.one h hj hm.one
    rw [cells_of_one h1]
    exact ⟨⟨h, trivial⟩, fun u hu => by simp at hu; subst hu; exact h1⟩
  | agg cs =>
    obtain ⟨arr, rfl, h2⟩ := h
    exact ⟨h2, cells_one hm h2 hj⟩

theorem fresh_one {m : Mem} {i : Nat} (h : fresh m i 1 = true) : mget m i = none := by
  unfold fresh at h
  rw [Bool.and_eq_true] at h
  cases hm : mget m i with
  | none => rfl
  | some b => rw [hm] at h; cases h.1

def Ctx.add (C : Ctx) (i : Nat) (v : Value) : Ctx := ⟨fun j => if j = i then v else C.σ j, C.Fz, fun j => C.Dm j ∨ j = i⟩
theorem Ctx.add_le {i : Nat} {v : Value} (h : ¬ C.Dm i) : CLe C (C.add i v) :=
  ⟨fun j hj => if_neg (fun hh : j = i => h (by rw [← hh]; exact hj)), fun _ h => h, fun _ h => .inl h⟩
theorem Ctx.add_σ (C : Ctx) (i : Nat) (v : Value) : (C.add i v).σ i = v := by simp [Ctx.add]

theorem ch_alloc (w : World) (o : Obj) (X : Nat → Prop) : Ch w (w.alloc o) X := ⟨rfl, rfl, rfl, by rw [World.size_alloc]; exact Nat.le_succ _, fun k hk _ => heap_alloc_old w o k hk⟩

theorem RelW.step {C' : Ctx} {w' : World} {X : Nat → Prop} (h : RelW e Γ C w) (hle : CLe C C') (hch : Ch w w' X) (hX : ∀ k, k < w.heap.size → X k → Γ.D k) (hF : ∀ k, C.Fz k → ¬ X k)
    (hnew : ∀ k, C'.Fz k → C.Fz k ∨ (Γ.D k ∧ k < w'.heap.size)) : RelW e Γ C' w' := by
  have hkeep : ∀ k, C.Fz k → k < w.heap.size → w'.heap[k]? = w.heap[k]? := fun k hf hk => hch.block k hk (hF k hf)
  refine ⟨⟨hch.os.trans h.ch.os, hch.tape.trans h.ch.tape, hch.output.trans h.ch.output, Nat.le_trans h.ch.size hch.size, fun k hk hd => ?_⟩, h.fresh, fun k hk => ?_, fun k hk => hle.Fz _ (h.fz0 k hk), fun k hk => ?_, h.glob.move hle.Fz hkeep⟩
  · have hk' : k < w.heap.size := Nat.lt_of_lt_of_le hk h.ch.size
    rw [hch.block k hk' (fun hx => hd (hX k hk' hx))]
    exact h.ch.block k hk hd
  · rcases hnew k hk with hh | hh
    · exact h.fz k hh
    · exact .inr hh.1
  · rcases hnew k hk with hh | hh
    · exact Nat.lt_of_lt_of_le (h.lt k hh) hch.size
    · exact hh.2

/-- A new block: whatever it is. -/
theorem post_new {i : Nat} {b : Bk} {v : Value} {o : Obj} {x : AV} (h : RelC e Γ C s a w) (hi : fresh s.mem i 1 = true) (hv : ∀ g, vblk v = some g → g = w.heap.size) (hone : v.oneCell' = true)
    (hb : BRel Γ.D (C.add i v) (w.alloc o) i b) (hx : ARel (C.add i v) (w.alloc o) x v) : Post e Γ C w (x, mput s.mem i b) v (w.alloc o) (C.add i v) := by
  have hni : ¬ C.Dm i := fun hd => by
    have := (h.mem.dm i).1 hd
    rw [fresh_one hi] at this
    cases this
  have hle : CLe C (C.add i v) := Ctx.add_le hni
  refine ⟨hle, fun k hf hk => heap_alloc_old w o k hk, ?_, hx, ?_⟩
  · refine RelM.put (X := fun _ => False) h.mem hle (ch_alloc w o _) (fun _ _ hh => hh) (fun j c hj hl hji g hg => ⟨fun hh => hh, (h.mem.blk j c hj).nf hl hg |>.1⟩) hb (fun _ j c hj hl hji g hg => ?_) (fun _ => Iff.rfl) (by rw [Ctx.add_σ]; exact hone)
    rw [Ctx.add_σ] at hg
    have := hv g hg
    subst this
    intro hh
    exact Nat.lt_irrefl _ ((h.mem.blk j c hj).lt hl hh)
  · exact h.W.step hle (ch_alloc w o (fun _ => False)) (fun _ _ hh => hh.elim) (fun _ _ hh => hh) (fun k hk => .inl hk)

theorem size_D (h : RelC e Γ C s a w) : Γ.D w.heap.size ∧ ¬ C.Fz w.heap.size := ⟨h.W.fresh _ h.W.ch.size, fun hf => Nat.lt_irrefl _ (h.W.lt _ hf)⟩

/-- A new variable. -/
theorem post_box {i E : Nat} {cs : List CV} {arr : Array Value} (h : RelC e Γ C s a w) (hi : fresh s.mem i 1 = true) (hc : All2 (CRel C w) cs arr.toList) :
    Post e Γ C w (.v (.one (.pbox i 0)), mput s.mem i (.box E cs)) (.pointer (some ⟨w.heap.size, 0, none⟩)) (w.alloc (.cells arr E)) (C.add i (.pointer (some ⟨w.heap.size, 0, none⟩))) := by
  have hni : ¬ C.Dm i := fun hd => by
    have := (h.mem.dm i).1 hd
    rw [fresh_one hi] at this
    cases this
  refine post_new h hi (fun g hg => by simpa [vblk] using hg.symm) rfl ?_ ?_
  · exact ⟨w.heap.size, arr, Ctx.add_σ _ _ _, heap_alloc_new w _, hc.imp fun _ _ hr => CRel.move (Ctx.add_le hni) (fun k hf hk => heap_alloc_old w _ k hk) hr, (size_D h).2, (size_D h).1⟩
  · exact ⟨.inr rfl, w.heap.size, Ctx.add_σ _ _ _, rfl⟩

end Go.Ev
