/-
 The abstract evaluator: whichever order a region draws, it comes to the same.
-/
import Derived.Test.YtgpjfmjceamonaaGreatDoorEvD5
namespace Go.Ev
variable {P : Program} {e : Env} {H : Nat → Option FH} {Γ : Actv} {C : Ctx} {s : St} {a : Act} {w : World}
theorem stepT_some {ops : List Oper} {i : Nat} {o : Oper} {s' : St} (h : (stepT e H ops i o s).run = some s') :
  (guardOf ops s o = some true ∧ ∃ r, (opT e H o.op (s.next + 8 * i) s).run = some r ∧ s' = s.put o.dst r) ∨ (guardOf ops s o = some false ∧ s' = s.put o.dst (unit, s.mem)) := by
 unfold stepT at h
 split at h
 ·cases h
 rename_i b hg
 cases b with
 | true =>
  simp only [Tr.run, cond_true] at h
  rw [Tr.run_bind] at h
  obtain ⟨r, hr, h⟩ := Option.bind_eq_some_iff.1 h
  cases h
  exact .inl ⟨hg, r, hr, rfl⟩
 | false =>
  simp only [Tr.run, cond_false] at h
  cases h
  exact .inr ⟨hg, rfl⟩
theorem put_len (s : St) (d : Option Nat) (r : AV × Mem) : (s.put d r).slots.length = s.slots.length := by
 cases d with
 | none => rfl
 | some d => exact List.length_set
theorem put_other {s : St} {d : Option Nat} {r : AV × Mem} {k : Nat} (h : d ≠ some k) : (s.put d r).slots[k]? = s.slots[k]? := by
 cases d with
 | none => rfl
 | some d =>
  show (s.slots.set d r.1)[k]? = _
  rw [List.getElem?_set, if_neg (fun hh => h (by rw [hh]))]
theorem put_same {s t : St} {d k : Nat} {r r' : AV × Mem} (hl : s.slots.length = t.slots.length) (hr : r.1 = r'.1) (hk : d = k) : (s.put (some d) r).slots[k]? = (t.put (some d) r').slots[k]? := by
 subst hk
 show (s.slots.set d r.1)[d]? = (t.slots.set d r'.1)[d]?
 rw [List.getElem?_set, List.getElem?_set, hl, hr, if_pos rfl, if_pos rfl]
theorem step_put {ops : List Oper} {i : Nat} {o : Oper} {s' : St} (h : (stepT e H ops i o s).run = some s') : ∃ r, s' = s.put o.dst r := by
 rcases stepT_some h with ⟨_, r, _, hs⟩ | ⟨_, hs⟩
 ·exact ⟨r, hs⟩
 ·exact ⟨_, hs⟩
section
variable {ops : List Oper} {anc : List Nat} {rd wr : List (Nat × List Nat)} {tr : Nat → St}
theorem tr_next (ht : TraceOk e H ops anc 0 rd wr tr) : ∀ j, j ≤ ops.length → (tr j).next = (tr 0).next
 | 0, _ => rfl
 | j + 1, hj => by
  have hlt : j < ops.length := by omega
  obtain ⟨r, hr⟩ := step_put (ht.step j ops[j] (Nat.zero_le _) (List.getElem?_eq_getElem hlt))
  rw [hr]
  exact tr_next ht j (by omega)
theorem tr_len (ht : TraceOk e H ops anc 0 rd wr tr) : ∀ j, j ≤ ops.length → (tr j).slots.length = (tr 0).slots.length
 | 0, _ => rfl
 | j + 1, hj => by
  have hlt : j < ops.length := by omega
  obtain ⟨r, hr⟩ := step_put (ht.step j ops[j] (Nat.zero_le _) (List.getElem?_eq_getElem hlt))
  rw [hr, put_len]
  exact tr_len ht j (by omega)
/-- A slot that nothing between two points writes. -/
theorem tr_slot (ht : TraceOk e H ops anc 0 rd wr tr) {a d : Nat} : ∀ b, a ≤ b → b ≤ ops.length → (∀ (k : Nat) (o : Oper), a ≤ k → k < b → ops[k]? = some o → o.dst ≠ some d) → (tr b).slots[d]? = (tr a).slots[d]?
 | 0, hab, _, _ => by
  have : a = 0 := by omega
  rw [this]
 | b + 1, hab, hb, hno => by
  by_cases h : a = b + 1
  ·rw [h]
  ·have hlt : b < ops.length := by omega
   obtain ⟨r, hr⟩ := step_put (ht.step b ops[b] (Nat.zero_le _) (List.getElem?_eq_getElem hlt))
   rw [hr, put_other (hno b ops[b] (by omega) (by omega) (List.getElem?_eq_getElem hlt))]
   exact tr_slot ht b (by omega) (by omega) fun k o h1 h2 => hno k o h1 (by omega)
/-- A block that nothing between two points changes. -/
theorem tr_blk (ht : TraceOk e H ops anc 0 rd wr tr) {a x : Nat} : ∀ b, a ≤ b → b ≤ ops.length → (∀ (k : Nat) (o : Oper), a ≤ k → k < b → ops[k]? = some o → pureOp o.op = false → x ∉ Wr tr k o) → mget (tr b).mem x = mget (tr a).mem x
 | 0, hab, _, _ => by
  have : a = 0 := by omega
  rw [this]
 | b + 1, hab, hb, hno => by
  by_cases h : a = b + 1
  ·rw [h]
  ·have hlt : b < ops.length := by omega
   have ih := tr_blk ht (a := a) (x := x) b (by omega) (by omega) fun k o h1 h2 => hno k o h1 (by omega)
   rw [← ih]
   rcases stepT_some (ht.step b ops[b] (Nat.zero_le _) (List.getElem?_eq_getElem hlt)) with ⟨_, r, hr, hs⟩ | ⟨_, hs⟩
   ·rw [hs]
    show mget r.2 x = _
    cases hp : pureOp (ops[b]).op with
    | true => rw [(opT_pure (id2 := 0) hp hr (fun _ _ => rfl) (fun _ _ => rfl)).2]
    | false => exact opT_keep hp hr (hno b ops[b] (by omega) (by omega) (List.getElem?_eq_getElem hlt) hp)
   ·rw [hs]
    rfl
/-- Memory, where no operation that may write lies between. -/
theorem tr_mem (ht : TraceOk e H ops anc 0 rd wr tr) {a : Nat} : ∀ b, a ≤ b → b ≤ ops.length → (∀ (k : Nat) (o : Oper), a ≤ k → k < b → ops[k]? = some o → pureOp o.op = true) → (tr b).mem = (tr a).mem
 | 0, hab, _, _ => by
  have : a = 0 := by omega
  rw [this]
 | b + 1, hab, hb, hno => by
  by_cases h : a = b + 1
  ·rw [h]
  ·have hlt : b < ops.length := by omega
   have ih := tr_mem ht (a := a) b (by omega) (by omega) fun k o h1 h2 => hno k o h1 (by omega)
   rw [← ih]
   have hp := hno b ops[b] (by omega) (by omega) (List.getElem?_eq_getElem hlt)
   rcases stepT_some (ht.step b ops[b] (Nat.zero_le _) (List.getElem?_eq_getElem hlt)) with ⟨_, r, hr, hs⟩ | ⟨_, hs⟩
   ·rw [hs]
    exact (opT_pure (id2 := 0) hp hr (fun _ _ => rfl) (fun _ _ => rfl)).2
   ·rw [hs]
    rfl
/-- What is true of a state in which the operations of L, and no others, have been done. -/
structure Inv (ops : List Oper) (tr : Nat → St) (L : Nat → Prop) (t : St) : Prop where
 len : t.slots.length = (tr 0).slots.length
 next : t.next = (tr 0).next
 done : ∀ (i : Nat) (o : Oper) (d : Nat), L i → ops[i]? = some o → o.dst = some d → t.slots[d]? = (tr ops.length).slots[d]?
 todo : ∀ d : Nat, (∀ (i : Nat) (o : Oper), L i → ops[i]? = some o → o.dst ≠ some d) → t.slots[d]? = (tr 0).slots[d]?
 mark : ∃ j, j ≤ ops.length ∧ t.mem = (tr j).mem ∧ ∀ (k : Nat) (o : Oper), ops[k]? = some o → pureOp o.op = false → (L k ↔ k < j)
def Down (ops : List Oper) (L : Nat → Prop) : Prop := ∀ (i : Nat) (o : Oper), L i → ops[i]? = some o → ∀ m, m ∈ predsOf o → L m
theorem anc_down {L : Nat → Prop} (hord : OrdOk ops anc) (hL : Down ops L) : ∀ (i : Nat) (o : Oper), ops[i]? = some o → (∀ m, m ∈ predsOf o → L m) → ∀ k, isAnc anc i k = true → L k := by
 intro i
 induction i using Nat.strongRecOn with
 | _ i ih =>
  intro o ho hp k hk
  obtain ⟨m, hm, hmk⟩ := hord.clo i o k ho hk
  rcases hmk with rfl | hmk
  ·exact hp m hm
  ·obtain ⟨ed, he, hon, hbd⟩ := mem_preds hm
   have hlt : m < i := by rw [← hon]; exact hord.lt i o ho ed he hbd
   have hil : i < ops.length := (List.getElem?_eq_some_iff.1 ho).1
   have hml : m < ops.length := by omega
   exact ih m hlt ops[m] (List.getElem?_eq_getElem hml) (hL m ops[m] (hp m hm) (List.getElem?_eq_getElem hml)) k hmk
theorem get_of {s t : St} {k : Nat} (h : t.slots[k]? = s.slots[k]?) : t.get k = s.get k := by
 unfold St.get
 rw [List.getD_eq_getElem?_getD, List.getD_eq_getElem?_getD, h]
theorem mem_tmps : ∀ {l : List Operand} {t : Nat}, Operand.tmp t ∈ l → t ∈ tmpsOf l
 | x :: r, t, h => by
  rcases List.mem_cons.1 h with h | h
  ·subst h
   exact List.mem_cons_self
  ·have := mem_tmps h
   cases x <;> first | exact List.mem_cons_of_mem _ this | exact this
theorem opd_of {s t : St} {o : Oper} (h : ∀ x, x ∈ looks ops o → t.slots[x]? = s.slots[x]?) : ∀ x, x ∈ o.op.operands → opd t x = opd s x := by
 intro x hx
 cases x with
 | tmp k => exact get_of (h k (List.mem_append.2 (.inl (mem_tmps (by simpa using hx)))))
 | const v => rfl
 | global g => rfl
 | func f => rfl
theorem guard_of {s t : St} {o : Oper} (h : ∀ x, x ∈ looks ops o → t.slots[x]? = s.slots[x]?) : guardOf ops t o = guardOf ops s o := by
 unfold guardOf
 cases hg : o.guard with
 | none => rfl
 | some p =>
  obtain ⟨j, want⟩ := p
  simp only
  cases ho : ops[j]? with
  | none => rfl
  | some o' =>
   simp only
   cases hd : o'.dst with
   | none => rfl
   | some d =>
    simp only
    rw [get_of (h d (List.mem_append.2 (.inr (by rw [hg]; simp only [ho, hd]; simp))))]
/-- One operation more. -/
theorem inv_step {L : Nat → Prop} {t : St} {i : Nat} {o : Oper} (hord : OrdOk ops anc) (ht : TraceOk e H ops anc 0 rd wr tr) (hinv : Inv ops tr L t) (hL : Down ops L) (hLn : ∀ k, L k → k < ops.length) (ho : ops[i]? = some o) (hi : ¬ L i) (hready : ∀ m, m ∈ predsOf o → L m) :
  ∃ t', (stepT e H ops i o t).run = some t' ∧ Inv ops tr (fun k => L k ∨ k = i) t' := by
 have hil : i < ops.length := (List.getElem?_eq_some_iff.1 ho).1
 have hanci : ∀ k, isAnc anc i k = true → L k := anc_down hord hL i o ho hready
 have hancL : ∀ j k, L j → isAnc anc j k = true → L k := fun j k hj hk => by
  have hjl := hLn j hj
  exact anc_down hord hL j ops[j] (List.getElem?_eq_getElem hjl) (hL j ops[j] hj (List.getElem?_eq_getElem hjl)) k hk
 -- what the operation looks at
 have hlook : ∀ x, x ∈ looks ops o → t.slots[x]? = (tr i).slots[x]? := by
  intro x hx
  by_cases hex : ∃ j o', L j ∧ ops[j]? = some o' ∧ o'.dst = some x
  ·obtain ⟨j, o', hj, ho', hd⟩ := hex
   have hjl := hLn j hj
   have hji : j < i := by
    rcases Nat.lt_trichotomy j i with h | h | h
    ·exact h
    ·subst h; exact (hi hj).elim
    ·exact (hi (hancL j i hj (hord.look2 i j o o' x h ho ho' hd hx))).elim
   rw [hinv.done j o' x hj ho' hd]
   have h1 := tr_slot ht (a := j + 1) (d := x) ops.length (by omega) (Nat.le_refl _) fun k ok h1 h2 hk => hord.dst j k o' ok x (by omega) ho' hk hd
   have h2 := tr_slot ht (a := j + 1) (d := x) i (by omega) (by omega) fun k ok h1 h2 hk => hord.dst j k o' ok x (by omega) ho' hk hd
   rw [h1, h2]
  ·rw [hinv.todo x fun j o' hj ho' hd => hex ⟨j, o', hj, ho', hd⟩]
   refine (tr_slot ht (a := 0) (d := x) i (Nat.zero_le _) (by omega) fun k ok _ hk hok hd => ?_).symm
   exact hex ⟨k, ok, hanci k (hord.look1 k i ok o x hk hok ho hd hx), hok, hd⟩
 have hopd := opd_of hlook
 have hguard := guard_of hlook
 have hnext : t.next = (tr i).next := by rw [hinv.next, tr_next ht i (by omega)]
 obtain ⟨mk, hmk, hmem, hmL⟩ := hinv.mark
 -- the blocks that it looks at
 have hreads : pureOp o.op = true → ∀ b, b ∈ readsOf o.op (tr i) → mget t.mem b = mget (tr i).mem b := by
  intro hp b hb
  rw [hmem]
  rcases Nat.le_total mk i with h | h
  ·refine (tr_blk ht (a := mk) (x := b) i h (by omega) fun k ok h1 h2 hok hpk hbk => ?_).symm
   rcases ht.rdwr k i ok o (Nat.zero_le _) h2 hok ho hp hpk with hh | hh
   ·exact absurd ((hmL k ok hok hpk).1 (hanci k hh)) (by omega)
   ·exact hh b hb hbk
  ·refine tr_blk ht (a := i) (x := b) mk h hmk fun k ok h1 h2 hok hpk hbk => ?_
   have hLk := (hmL k ok hok hpk).2 h2
   have hik : i < k := by
    rcases Nat.eq_or_lt_of_le h1 with hh | hh
    ·subst hh; exact (hi hLk).elim
    ·exact hh
   rcases ht.wrrd i k o ok (Nat.zero_le _) hik ho hok hpk hp with hh | hh
   ·exact hi (hancL k i hLk hh)
   ·exact hh b hbk hb
 have hmemi : pureOp o.op = false → mk ≤ i ∧ t.mem = (tr i).mem := by
  intro hp
  have h1 : mk ≤ i := by
   rcases Nat.lt_or_ge i mk with h | h
   ·exact (hi ((hmL i o ho hp).2 h)).elim
   ·exact h
  refine ⟨h1, ?_⟩
  rw [hmem]
  refine (tr_mem ht (a := mk) i h1 (by omega) fun k ok h2 h3 hok => ?_).symm
  cases hpk : pureOp ok.op with
  | true => rfl
  | false =>
   have := (hmL k ok hok hpk).1 (hanci k (hord.imp k i ok o h3 hok ho hpk hp))
   omega
 have hti := ht.step i o (Nat.zero_le _) ho
 -- the step itself
 have hstep : ∃ v m, (stepT e H ops i o t).run = some (t.put o.dst (v, m)) ∧ (∃ m', tr (i + 1) = (tr i).put o.dst (v, m')) ∧ ((pureOp o.op = true ∧ m = t.mem) ∨ (pureOp o.op = false ∧ m = (tr (i + 1)).mem)) := by
  rcases stepT_some hti with ⟨hg, r, hr, hs⟩ | ⟨hg, hs⟩
  ·have hgt : guardOf ops t o = some true := by rw [hguard]; exact hg
   cases hp : pureOp o.op with
   | true =>
    obtain ⟨h1, h2⟩ := opT_pure (id2 := t.next + 8 * i) hp hr hopd (hreads hp)
    refine ⟨r.1, t.mem, ?_, ⟨r.2, hs⟩, .inl ⟨rfl, rfl⟩⟩
    unfold stepT
    rw [hgt]
    simp only [Tr.run, cond_true]
    rw [Tr.run_bind, h1]
    rfl
   | false =>
    refine ⟨r.1, r.2, ?_, ⟨r.2, hs⟩, .inr ⟨rfl, by rw [hs]; rfl⟩⟩
    unfold stepT
    rw [hgt]
    simp only [Tr.run, cond_true]
    rw [Tr.run_bind, hnext, opT_congr hopd (hmemi hp).2, hr]
    rfl
  ·have hgt : guardOf ops t o = some false := by rw [hguard]; exact hg
   refine ⟨unit, t.mem, ?_, ⟨(tr i).mem, hs⟩, ?_⟩
   ·unfold stepT
    rw [hgt]
    rfl
   ·cases hp : pureOp o.op with
    | true => exact .inl ⟨rfl, rfl⟩
    | false => exact .inr ⟨rfl, by rw [(hmemi hp).2, hs]; rfl⟩
 obtain ⟨v, m, hrun, ⟨m', hs⟩, hm⟩ := hstep
 refine ⟨_, hrun, ⟨by rw [put_len]; exact hinv.len, hinv.next, fun j oj d hj hoj hd => ?_, fun d hno => ?_, ?_⟩⟩
 ·rcases hj with hj | rfl
  ·have hne : o.dst ≠ some d := by
    have hji : j ≠ i := fun hh => hi (hh ▸ hj)
    rcases Nat.lt_or_gt_of_ne hji with h | h
    ·exact hord.dst j i oj o d h hoj ho hd
    ·exact fun hh => hord.dst i j o oj d h ho hoj hh hd
   rw [put_other hne]
   exact hinv.done j oj d hj hoj hd
  ·rw [ho] at hoj
   cases hoj
   have h1 := tr_slot ht (a := j + 1) (d := d) ops.length (by omega) (Nat.le_refl _) fun k ok h1 h2 hk => hord.dst j k o ok d (by omega) ho hk hd
   rw [h1, hs, hd]
   exact put_same (by rw [hinv.len, tr_len ht j (by omega)]) rfl rfl
 ·rw [put_other (hno i o (.inr rfl) ho)]
  exact hinv.todo d fun j oj hj => hno j oj (.inl hj)
 ·rcases hm with ⟨hp, rfl⟩ | ⟨hp, rfl⟩
  ·refine ⟨mk, hmk, hmem, fun k ok hok hpk => ⟨fun hh => ?_, fun hh => .inl ((hmL k ok hok hpk).2 hh)⟩⟩
   rcases hh with hh | rfl
   ·exact (hmL k ok hok hpk).1 hh
   ·rw [ho] at hok
    cases hok
    rw [hp] at hpk
    cases hpk
  ·have hmi := (hmemi hp).1
   refine ⟨i + 1, by omega, rfl, fun k ok hok hpk => ⟨fun hh => ?_, fun hh => ?_⟩⟩
   ·rcases hh with hh | rfl
    ·have := (hmL k ok hok hpk).1 hh
     omega
    ·omega
   ·rcases Nat.eq_or_lt_of_le (Nat.le_of_lt_succ hh) with h | h
    ·exact .inr h
    ·exact .inl (hanci k (hord.imp k i ok o h hok ho hpk hp))
theorem inv_end {L : Nat → Prop} {t : St} (ht : TraceOk e H ops anc 0 rd wr tr) (hinv : Inv ops tr L t) (hall : ∀ k, k < ops.length → L k) : t.slots = (tr ops.length).slots ∧ t.mem = (tr ops.length).mem := by
 constructor
 ·apply List.ext_getElem?
  intro d
  by_cases hex : ∃ j o', L j ∧ ops[j]? = some o' ∧ o'.dst = some d
  ·obtain ⟨j, o', hj, ho', hd⟩ := hex
   exact hinv.done j o' d hj ho' hd
  ·rw [hinv.todo d fun j o' hj ho' hd => hex ⟨j, o', hj, ho', hd⟩]
   refine (tr_slot ht (a := 0) (d := d) ops.length (Nat.zero_le _) (Nat.le_refl _) fun k ok _ hk hok hd => ?_).symm
   exact hex ⟨k, ok, hall k hk, hok, hd⟩
 ·obtain ⟨mk, hmk, hmem, hmL⟩ := hinv.mark
  rw [hmem]
  refine (tr_mem ht (a := mk) ops.length hmk (Nat.le_refl _) fun k ok h2 h3 hok => ?_).symm
  cases hpk : pureOp ok.op with
  | true => rfl
  | false =>
   have := (hmL k ok hok hpk).1 (hall k h3)
   omega
end
/-! ### Any order -/
def unl (listed : Array Bool) (n : Nat) : Nat := (List.range n).countP fun i => !(listed.getD i true)
theorem countP_lt {p q : Nat → Bool} (h : ∀ x, q x = true → p x = true) : ∀ (l : List Nat) (i : Nat), i ∈ l → p i = true → q i = false → l.countP q < l.countP p
 | x :: r, i, hi, hp, hq => by
  have hle : ∀ l : List Nat, l.countP q ≤ l.countP p := fun l => List.countP_mono_left fun x _ hx => h x hx
  rcases List.mem_cons.1 hi with rfl | hi
  ·rw [List.countP_cons, List.countP_cons, hp, hq]
   have := hle r
   simp
   omega
  ·have ih := countP_lt h r i hi hp hq
   rw [List.countP_cons, List.countP_cons]
   cases hqx : q x with
   | true => rw [h x hqx]; simp; omega
   | false => simp; split <;> omega
theorem bind_any {ed : Edge} (h : Region.binds .any ed = true) (md : Region.Mode) : Region.binds md ed = true := by
 unfold Region.binds at h ⊢
 split at h
 ·cases h
 ·cases h
 ·rfl
theorem any_sound {A : Array Oper} {anc : List Nat} {rd wr : List (Nat × List Nat)} {tr : Nat → St} {md : Region.Mode} {Q : Exit → Act → World → Prop} (hok : EnvOk P e) (hH : ∀ g h, H g = some h → Con P e g h) (hwr : wrOps Γ.np A.toList = true) (hord : OrdOk A.toList anc)
  (ht : TraceOk e H A.toList anc 0 rd wr tr) (hQ : ∀ t C a w, t.slots = (tr A.size).slots → t.mem = (tr A.size).mem → RelC e Γ C t a w → Q .normal a w) :
  ∀ (fuel : Nat) (listed : Array Bool) (t : St) (C : Ctx) (a : Act) (w : World), listed.size = A.size → unl listed A.size ≤ fuel → Down A.toList (fun i => listed.getD i false = true) → Inv A.toList tr (fun i => listed.getD i false = true) t → RelC e Γ C t a w → wpAny P md A Q fuel listed a w := by
 intro fuel
 have hsz : A.toList.length = A.size := Array.length_toList
 have hLn : ∀ listed : Array Bool, listed.size = A.size → ∀ k, listed.getD k false = true → k < A.toList.length := fun listed hl k hk => by
  rcases Nat.lt_or_ge k listed.size with h | h
  ·omega
  ·rw [show listed.getD k false = false by simp [Array.getD, Nat.not_lt.2 h]] at hk
   cases hk
 have hsame : ∀ listed : Array Bool, listed.size = A.size → ∀ k, k < A.size → listed.getD k true = listed.getD k false := fun listed hl k hk => by simp [Array.getD, hl, hk]
 have hend : ∀ (listed : Array Bool) (t : St) (C : Ctx) (a : Act) (w : World), listed.size = A.size → Inv A.toList tr (fun i => listed.getD i false = true) t → RelC e Γ C t a w → Region.ready md A listed = [] → Q .normal a w := by
  intro listed t C a w hl hinv hR hr
  obtain ⟨rk, hrk⟩ := hord.rk md
  have hall' : ∀ n k, rk k = n → k < A.size → listed.getD k false = true := by
   intro n
   induction n using Nat.strongRecOn with
   | _ n ih =>
    intro k hkn hk
    cases hb : listed.getD k false with
    | true => rfl
    | false =>
     have hmem : k ∈ Region.ready md A listed := mem_ready.2 ⟨by rw [hsame listed hl k hk]; exact hb, A[k], Array.getElem?_eq_getElem hk, fun ed he hbd => by
      obtain ⟨q1, q2⟩ := hrk k A[k] (by rw [Array.getElem?_toList]; exact Array.getElem?_eq_getElem hk) ed he hbd
      exact ih (rk ed.on) (by omega) ed.on rfl (by omega)⟩
     rw [hr] at hmem
     cases hmem
  have hall : ∀ k, k < A.size → listed.getD k false = true := fun k hk => hall' _ k rfl hk
  obtain ⟨h1, h2⟩ := inv_end ht hinv (fun k hk => hall k (by omega))
  rw [hsz] at h1 h2
  exact hQ t C a w h1 h2 hR
 induction fuel with
 | zero =>
  intro listed t C a w hl hu hdn hinv hR
  have hr : Region.ready md A listed = [] := by
   cases hrr : Region.ready md A listed with
   | nil => rfl
   | cons i r =>
    have hi : i ∈ Region.ready md A listed := by rw [hrr]; exact List.mem_cons_self
    obtain ⟨h0, o, ho, _⟩ := mem_ready.1 hi
    have hil : i < A.size := (Array.getElem?_eq_some_iff.1 ho).1
    have : 0 < unl listed A.size := by
     unfold unl
     exact List.countP_pos_iff.2 ⟨i, List.mem_range.2 hil, by rw [h0]; rfl⟩
    omega
  exact ⟨hr, hend listed t C a w hl hinv hR hr⟩
 | succ fuel ih =>
  intro listed t C a w hl hu hdn hinv hR
  refine ⟨hend listed t C a w hl hinv hR, fun i hi => ?_⟩
  obtain ⟨h0, o, ho, hall⟩ := mem_ready.1 hi
  have hil : i < A.size := (Array.getElem?_eq_some_iff.1 ho).1
  have ho' : A.toList[i]? = some o := by rw [Array.getElem?_toList]; exact ho
  have hni : ¬ listed.getD i false = true := by rw [← hsame listed hl i hil, h0]; exact fun hh => by cases hh
  have hready : ∀ m, m ∈ predsOf o → listed.getD m false = true := fun m hm => by
   obtain ⟨ed, he, hon, hb⟩ := mem_preds hm
   rw [← hon]
   exact hall ed he (bind_any hb md)
  obtain ⟨t', hrun, hinv'⟩ := inv_step hord ht hinv hdn (hLn listed hl) ho' hni hready
  have hset : ∀ k, (listed.setIfInBounds i true).getD k false = true ↔ (listed.getD k false = true ∨ k = i) := fun k => by
   by_cases hk : k = i
   ·subst hk
    simp [Array.getD, hl, hil]
   ·rw [getD_set_ne false (Ne.symm hk)]
    simp [hk]
  refine stepT_sound hok hH ho (wrOps_get hwr ho') hrun hR fun _ C' a' w' hR' => ih _ t' C' a' w' (by rw [Array.size_setIfInBounds]; exact hl) ?_ (fun j oj hj hoj m hm => ?_) ?_ hR'
  ·have : unl (listed.setIfInBounds i true) A.size < unl listed A.size := by
    unfold unl
    refine countP_lt (fun x hx => ?_) _ i (List.mem_range.2 hil) (by rw [h0]; rfl) ?_
    ·by_cases hxi : x = i
     ·subst hxi
      rw [h0]
      rfl
     ·rw [getD_set_ne true (Ne.symm hxi)] at hx
      exact hx
    ·simp [Array.getD, hl, hil]
   omega
  ·refine (hset m).2 ?_
   rcases (hset j).1 hj with hj | rfl
   ·exact .inl (hdn j oj hj hoj m hm)
   ·rw [ho'] at hoj
    cases hoj
    exact .inl (hready m hm)
  ·have : (fun k => listed.getD k false = true ∨ k = i) = fun k => (listed.setIfInBounds i true).getD k false = true := funext fun k => propext (hset k).symm
   rw [← this]
   exact hinv'
theorem RelC.drawn (h : RelC e Γ C s a w) (n : Nat) : RelC e Γ C s a { w with drawn := n } := by
 have hch : Ch w { w with drawn := n } (fun _ => False) := ⟨rfl, rfl, rfl, Nat.le_refl _, fun _ _ _ => rfl⟩
 exact ⟨h.defers, h.len, fun k x v hx hv => ARel.move (w := w) (w' := { w with drawn := n }) (CLe.refl C) (fun _ _ _ => rfl) (h.slots k x v hx hv), h.par, h.mem.world hch (fun _ _ hh => hh) rfl rfl rfl rfl (fun _ hk => hk) (fun j c hj hl g hg => ⟨fun hh => hh, ((h.mem.blk j c hj).nf hl hg).1⟩),
  h.W.step (CLe.refl C) hch (fun _ _ hh => hh.elim) (fun _ _ hh => hh) (fun k hk => .inl hk)⟩
theorem draw_sound {R : Type} {A : Array Oper} {id : Nat} {K : St → Option R} {r : R} {Q : Exit → Act → World → Prop} (hok : EnvOk P e) (hH : ∀ g h, H g = some h → Con P e g h) (hwr : wrOps Γ.np A.toList = true) (hd : drawOk A.toList = true)
  (hr : evOpsD e H A.toList (ancs A.toList []) 0 A.toList [] [] s K = some r) (h : RelC e Γ C s a w) (hQ : ∀ s' C' a' w', s'.slots.length = s.slots.length → RelC e Γ C' s' a' w' → K s' = some r → Q .normal a' w') : (Code.region id A true).wp P Q a w := by
 obtain ⟨tr, t0, ht, hK⟩ := evOpsD_tr A.toList 0 [] [] s (fun j => by rw [Nat.zero_add]) hr
 have hsz : A.toList.length = A.size := Array.length_toList
 rw [Nat.zero_add, hsz] at hK
 have hfin : ∀ t C a w, t.slots = (tr A.size).slots → t.mem = (tr A.size).mem → RelC e Γ C t a w → Q .normal a w := fun t C a w h1 h2 hR => by
  refine hQ ⟨(tr A.size).slots, (tr A.size).mem, (tr A.size).next + 8 * A.size⟩ C a w ?_ ?_ hK
  ·rw [← t0]
   have := tr_len ht A.size (by omega)
   exact this
  ·exact ⟨hR.defers, by rw [← h1]; exact hR.len, by rw [← h1]; exact hR.slots, hR.par, by rw [← h2]; exact hR.mem, hR.W⟩
 have hget : ∀ k d, (Array.replicate A.size false).getD k false = d → d = false := fun k d hh => by
  rw [← hh]
  by_cases hk : k < A.size <;> simp [Array.getD, hk]
 have hempty : ∀ k, ¬ (Array.replicate A.size false).getD k false = true := fun k hh => by
  have := hget k true hh
  cases this
 have hstart : ∀ md, wpAny P md A Q A.size (Array.replicate A.size false) a { w with drawn := w.drawn + 1 } := fun md =>
  any_sound hok hH hwr (ord_of hd) ht hfin A.size _ s C a _ (by simp) (by unfold unl; exact Nat.le_trans List.countP_le_length (by simp)) (fun i _ hi => (hempty i hi).elim)
   ⟨by rw [t0], by rw [t0], fun i _ _ hi => (hempty i hi).elim, fun d _ => by rw [t0], ⟨0, Nat.zero_le _, by rw [t0], fun k _ _ _ => ⟨fun hh => (hempty k hh).elim, fun hh => by omega⟩⟩⟩ (h.drawn _)
 refine wp_region_draw fun t => ?_
 unfold Region.schedule
 split
 ·exact wpAny_sound A.size t _ a _ (hstart .any)
 ·split
  ·exact wpAny_sound A.size (t / 2) _ a _ (hstart .text)
  ·exact wpAny_sound A.size (t / 2) _ a _ (hstart .gc)
end Go.Ev
