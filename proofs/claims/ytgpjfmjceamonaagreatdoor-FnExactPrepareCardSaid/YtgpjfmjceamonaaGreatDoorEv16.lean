/-
 The abstract evaluator: an operation, whichever it is.
-/
import Derived.Test.YtgpjfmjceamonaaGreatDoorEv14
namespace Go.Ev
variable {P : Program} {e : Env} {H : Nat → Option FH} {Γ : Actv} {C : Ctx} {s : St} {a : Act} {w : World} {o : Oper} {id : Nat} {r : AV × Mem}
theorem op_append (hok : EnvOk P e) {T E : Nat} {inf : TI} {x y : Operand} {ca cb : CV} {xs ys : List inf.t.den} {os os' : List Nat} (h : RelC e Γ C s a w) (ho : o.op = .call { callee := .builtin .append, args := #[x, y], argTypes := #[T, T] }) (hT : look e.els T = some E) (hE : look e.tys E = some inf)
  (ha : opd s x = .v (.one ca)) (hb : opd s y = .v (.one cb)) (hx : exCells.exOwn s.mem E inf.t ca = some (xs, os)) (hy : rowOf0 s.mem inf.t cb = some (ys, os')) (hi : fresh s.mem id 1 = true) (hlim : xs.length + ys.length ≤ 140737488355328 / inf.bytes) :
  OpDone P e Γ C o a w (.v (.one (.own id)), mput (kill s.mem os) id (.row E inf.t (xs ++ ys))) := by
 obtain ⟨v, w', C', h1, h2⟩ := append_rel (ty := o.type) hok h hT hE hx hy (opd_one h ha) (opd_one h hb) hi hlim
 refine .inl ⟨v, w', C', ?_, h2⟩
 unfold execOp
 rw [ho]
 simp [resolve, invoke, builtin, h1]
theorem and3 {a b c : Bool} (h : (a && b && c) = true) : a = true ∧ b = true ∧ c = true := by
 simp only [Bool.and_eq_true] at h
 exact ⟨h.1.1, h.1.2, h.2⟩
theorem bif_some {α : Type} {b : Bool} {x : Tr α} {r : α} (h : (bif b then x else .fail).run = some r) : b = true ∧ x.run = some r := by
 cases b with
 | true => exact ⟨rfl, h⟩
 | false => cases h
theorem arr_of {α : Type} {xs : Array α} {l : List α} (h : xs.toList = l) : xs = l.toArray := by
 subst h
 exact (Array.toArray_toList).symm
theorem builtinT_rel (hok : EnvOk P e) {b : Builtin} {args : Array Operand} {tys : Array Nat} (h : RelC e Γ C s a w) (ho : o.op = .call { callee := .builtin b, args := args, argTypes := tys }) (hr : (builtinT e b args.toList tys.toList s id).run = some r) : OpDone P e Γ C o a w r := by
 unfold builtinT at hr
 split at hr
 · -- len
  rename_i x hargs
  have := arr_of hargs
  subst this
  split at hr
  ·rename_i T htys
   have := arr_of htys
   subst this
   split at hr
   ·rename_i t hT
    split at hr
    ·rename_i b hx
     cases hr
     exact op_len (A := none) (c := 0) hok h ho hT (.inl ⟨b, rfl, opd_one h hx, rfl⟩)
    ·rename_i t' hx
     cases hr
     exact op_len (c := 0) hok h ho hT (.inr ⟨t', rfl, opd_one h hx⟩)
    ·rename_i t' t2 xs hx
     cases hr
     obtain ⟨A, c, e1, _⟩ := opd_one h hx
     exact op_len (A := A) (c := c) hok h ho hT (.inr ⟨t', rfl, by simpa using e1⟩)
    ·rename_i t' b hx
     obtain ⟨hd, e1⟩ := opd_one h hx
     split at hr
     ·rename_i E t2 xs hm
      cases hr
      obtain ⟨⟨cells, hown, _⟩, _⟩ := h.mem.blk b _ hm
      rcases hown.2 with ⟨hv, hn⟩ | ⟨g, cap, cur, hv, _⟩
      ·have := op_len (n := xs.length) (A := none) (c := 0) hok h ho hT (.inr ⟨t', rfl, by rw [e1, hv, hn]⟩)
       exact this
      ·exact op_len (c := cap) hok h ho hT (.inr ⟨t', rfl, by rw [e1, hv]⟩)
     ·rename_i t2 xs hm
      cases hr
      obtain ⟨A, c, e2, _⟩ := h.mem.blk b _ hm
      exact op_len (A := A) (c := c) hok h ho hT (.inr ⟨t', rfl, by rw [e1]; simpa using e2⟩)
     ·cases hr
    ·cases hr
   ·cases hr
  ·cases hr
 · -- min
  rename_i x y hargs
  have := arr_of hargs
  subst this
  split at hr
  ·rename_i k n k' m hx hy
   obtain ⟨hk, hr2⟩ := bif_some hr
   clear hr
   have := IK.eq_of_beq hk
   subst this
   cases hr2
   exact op_min h ho hx hy
  ·cases hr
 · -- append
  rename_i x y hargs
  have := arr_of hargs
  subst this
  split at hr
  ·rename_i T T' htys
   have := arr_of htys
   subst this
   obtain ⟨hTT, hr2⟩ := bif_some hr
   clear hr
   have := Nat.eq_of_beq_eq_true hTT
   subst this
   have hr := hr2
   clear hr2
   split at hr
   ·rename_i E hT
    split at hr
    ·rename_i inf hE
     split at hr
     ·rename_i ca cb ha hb
      split at hr
      ·rename_i xs os ys os' hx hy
       cases hq : (os.any fun o => os'.any (Nat.beq o)) || !(fresh s.mem id 1) with
       | true => rw [hq] at hr; cases hr
       | false =>
        rw [hq] at hr
        rw [Bool.or_eq_false_iff, Bool.not_eq_false'] at hq
        obtain ⟨hl, hr⟩ := need_some hr
        cases hr
        exact op_append hok h ho hT hE ha hb hx hy hq.2 (of_decide_eq_true hl)
      ·cases hr
     ·cases hr
    ·cases hr
   ·cases hr
  ·cases hr
 ·cases hr
theorem opT0_rel (hok : EnvOk P e) (hH : ∀ g h, H g = some h → Con P e g h) (h : RelC e Γ C s a w) (hr : (opT0 e H o.op id s).run = some r) : OpDone P e Γ C o a w r := by
 generalize hop : o.op = op at hr
 cases op with
 | move x => cases hr; exact op_move h (.inl hop)
 | assign x => cases hr; exact op_move h (.inr hop)
 | pick c x y =>
  simp only [opT0] at hr
  split at hr
  ·rename_i t hc
   have := op_pick (P := P) h hop hc
   cases t <;> (cases hr; exact this)
  ·cases hr
 | alloc E =>
  simp only [opT0] at hr
  split at hr
  ·rename_i t ht
   obtain ⟨hi, hr⟩ := bif_some hr
   cases hr
   exact op_alloc hok h hop ht hi
  ·cases hr
 | box E x =>
  simp only [opT0] at hr
  split at hr
  ·rename_i t c ht hx
   obtain ⟨hi, hr⟩ := bif_some hr
   obtain ⟨_, h2, h3⟩ := and3 hi
   cases hr
   exact op_box h hop hx h2 h3 ht
  ·cases hr
 | build S parts =>
  simp only [opT0] at hr
  split at hr
  ·rename_i t ht
   cases hA : (e.arrs.any (Nat.beq S) && t.isSt) with
   | true =>
    rw [hA] at hr
    simp only [cond_true] at hr
    rw [Bool.and_eq_true] at hA
    split at hr
    ·rename_i cs hb
     cases hr
     exact op_buildArr hok h hop ht hA.1 hb
    ·cases hr
   | false =>
    rw [hA] at hr
    simp only [cond_false] at hr
    obtain ⟨hS, hr⟩ := bif_some hr
    split at hr
    ·rename_i cs hb
     cases hr
     exact op_build hok h hop ht hS hb
    ·cases hr
  ·cases hr
 | buildSlice R n parts =>
  simp only [opT0] at hr
  split at hr
  ·rename_i E hR
   split at hr
   ·rename_i t hE
    split at hr
    ·rename_i l hl
     obtain ⟨hi, hr⟩ := bif_some hr
     obtain ⟨h1, h2, h3⟩ := and3 hi
     split at hr
     ·rename_i xs os hp
      cases hr
      exact op_buildSlice hok h hop hR hE hl (Nat.eq_of_beq_eq_true h1) (Nat.le_of_ble_eq_true h2) h3 hp
     ·cases hr
    ·cases hr
   ·cases hr
  ·cases hr
 | load E x =>
  simp only [opT0] at hr
  split at hr
  ·rename_i g hx
   split at hr
   ·rename_i tbl hg
    obtain ⟨hm, hr⟩ := bif_some hr
    cases hr
    exact op_loadg h hok hop hx hg hm
   ·cases hr
  ·rename_i c _ hx
   split at hr
   ·rename_i t ht
    split at hr
    ·rename_i cs hc
     split at hr
     ·rename_i v hv
      cases hr
      exact op_load hok h hop hx ht hc hv
     ·cases hr
    ·cases hr
   ·cases hr
  ·cases hr
 | store E x y =>
  simp only [opT0] at hr
  split at hr
  ·rename_i c v t hx hy ht
   obtain ⟨hi, hr⟩ := bif_some hr
   rw [Bool.and_eq_true] at hi
   split at hr
   ·rename_i m hw
    cases hr
    exact op_store hok h hop hx hy ht (Nat.eq_of_beq_eq_true hi.1) hi.2 hw
   ·cases hr
  ·cases hr
 | nilCheck x =>
  simp only [opT0] at hr
  split at hr
  ·rename_i b off hx
   cases hr
   exact op_nilCheck h hop hx
  ·cases hr
 | binOp op T x y T' =>
  simp only [opT0] at hr
  rw [Tr.run_bind] at hr
  obtain ⟨v, hv, hr⟩ := Option.bind_eq_some_iff.1 hr
  cases hr
  unfold binV at hv
  split at hv
  ·rename_i c c' hx hy
   rw [Tr.run_bind] at hv
   obtain ⟨cr, hc, hv⟩ := Option.bind_eq_some_iff.1 hv
   cases hv
   exact op_binC hok h hop hx hy hc
  ·rename_i cs cs' hx hy
   obtain ⟨hT, hv2⟩ := bif_some hv
   clear hv
   have hv := hv2
   clear hv2
   split at hv
   ·rename_i t hq
    cases hv
    exact op_eqAgg hok h hop hT hx hy hq (.inl ⟨rfl, rfl⟩)
   ·rename_i t hq
    cases hv
    exact op_eqAgg hok h hop hT hx hy hq (.inr ⟨rfl, rfl⟩)
   ·cases hv
  ·cases hv
 | unOp op T x =>
  simp only [opT0] at hr
  split at hr
  ·rename_i v hv
   cases hr
   exact op_unOp h hop hv
  ·cases hr
 | convert S D x =>
  simp only [opT0] at hr
  obtain ⟨hS, hr⟩ := bif_some hr
  split at hr
  ·rename_i k j n hD hx
   cases hr
   exact op_convert hok h hop hS hD hx (.inl ⟨k, j, n, rfl, rfl, rfl⟩)
  ·rename_i b hD hx
   cases hr
   exact op_convert hok h hop hS hD hx (.inr (.inl ⟨b, rfl, rfl, rfl⟩))
  ·rename_i j n hD hx
   cases hr
   exact op_convert hok h hop hS hD hx (.inr (.inr ⟨j, n, rfl, rfl, rfl⟩))
  ·cases hr
 | makeFunc fn first caps =>
  cases fn with
  | func f =>
   simp only [opT0] at hr
   obtain ⟨hf, hr⟩ := bif_some hr
   split at hr
   ·rename_i l hl
    split at hr
    ·rename_i bs hb
     cases hr
     exact op_makeFunc h hop hf hl hb
    ·cases hr
   ·cases hr
  | _ => cases hr
 | makeMap M res =>
  cases res with
  | none =>
   simp only [opT0] at hr
   obtain ⟨hi, hr⟩ := bif_some hr
   cases hr
   exact op_makeMap h hop hi
  | some x => cases hr
 | mapUpdate M m k x =>
  simp only [opT0] at hr
  obtain ⟨hM, hr⟩ := bif_some hr
  split at hr
  ·rename_i b n v hm hk hx
   split at hr
   ·rename_i es hb
    cases hr
    exact op_mapUpdate hok h hop hM hm hk hx hb
   ·cases hr
  ·cases hr
 | lookup M m k ok =>
  simp only [opT0] at hr
  obtain ⟨hM, hr⟩ := bif_some hr
  split at hr
  ·rename_i g n hm hk
   split at hr
   ·rename_i tbl hg
    have := op_lookup hok h hop hM hm hk hg
    cases ok <;> (cases hr; exact this)
   ·cases hr
  ·cases hr
 | makeSlice R l c =>
  simp only [opT0] at hr
  obtain ⟨hlc, hr⟩ := bif_some hr
  split at hr
  ·rename_i E hR
   split at hr
   ·rename_i inf hE
    split at hr
    ·rename_i n hl
     obtain ⟨hi, hr⟩ := bif_some hr
     obtain ⟨hn, hr⟩ := need_some hr
     rw [Bool.and_eq_true] at hn
     cases hr
     exact op_makeSlice hok h hop hlc hR hE hl hi (of_decide_eq_true hn.1) (of_decide_eq_true hn.2)
    ·cases hr
   ·cases hr
  ·cases hr
 | slice R x lo hi mx =>
  cases lo with
  | some _ => cases hr
  | none =>
  cases hi with
  | none => cases hr
  | some hh =>
  cases mx with
  | some _ => cases hr
  | none =>
   simp only [opT0] at hr
   obtain ⟨hR, hr⟩ := bif_some hr
   obtain ⟨t0, hR⟩ := Option.isSome_iff_exists.1 hR
   obtain ⟨E0, hR, hE0⟩ := Option.bind_eq_some_iff.1 hR
   split at hr
   ·rename_i b n hx hn
    split at hr
    ·rename_i E t xs hb
     obtain ⟨hi, hr⟩ := bif_some hr
     obtain ⟨hq, hr⟩ := need_some hr
     rw [Bool.and_eq_true] at hq
     cases hr
     exact op_slice hok h hop hR hE0 hx hn hb hi (of_decide_eq_true hq.1) (of_decide_eq_true hq.2)
    ·cases hr
   ·cases hr
 | fieldAddr S x f =>
  simp only [opT0] at hr
  split at hr
  ·rename_i c off n ag hx hf
   split at hr
   ·rename_i c' hc
    cases hr
    exact op_fieldAddr hok h hop hx hf hc
   ·cases hr
  ·cases hr
 | field S x f =>
  simp only [opT0] at hr
  split at hr
  ·rename_i cs off n ag hx hf
   split at hr
   ·rename_i l hl
    split at hr
    ·rename_i v hv
     cases hr
     exact op_field hok h hop hx hf hl hv
    ·cases hr
   ·cases hr
  ·cases hr
 | indexAddr R x i =>
  simp only [opT0] at hr
  split at hr
  ·rename_i t' ht'
   obtain ⟨E, hT, hE⟩ := Option.bind_eq_some_iff.1 ht'
   split at hr
   ·rename_i b k n hx hi
    split at hr
    ·rename_i E' t xs hb
     obtain ⟨hbq, hr⟩ := bif_some hr
     obtain ⟨hq, hr⟩ := need_some hr
     have := Ty.eq_of_beq hbq
     subst this
     rw [Bool.and_eq_true] at hq
     cases hr
     exact op_indexAddr hok h hop hT hx hi (of_decide_eq_true hq.1) hE (.inl ⟨b, rfl, rfl, .inl ⟨E', xs, hb, of_decide_eq_true hq.2⟩⟩)
    ·rename_i t xs hb
     obtain ⟨hbq, hr⟩ := bif_some hr
     obtain ⟨hq, hr⟩ := need_some hr
     have := Ty.eq_of_beq hbq
     subst this
     rw [Bool.and_eq_true] at hq
     cases hr
     exact op_indexAddr hok h hop hT hx hi (of_decide_eq_true hq.1) hE (.inl ⟨b, rfl, rfl, .inr ⟨xs, hb, of_decide_eq_true hq.2⟩⟩)
    ·cases hr
   ·rename_i t xs k n hx hi
    obtain ⟨hbq, hr⟩ := bif_some hr
    obtain ⟨hq, hr⟩ := need_some hr
    have := Ty.eq_of_beq hbq
    subst this
    rw [Bool.and_eq_true] at hq
    cases hr
    exact op_indexAddr hok h hop hT hx hi (of_decide_eq_true hq.1) hE (.inr ⟨xs, rfl, of_decide_eq_true hq.2, rfl⟩)
   ·cases hr
  ·obtain ⟨hA, hr⟩ := bif_some hr
   split at hr
   ·rename_i b off k n hx hi
    simp only [Tr.run] at hr
    cases h0 : (n == 0) with
    | true =>
     rw [h0] at hr
     cases hr
     have : n = ((0 : Nat) : Int) := eq_of_beq h0
     subst this
     exact op_indexArr (j := 0) hok h hop hA hx hi (by omega)
    | false =>
    rw [h0] at hr
    cases h1 : (n == 1) with
    | true =>
     rw [h1] at hr
     cases hr
     have : n = ((1 : Nat) : Int) := eq_of_beq h1
     subst this
     exact op_indexArr (j := 1) hok h hop hA hx hi (by omega)
    | false =>
    rw [h1] at hr
    cases h2 : (n == 2) with
    | true =>
     rw [h2] at hr
     cases hr
     have : n = ((2 : Nat) : Int) := eq_of_beq h2
     subst this
     exact op_indexArr (j := 2) hok h hop hA hx hi (by omega)
    | false =>
    rw [h2] at hr
    cases h3 : (n == 3) with
    | true =>
     rw [h3] at hr
     cases hr
     have : n = ((3 : Nat) : Int) := eq_of_beq h3
     subst this
     exact op_indexArr (j := 3) hok h hop hA hx hi (by omega)
    | false =>
     rw [h3] at hr
     cases hr
   ·cases hr
 | index R x i =>
  simp only [opT0] at hr
  obtain ⟨hR, hr⟩ := bif_some hr
  split at hr
  ·rename_i cs k n hx hi
   split at hr
   ·rename_i l hl
    obtain ⟨h4, hr⟩ := bif_some hr
    obtain ⟨hq, hr⟩ := need_some hr
    rw [Bool.and_eq_true] at hq
    cases hr
    exact op_index hok h hop hR hx hi hl (of_decide_eq_true hq.1) (of_decide_eq_true hq.2) (Nat.eq_of_beq_eq_true h4)
   ·cases hr
  ·cases hr
 | extract x i =>
  simp only [opT0] at hr
  split at hr
  ·rename_i l hx
   split at hr
   ·rename_i v hv
    cases hr
    exact op_extract h hop hx hv
   ·cases hr
  ·cases hr
 | call c =>
  simp only [opT0] at hr
  split at hr
  ·rename_i b hc
   obtain ⟨cl, args, tys⟩ := c
   have hc' : cl = .builtin b := hc
   subst hc'
   exact builtinT_rel hok h hop hr
  ·rename_i f hc
   split at hr
   ·rename_i g caps l hf hl
    split at hr
    ·rename_i hg hHg
     exact op_call h hop hc hf hl (hH g hg hHg) hr
    ·cases hr
   ·cases hr
  ·cases hr
 | _ => cases hr
end Go.Ev
