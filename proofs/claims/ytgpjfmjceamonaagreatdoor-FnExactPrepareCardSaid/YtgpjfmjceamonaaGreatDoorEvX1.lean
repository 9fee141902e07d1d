/-
 The abstract evaluator: rows that are owned all the way down: reads.
-/
import Derived.Test.YtgpjfmjceamonaaGreatDoorEv16
import Derived.Laws.BytesArg
namespace Go.Ev
variable {P : Program} {e : Env} {H : Nat → Option FH} {Γ : Actv} {C : Ctx} {s : St} {a : Act} {w : World} {o : Oper} {id : Nat} {r : AV × Mem}
theorem rowAt_left {x y : DT} {p : Nat} (h : p < x.ty.sz) : rowAt (.pair x y) p = rowAt x p := by
 show (bif Nat.blt p x.ty.sz then rowAt x p else rowAt y (p - x.ty.sz)) = _
 rw [show Nat.blt p x.ty.sz = true from Nat.ble_eq_true_of_le h]
 rfl
theorem rowAt_right {x y : DT} {p : Nat} : rowAt (.pair x y) (x.ty.sz + p) = rowAt y p := by
 show (bif Nat.blt (x.ty.sz + p) x.ty.sz then rowAt x (x.ty.sz + p) else rowAt y (x.ty.sz + p - x.ty.sz)) = _
 rw [show Nat.blt (x.ty.sz + p) x.ty.sz = false from by
  rw [Bool.eq_false_iff]
  intro hh
  have := Nat.le_of_ble_eq_true hh
  omega]
 rw [Nat.add_sub_cancel_left]
 rfl
theorem DVH.cells {b : Nat} {i : Int} {fx : Bool} (hd : C.Dm b) (hs : ∃ ad l c, C.σ b = .slice (some ad) l c ∧ i.toNat < l) : ∀ {d : DT} {ho : List (Nat × Value)} {x : d.ty.den} {cs : List Value} {bs : List Nat} {off : Nat}, DVH C.Fz w ho d x cs bs →
  (fx = true → ∀ p, p < d.ty.sz → rowAt d p = true → cs[p]? = some (C.hd b i.toNat (off + p))) → All2 (CRel C w) (d.cells b i fx x off) cs
 | .fl t, _, _, _, _, _, h, _ => KF.cells h.1
 | .st d, ho, x, cs, bs, off, h, hh => DVH.cells (d := d) (ho := ho) (x := x) (cs := cs) (bs := bs) (off := off) hd hs h hh
 | .pair p q, ho, x, cs, bs, off, h, hh => by
  obtain ⟨c1, c2, b1, b2, rfl, _, h1, h2⟩ := h
  have hl : c1.length = p.ty.sz := h1.len
  refine All2.append (DVH.cells hd hs h1 fun hf k hk hr => ?_) (DVH.cells hd hs h2 fun hf k hk hr => ?_)
  ·have := hh hf k (show k < p.ty.sz + q.ty.sz by omega) ((rowAt_left hk).trans hr)
   rwa [List.getElem?_append_left (by omega)] at this
  ·have := hh hf (p.ty.sz + k) (show p.ty.sz + k < p.ty.sz + q.ty.sz by omega) (rowAt_right.trans hr)
   rw [List.getElem?_append_right (by omega), hl, Nat.add_sub_cancel_left] at this
   rw [this, Nat.add_assoc]
 | .row E d, ho, x, cs, bs, off, h, hh => by
  have hone := DVH.one h
  have hl : cs.length = 1 := h.len
  match cs, hl with
  | [u], _ =>
   cases fx with
   | false => exact ⟨trivial, trivial⟩
   | true =>
    have := hh rfl 0 Nat.one_pos rfl
    rw [Nat.add_zero] at this
    exact ⟨⟨hd, hs, by simpa using this, hone u (List.mem_singleton.2 rfl)⟩, trivial⟩
/-- An element of such a row. -/
theorem deepAt {D : Nat → Prop} {b E : Nat} {d : DT} {xs : List d.ty.den} {fx : Bool} {hs : List (Int × Nat × Nat)} {ad : Addr} {l c : Nat} {i : Nat} (h : BRel D C w b (.deep E d xs fx hs)) (hσ : C.σ b = .slice (some ad) l c) (hi : i < l) :
  l = xs.length ∧ ∃ es b2, DVH C.Fz w (hoAt C hs i) d (xs.getD i d.ty.zero) es b2 ∧ CellsAt w (ad.add (i * d.ty.sz)) es ∧ (fx = true → ∀ p, p < d.ty.sz → rowAt d p = true → es[p]? = some (C.hd b i p)) := by
 obtain ⟨⟨cells, b2, ho, he, hp, hx⟩, _⟩ := h
 rcases ho.2 with ⟨hv, _⟩ | ⟨g, cap, cur, hv, _, hg, hle, hmx, hsz, htk⟩
 ·rw [hσ] at hv; cases hv
 ·rw [hσ] at hv
  simp at hv
  obtain ⟨rfl, rfl, rfl⟩ := hv
  obtain ⟨es, b3, g1, _, g3⟩ := Elts.at (n := d.ty.sz) (fun _ _ _ _ h => DVH.len h) he i _ (getD_some (d := d.ty.zero) hi)
  rw [Nat.zero_add] at g1
  refine ⟨rfl, es, b3, g1, fun j u hj => ?_, fun hf p hp' hr => ?_⟩
  ·rw [add_add, add_lit, cell_own hg]
   have h1 := g3 j u hj
   rw [← htk, List.getElem?_take] at h1
   split at h1
   ·rw [← Array.getElem?_toList]
    exact h1
   ·cases h1
  ·have hpe : p < es.length := by rw [g1.len]; exact hp'
   have h1 := g3 p es[p] (List.getElem?_eq_getElem hpe)
   rw [hx hf i p hi hp' hr] at h1
   rw [List.getElem?_eq_getElem hpe, Option.some.inj h1]
theorem beqT {a b : Ty} (h : Ty.beq a b = true) : a = b := Ty.eq_of_beq h
theorem op_loadD (hok : EnvOk P e) {E E' b off : Nat} {x : Operand} {i : Int} {d : DT} {xs : List d.ty.den} {fx : Bool} {hs : List (Int × Nat × Nat)} {t : Ty} {cs : List CV} {v : Vl} (h : RelC e Γ C s a w) (ho : o.op = .load E x) (hx : opd s x = .v (.one (.pel b d.ty i off)))
  (hb : mget s.mem b = some (.deep E' d xs fx hs)) (ht : e.ty E = some t) (hr : takeN t.sz ((d.cells b i fx (xs.getD i.toNat d.ty.zero) 0).drop off) = some cs) (hv : asVl t.isSt cs = some v) : OpDone P e Γ C o a w (.v v, s.mem) := by
 obtain ⟨hd, ad, l, c, hσ, h0, hi, e1⟩ := opd_one h hx
 obtain ⟨_, es, b2, g1, g2, g3⟩ := deepAt (h.mem.blk b _ hb) hσ hi
 obtain ⟨rfl, hl⟩ := takeN_eq hr
 have h1 := DVH.cells (fx := fx) (off := 0) hd ⟨ad, l, c, hσ, hi⟩ g1 (fun hf p hp hr => by rw [Nat.zero_add]; exact g3 hf p hp hr)
 have hc := (h1.drop off).take t.sz
 have hat := g2.part off t.sz
 rw [add_add] at hat
 have hlv : ((es.drop off).take t.sz).length = t.sz := by rw [← hc.length]; exact hl
 have hlen : t.isSt = false → ((es.drop off).take t.sz).length = 1 := fun hs => by
  rw [hs] at hv
  rw [← hc.length]
  exact asVl_one hv
 have hrun := run_loadVar (P := P) hok ht hlv hat hlen
 refine done_v (X := Instr.loadAt E (a.eval x)) (by unfold execOp; rw [ho]) (by rw [e1]; simp only [Instr.loadAt, Instr.sureAddr, Sem.run_bind, Sem.run_pure, Result.andThen_ok]; exact hrun) (Post.same h ?_)
 exact asVl_rel hv hc
theorem op_indexAddrD (hok : EnvOk P e) {T T' E' b : Nat} {x i : Operand} {d : DT} {xs : List d.ty.den} {fx : Bool} {hs : List (Int × Nat × Nat)} {k : IntKind} {n : Int} (h : RelC e Γ C s a w) (ho : o.op = .indexAddr T x i) (hT : look e.els T = some T') (ht : e.ty T' = some d.ty) (hx : opd s x = .v (.one (.own b)))
  (hb : mget s.mem b = some (.deep E' d xs fx hs)) (hi : opd s i = .v (.one (.int k n))) (hn0 : 0 ≤ n) (hn : n < (xs.length : Int)) : OpDone P e Γ C o a w (.v (.one (.pel b d.ty n 0)), s.mem) := by
 have hu := hok.el T T' hT
 obtain ⟨inf, hinf, ht'⟩ := ty_some ht
 obtain ⟨it, dd, z, t1, _, _, t4, _⟩ := (hok.ty T' inf hinf).out
 rw [ht'] at t4
 have h1 : a.eval i = .int k n := opd_one h hi
 obtain ⟨hd, hv⟩ := opd_one h hx
 obtain ⟨⟨cells, b2, hown, _⟩, _⟩ := h.mem.blk b _ hb
 rcases hown.2 with ⟨hs, hn'⟩ | ⟨g, cap, cur, hs, _⟩
 ·omega
 ·have hrun : ∀ (ad : Addr) (l cp : Nat), n < (l : Int) → (Instr.indexAt T (.slice (some ad) l cp) (.int k n)).run P w = .ok (.pointer (some (ad.add (n.toNat * d.ty.sz)))) w := fun ad l cp hl => by
   simp [Instr.indexAt, asIntOf, run_underlying hu, hn0, hl, sizeOf, typeInfo, t1, t4]
  exact done_v (X := Instr.indexAt T (a.eval x) (a.eval i)) (by unfold execOp; rw [ho]) (by rw [hv, hs, h1]; exact hrun _ _ _ hn) (Post.same h ⟨hd, _, _, _, hs, hn0, by omega, by rw [Nat.add_zero]⟩)
theorem op_lenD (hok : EnvOk P e) {x : Operand} {T b E' : Nat} {t : Ty} {d : DT} {xs : List d.ty.den} {fx : Bool} {hs : List (Int × Nat × Nat)} (h : RelC e Γ C s a w) (ho : o.op = .call { callee := .builtin .len, args := #[x], argTypes := #[T] }) (hT : e.ty T = some (.row t)) (hx : opd s x = .v (.one (.own b)))
  (hb : mget s.mem b = some (.deep E' d xs fx hs)) : OpDone P e Γ C o a w (.v (.one (.int .i64 xs.length)), s.mem) := by
 obtain ⟨hd, hv⟩ := opd_one h hx
 obtain ⟨⟨cells, b2, hown, _⟩, _⟩ := h.mem.blk b _ hb
 rcases hown.2 with ⟨hs, hn'⟩ | ⟨g, cap, cur, hs, _⟩
 ·exact op_len hok h ho hT (.inr ⟨t, rfl, hv.trans (hs.trans (by rw [hn']))⟩)
 ·exact op_len hok h ho hT (.inr ⟨t, rfl, hv.trans hs⟩)
theorem op_bytes (hok : EnvOk P e) {S D E b E' : Nat} {x : Operand} {xs : List Int} (h : RelC e Γ C s a w) (ho : o.op = .convert S D x) (hS : look e.els S = some E) (hE : e.ty E = some (.int .u8)) (hD : e.ty D = some .str) (hx : opd s x = .v (.one (.own b)))
  (hb : mget s.mem b = some (.row E' (.int .u8) xs)) : OpDone P e Γ C o a w (.v (.one (.str (bytesOf xs))), s.mem) := by
 have hu := hok.el S E hS
 obtain ⟨iE, hiE, htE⟩ := ty_some hE
 obtain ⟨infE, dE, zE, _, p2, p3, _⟩ := (hok.ty E iE hiE).out
 rw [htE] at p3
 have hde : dE = .int .u8 := by
  cases dE <;> first | (cases p3; done) | skip
  ·rw [IK.eq_of_beq (show IK.beq _ .u8 = true from p3)]
 subst hde
 obtain ⟨iD, hiD, htD⟩ := ty_some hD
 obtain ⟨infD, dD, zD, _, q2, q3, _⟩ := (hok.ty D iD hiD).out
 rw [htD] at q3
 have hdd : dD = .string := by cases dD <;> first | rfl | (cases q3; done)
 subst hdd
 obtain ⟨hd, hv⟩ := opd_one h hx
 obtain ⟨⟨cells, hown, hr, _⟩, _⟩ := h.mem.blk b _ hb
 have hex : execOp a.eval o = (do pure (.value (← convert S D (a.eval x)))) := by unfold execOp; rw [ho]
 refine done_v hex (v := .string (bytesOf xs)) (w' := w) ?_ (Post.same h rfl)
 rw [hv]
 rcases hown.2 with ⟨hs, hn⟩ | ⟨g, cap, cur, hs, _, hg, hle, hmx, hsz, htk⟩
 ·rw [hs]
  have : xs = [] := List.length_eq_zero_iff.1 hn
  subst this
  exact run_convert_bytes_nil w S E hu p2 0 0 D q2
 ·rw [hs]
  refine run_convert_bytes_arg w S E hu p2 g 0 xs.length cap xs rfl (fun i hi => ?_) D q2
  obtain ⟨es, hk, hc⟩ := hr i _ (getD_some (d := (0 : Int)) hi)
  have hk' : es = [.int .u8 (xs.getD i 0)] := hk
  subst hk'
  have h1 := hc 0 _ rfl
  have h1' : cells[i]? = some (.int .u8 (xs.getD i 0)) := by
   have : i * (Ty.int .u8).sz + 0 = i := Nat.mul_one i
   rw [this] at h1
   exact h1
  rw [cell_own hg, Nat.zero_add]
  rw [← htk, List.getElem?_take] at h1'
  split at h1'
  ·rw [← Array.getElem?_toList]
   exact h1'
  ·cases h1'
end Go.Ev
namespace Go.Ev
variable {P : Program} {e : Env} {H : Nat → Option FH} {Γ : Actv} {C : Ctx} {s : St} {a : Act} {w : World} {o : Oper} {id : Nat} {r : AV × Mem}
theorem perm_mix {a b c d a' b' c' d' : List Nat} (h1 : (a ++ b).Perm (c ++ d)) (h2 : (a' ++ b').Perm (c' ++ d')) : ((a ++ a') ++ (b ++ b')).Perm ((c ++ c') ++ (d ++ d')) := by
 rw [List.perm_iff_count] at *
 intro x
 have h3 := h1 x
 have h4 := h2 x
 simp only [List.count_append] at *
 omega
def spl {α : Type} (l : List α) (off : Nat) (vs : List α) : List α := l.take off ++ vs ++ l.drop (off + vs.length)
theorem spl_nil {α : Type} (l : List α) (off : Nat) : spl l off [] = l := by simp [spl]
theorem spl_len {α : Type} {l vs : List α} {off : Nat} (h : off + vs.length ≤ l.length) : (spl l off vs).length = l.length := by
 simp only [spl, List.length_append, List.length_take, List.length_drop]
 omega
theorem spl_app {α : Type} {c1 c2 vs : List α} {off n : Nat} (hn : c1.length = n) : spl (c1 ++ c2) off vs = spl c1 off (vs.take (n - off)) ++ spl c2 (off - n) (vs.drop (n - off)) := by
 subst hn
 simp only [spl, List.take_append, List.drop_append, List.length_take, List.length_drop]
 by_cases h1 : off ≤ c1.length
 ·by_cases h2 : vs.length ≤ c1.length - off
  ·rw [List.take_of_length_le h2, List.drop_of_length_le h2, Nat.min_eq_right h2, Nat.sub_eq_zero_of_le h1, show vs.length - (c1.length - off) = 0 by omega, show off + vs.length - c1.length = 0 by omega]
   simp
  ·have h3 : c1.length - off ≤ vs.length := by omega
   rw [Nat.min_eq_left h3, Nat.sub_eq_zero_of_le h1, show off + (c1.length - off) = c1.length by omega, List.drop_of_length_le (show c1.length ≤ off + vs.length by omega), show 0 + (vs.length - (c1.length - off)) = off + vs.length - c1.length by omega]
   simp only [List.take_zero, List.nil_append, List.append_nil, List.append_assoc, List.drop_length, List.append_cancel_left_eq]
   rw [← List.append_assoc, List.take_append_drop]
 ·have h4 : c1.length - off = 0 := by omega
  rw [h4, List.drop_of_length_le (show c1.length ≤ off + vs.length by omega)]
  simp only [List.take_zero, List.drop_zero, Nat.zero_min, Nat.add_zero, Nat.sub_zero, List.append_nil, List.nil_append]
  rw [List.drop_of_length_le (show c1.length ≤ off by omega), show off + vs.length - c1.length = off - c1.length + vs.length by omega]
  simp
theorem spl_mid {α : Type} {p c q vs : List α} {off k : Nat} (hk : p.length = k) (h : off + vs.length ≤ c.length) : spl (p ++ c ++ q) (k + off) vs = p ++ spl c off vs ++ q := by
 subst hk
 rw [List.append_assoc, spl_app rfl, show p.length - (p.length + off) = 0 by omega, List.take_zero, List.drop_zero, spl_nil, Nat.add_sub_cancel_left, spl_app rfl, List.append_assoc]
 have h3 : vs.length ≤ c.length - off := by omega
 rw [List.take_of_length_le h3, List.drop_of_length_le h3, spl_nil]
theorem takeRow_rel {D : Nat → Prop} {m : Mem} (hm : RelM D C w m) {E : Nat} {d : DT} {c : CV} {v : Value} {xs : List d.ty.den} {os : List Nat} (h : takeRow m E d c = some (xs, os)) (hc : CRel C w c v) :
  Lives m os ∧ DeepR C.Fz w E d xs v (blks C os) := by
 cases d with
 | fl t =>
  obtain ⟨h1, h2, h3⟩ := exOwn_sem hm h hc
  exact ⟨h1, _, h3.ownD, by rw [h2]⟩
 | st d => exact exDeep_sem hm h hc
 | pair p q => exact exDeep_sem hm h hc
 | row F d => exact exDeep_sem hm h hc
theorem dput_rel {D : Nat → Prop} {m : Mem} (hm : RelM D C w m) {fx : Bool} : ∀ {d : DT} {ho : List (Nat × Value)} {x y : d.ty.den} {off : Nat} {cs : List CV} {os : List Nat} {cells vs : List Value} {bs : List Nat},
  dput m fx d x off cs = some (y, os) → (fx = true ∨ ho = []) → DVH C.Fz w ho d x cells bs → All2 (CRel C w) cs vs → (cs = [] ∨ off + cs.length ≤ d.ty.sz) →
  Lives m os ∧ (∃ b' rest, DVH C.Fz w ho d y (spl cells off vs) b' ∧ (b' ++ rest).Perm (bs ++ blks C os)) ∧ (fx = true → ∀ p, p < d.ty.sz → rowAt d p = true → (spl cells off vs)[p]? = cells[p]?)
 | .fl t, ho, x, y, off, cs, os, cells, vs, bs, h, hf, hd, hc, hle => by
  obtain ⟨hk, rfl⟩ := hd
  simp only [dput] at h
  split at h
  ·cases h
   have : vs = [] := by cases vs with
    | nil => rfl
    | cons _ _ => exact hc.elim
   subst this
   rw [spl_nil]
   exact ⟨fun _ hh => (by cases hh), ⟨[], [], ⟨hk, rfl⟩, List.Perm.refl _⟩, fun _ _ _ _ => rfl⟩
  ·cases hq : Nat.ble (off + cs.length) t.sz with
   | false => rw [hq] at h; cases h
   | true =>
    rw [hq] at h
    simp only [cond_true] at h
    split at h
    ·rename_i y' hp
     cases h
     have hsp := splice_cells (off := off) (KF.cells hk) hc
     obtain ⟨v1, v2, e1, hkx, hr2, _⟩ := pack_rel hm hp hsp
     have hv2 : v2 = [] := by cases v2 with
      | nil => rfl
      | cons _ _ => exact hr2.elim
     subst hv2
     rw [List.append_nil] at e1
     refine ⟨fun _ hh => (by cases hh), ⟨[], [], ⟨?_, rfl⟩, List.Perm.refl _⟩, fun _ p _ hr => by cases hr⟩
     show KF C.Fz w t y (spl cells off vs)
     unfold spl
     rw [e1]
     exact hkx
    ·cases h
 | .st d, ho, x, y, off, cs, os, cells, vs, bs, h, hf, hd, hc, hle => dput_rel hm (d := d) (ho := ho) (x := x) (y := y) (cells := cells) h hf hd hc hle
 | .pair p q, ho, x, y, off, cs, os, cells, vs, bs, h, hf, hd, hc, hle => by
  obtain ⟨c1, c2, b1, b2, rfl, rfl, h1, h2⟩ := hd
  have hl : c1.length = p.ty.sz := h1.len
  simp only [dput] at h
  split at h
  ·rename_i y1 os1 hy1
   split at h
   ·rename_i y2 os2 hy2
    cases h
    have hle' : cs = [] ∨ off + cs.length ≤ p.ty.sz + q.ty.sz := hle
    obtain ⟨g1, ⟨b1', r1, g2, g3⟩, g4⟩ := dput_rel hm hy1 (hf.imp id fun hh => by rw [hh]; rfl) h1 (hc.take (p.ty.sz - off)) (by
     rcases hle' with hh | hh
     ·left; rw [hh]; simp
     ·by_cases hlt : off ≤ p.ty.sz
      ·right; rw [List.length_take]; omega
      ·left; rw [show p.ty.sz - off = 0 by omega]; simp)
    obtain ⟨k1, ⟨b2', r2, k2, k3⟩, k4⟩ := dput_rel hm hy2 (hf.imp id fun hh => by rw [hh]; rfl) h2 (hc.drop (p.ty.sz - off)) (by
     rcases hle' with hh | hh
     ·left; rw [hh]; simp
     ·by_cases hz : cs.length ≤ p.ty.sz - off
      ·left; exact List.drop_of_length_le hz
      ·right; rw [List.length_drop]; omega)
    refine ⟨g1.append k1, ⟨b1' ++ b2', r1 ++ r2, ⟨_, _, b1', b2', spl_app hl, rfl, g2, k2⟩, ?_⟩, fun hfx k hk hr => ?_⟩
    ·rw [blks_app]
     exact perm_mix g3 k3
    ·rw [spl_app hl]
     have hl1 : (spl c1 off (vs.take (p.ty.sz - off))).length = p.ty.sz := g2.len
     by_cases hkp : k < p.ty.sz
     ·rw [List.getElem?_append_left (by omega), List.getElem?_append_left (by omega)]
      exact g4 hfx k hkp ((rowAt_left hkp).symm.trans hr)
     ·obtain ⟨k', rfl⟩ : ∃ k', k = p.ty.sz + k' := ⟨k - p.ty.sz, by omega⟩
      rw [List.getElem?_append_right (by omega), List.getElem?_append_right (by omega), hl1, hl, Nat.add_sub_cancel_left]
      exact k4 hfx k' (by have : p.ty.sz + k' < p.ty.sz + q.ty.sz := hk; omega) (rowAt_right.symm.trans hr)
   ·cases h
  ·cases h
 | .row E d, ho, x, y, off, cs, os, cells, vs, bs, h, hf, hd, hc, hle => by
  simp only [dput] at h
  split at h
  ·cases h
   have : vs = [] := by cases vs with
    | nil => rfl
    | cons _ _ => exact hc.elim
   subst this
   rw [spl_nil]
   exact ⟨fun _ hh => (by cases hh), ⟨bs, [], hd, by simp [blks]⟩, fun _ _ _ _ => rfl⟩
  ·rename_i c
   cases hfx : fx with
   | true => rw [hfx] at h; cases h
   | false =>
    rw [hfx] at h hf
    simp only [cond_false] at h
    cases hq : Nat.beq off 0 with
    | false => rw [hq] at h; cases h
    | true =>
     rw [hq] at h
     have := Nat.eq_of_beq_eq_true hq
     subst this
     have hho : ho = [] := hf.resolve_left (fun hh => by cases hh)
     subst hho
     match vs, hc with
     | [v], hc =>
      obtain ⟨g1, b', ⟨cl, b2, rfl, g2, g3⟩, g4⟩ := takeRow_rel hm h hc.1
      have hcl : cells.length = 1 := hd.len
      match cells, hcl with
      | [u], _ =>
       refine ⟨g1, ⟨_, bs, .inr ⟨rfl, v, cl, b2, rfl, rfl, g2, g3⟩, ?_⟩, fun hh => by cases hh⟩
       exact (g4.symm.append_right bs).trans List.perm_append_comm
  ·cases h
/-- An element cut out of its row, and another put there. -/
theorem Elts.cut {α : Type} {R : Nat → α → List Value → List Nat → Prop} {sz : Nat} (hR : ∀ j x c b, R j x c b → c.length = sz) : ∀ {k : Nat} {xs : List α} {cells : List Value} {b : List Nat} {n : Nat}, Elts R k xs cells b → ∀ (hn : n < xs.length),
  ∃ p c q bp b0 bq, cells = p ++ c ++ q ∧ b = bp ++ b0 ++ bq ∧ p.length = n * sz ∧ R (k + n) xs[n] c b0 ∧
   ∀ (R' : Nat → α → List Value → List Nat → Prop) (y : α) (c' : List Value) (b' : List Nat), (∀ j x c b0, j ≠ k + n → (∀ g, g ∈ b0 → g ∈ bp ++ bq) → R j x c b0 → R' j x c b0) → R' (k + n) y c' b' → Elts R' k (xs.set n y) (p ++ c' ++ q) (bp ++ b' ++ bq)
 | k, [], _, _, n, _, hn => by cases hn
 | k, x :: xs, cells, b, 0, h, hn => by
  obtain ⟨c1, c2, b1, b2, rfl, rfl, g1, g2⟩ := h
  refine ⟨[], c1, c2, [], b1, b2, rfl, rfl, (Nat.zero_mul sz).symm, g1, fun R' y c' b' hoth hy => ⟨c', c2, b', b2, rfl, rfl, hy, ?_⟩⟩
  have hrest : ∀ {k' : Nat} {ys : List α} {cs : List Value} {bb : List Nat}, k < k' → (∀ g, g ∈ bb → g ∈ b2) → Elts R k' ys cs bb → Elts R' k' ys cs bb := by
   intro k' ys
   induction ys generalizing k' with
   | nil => exact fun _ _ hh => hh
   | cons z zs ih =>
    intro cs bb hk hb hh
    obtain ⟨d1, d2, e1, e2, rfl, rfl, r3, r4⟩ := hh
    exact ⟨d1, d2, e1, e2, rfl, rfl, hoth k' z d1 e1 (by omega) (fun g hg => hb g (List.mem_append_left _ hg)) r3, ih (by omega) (fun g hg => hb g (List.mem_append_right _ hg)) r4⟩
  exact hrest (Nat.lt_succ_self k) (fun _ hg => hg) g2
 | k, x :: xs, cells, b, n + 1, h, hn => by
  obtain ⟨c1, c2, b1, b2, rfl, rfl, g1, g2⟩ := h
  obtain ⟨p, c, q, bp, b0, bq, rfl, rfl, hp, hr, hput⟩ := Elts.cut hR g2 (n := n) (Nat.lt_of_succ_lt_succ hn)
  refine ⟨c1 ++ p, c, q, b1 ++ bp, b0, bq, by simp only [List.append_assoc], by simp only [List.append_assoc], by rw [List.length_append, hR _ _ _ _ g1, hp, Nat.succ_mul, Nat.add_comm], by rw [show k + (n + 1) = k + 1 + n by omega]; exact hr, fun R' y c' b' hoth hy => ?_⟩
  rw [show k + (n + 1) = k + 1 + n by omega] at hoth hy
  refine ⟨c1, p ++ c' ++ q, b1, bp ++ b' ++ bq, by simp only [List.append_assoc], by simp only [List.append_assoc], hoth k x c1 b1 (by omega) (fun g hg => by simp [hg]) g1, hput R' y c' b' (fun j z cc bb hj hb hz => hoth j z cc bb hj (fun g hg => ?_) hz) hy⟩
  have := hb g hg
  simp only [List.mem_append] at this ⊢
  rcases this with hh | hh
  ·exact .inl (.inr hh)
  ·exact .inr hh
/-- A row's cells, some of them written. -/
theorem own_spl {E sz n g cap off : Nat} {cells vs : List Value} {cur : Array Value} (ho : w.ownsRow 0 E sz (.slice (some ⟨g, 0, none⟩) n cap) n cells) (hg : w.heap[g]? = some (.cells cur E (0, 0))) (hfit : off + vs.length ≤ cells.length) :
  off + vs.length ≤ cur.size ∧ (w.setRow g (spl cur.toList off vs).toArray).ownsRow 0 E sz (.slice (some ⟨g, 0, none⟩) n cap) n (spl cells off vs) := by
 have hcl : cells.length = n * sz := ho.1
 rcases ho.2 with ⟨hv, _⟩ | ⟨g', cap', cur', hv, _, hg', hlc, hmx, hsz, htk⟩
 ·cases hv
 ·simp at hv
  obtain ⟨rfl, rfl⟩ := hv
  rw [hg] at hg'
  simp at hg'
  subst hg'
  have hcapl : n * sz ≤ cap * sz := Nat.mul_le_mul_right _ hlc
  have hfit2 : off + vs.length ≤ cur.size := by omega
  have hcurl : off + vs.length ≤ cur.toList.length := by simpa using hfit2
  refine ⟨hfit2, by rw [spl_len hfit]; exact hcl, .inr ⟨g, cap, _, rfl, Nat.zero_le _, heap_setRow_same hg, hlc, hmx, ?_, ?_⟩⟩
  ·rw [List.size_toArray, spl_len hcurl]
   simpa using hsz
  ·rw [← htk]
   have hfit3 : off + vs.length ≤ (cur.toList.take (n * sz)).length := by rw [htk]; exact hfit
   refine List.ext_getElem? fun q => ?_
   unfold spl
   rw [List.getElem?_take, get_spliced hfit3, List.getElem?_take, get_spliced hcurl]
   split
   ·rfl
   ·rename_i hq2
    rw [if_neg (by omega), if_neg (by omega)]
end Go.Ev
namespace Go.Ev
variable {P : Program} {e : Env} {H : Nat → Option FH} {Γ : Actv} {C : Ctx} {s : St} {a : Act} {w : World} {o : Oper} {id : Nat} {r : AV × Mem}
theorem hoAt_setX (C : Ctx) (b : Nat) (l : List Nat) (hs : List (Int × Nat × Nat)) (k : Nat) : hoAt (C.setX b l) hs k = hoAt C hs k := rfl
/-- Blocks that are used whole, and one more, stand apart from each other and from all others. -/
theorem blks_cons (b : Nat) (os : List Nat) : blks C (b :: os) = C.fp b ++ blks C os := by
 unfold blks
 rw [List.flatMap_cons]
theorem blks_lt {D : Nat → Prop} {m : Mem} (hm : RelM D C w m) {os : List Nat} (hl : Lives m os) : ∀ g, g ∈ blks C os → ¬ C.Fz g ∧ D g ∧ g < w.heap.size := fun g hg => by
 obtain ⟨j, hj, hgj⟩ := mem_blks.1 hg
 obtain ⟨bk, hb, hlb⟩ := hl j hj
 exact ⟨((hm.blk j bk hb).nf hlb hgj).1, ((hm.blk j bk hb).nf hlb hgj).2, (hm.blk j bk hb).lt hlb hgj⟩
theorem op_storeD (hok : EnvOk P e) {E E' b off : Nat} {x y : Operand} {i : Int} {d : DT} {xs : List d.ty.den} {fx : Bool} {hs : List (Int × Nat × Nat)} {v : Vl} {t : Ty} {z : d.ty.den} {os : List Nat} (h : RelC e Γ C s a w) (ho : o.op = .store E x y)
  (hx : opd s x = .v (.one (.pel b d.ty i off))) (hb : mget s.mem b = some (.deep E' d xs fx hs)) (hy : opd s y = .v v) (ht : e.ty E = some t) (hl : v.cells.length = t.sz) (hj : noJunk v.cells = true) (hle : off + t.sz ≤ d.ty.sz) (hfx : fx = true ∨ hs = [])
  (hp : dput s.mem fx d (xs.getD i.toNat d.ty.zero) off v.cells = some (z, os)) (hnd : nodup (b :: os) = true) : OpDone P e Γ C o a w (unit, mput (kill s.mem os) b (.deep E' d (xs.set i.toNat z) fx hs)) := by
 obtain ⟨hcs, h1⟩ := VRel.cells h.mem (opd_v h hy) hj
 obtain ⟨hd, ad, l, cap0, hσ, h0, hi, e1⟩ := opd_one h hx
 have hbr := h.mem.blk b _ hb
 obtain ⟨⟨cells, b2, hown, hel, hpm, hhd⟩, hfpn, hfp, hhs, hhs2, hhs3⟩ := hbr
 rcases hown.2 with ⟨hv, _⟩ | ⟨g, cap, cur, hv, _, hg, hlc, hmx, hsz, htk⟩
 ·rw [hσ] at hv; cases hv
 have hadl : ad = ⟨g, 0, none⟩ ∧ l = xs.length := by
  rw [hσ] at hv; simp at hv; exact ⟨hv.1, hv.2.1⟩
 obtain ⟨rfl, rfl⟩ := hadl
 have hgfp : g ∈ C.fp b := fp_top (by rw [hv]; rfl)
 rw [hv] at hown
 obtain ⟨pp, c, q, bp, b0, bq, rfl, rfl, hpl, hr, hput⟩ := Elts.cut (sz := d.ty.sz) (fun _ _ _ _ h => DVH.len h) hel hi
 rw [Nat.zero_add] at hr hput
 have hul : v.cells.length = (a.eval y).cells.toList.length := hcs.length
 have hget : xs[i.toNat] = xs.getD i.toNat d.ty.zero := by
  have := getD_some (d := d.ty.zero) hi
  rw [List.getElem?_eq_getElem hi] at this
  exact Option.some.inj this
 rw [hget] at hr
 have hcl : c.length = d.ty.sz := hr.len
 obtain ⟨glv, ⟨b', rest, g2, g3⟩, g4⟩ := dput_rel h.mem hp (hfx.imp id fun hh => by rw [hh]; rfl) hr hcs (.inr (by omega))
 have hfitc : off + (a.eval y).cells.toList.length ≤ c.length := by omega
 have hfit : i.toNat * d.ty.sz + off + (a.eval y).cells.toList.length ≤ (pp ++ c ++ q).length := by
  rw [List.length_append, List.length_append, hpl]
  omega
 obtain ⟨hfit2, hown'⟩ := own_spl hown hg hfit
 have hsp : spl (pp ++ c ++ q) (i.toNat * d.ty.sz + off) (a.eval y).cells.toList = pp ++ spl c off (a.eval y).cells.toList ++ q := spl_mid hpl hfitc
 have hrun := run_storeVar hok ht hg (v := a.eval y) (off := i.toNat * d.ty.sz + off) rfl (by omega) hfit2 h1
 -- the blocks
 have hlv : Lives s.mem (b :: os) := fun j hj => by
  rcases List.mem_cons.1 hj with rfl | hj
  ·exact ⟨_, hb, rfl⟩
  ·exact glv j hj
 have hndl := nodup_of hnd
 have hbl := blks_nodup h.mem hndl hlv
 rw [blks_cons] at hbl
 have hbo : b ∉ os := (List.nodup_cons.1 hndl).1
 obtain ⟨k1, k2, _⟩ := kill_rel h.mem glv
 have hfz : ∀ k, C.Fz k → k ≠ g := fun k hf hh => (hfp g hgfp).1 (hh ▸ hf)
 -- what the new row's blocks are
 have hall : ((bp ++ b' ++ bq) ++ rest).Perm ((bp ++ b0 ++ bq) ++ blks C os) := by
  rw [List.perm_iff_count] at *
  intro k
  have := g3 k
  simp only [List.count_append] at *
  omega
 have hall2 : (C.fp b ++ blks C os).Perm ((g :: (bp ++ b' ++ bq)) ++ rest) := by
  have e2 : C.fp b = g :: C.ex b := by
   unfold Ctx.fp
   rw [hv]
   rfl
  rw [e2, List.cons_append, List.cons_append]
  exact ((hpm.append_right _).trans hall.symm).cons g
 have hndn : (g :: (bp ++ b' ++ bq)).Nodup := (List.nodup_append.1 (hall2.nodup_iff.1 hbl)).1
 have hinn : ∀ k, k ∈ g :: (bp ++ b' ++ bq) → k ∈ C.fp b ++ blks C os := fun k hk => hall2.mem_iff.2 (List.mem_append_left _ hk)
 have hok2 : ∀ k, k ∈ C.fp b ++ blks C os → ¬ C.Fz k ∧ Γ.D k ∧ k < w.heap.size := fun k hk => blks_lt h.mem hlv k (by rw [blks_cons]; exact hk)
 let w' := w.setRow g (spl cur.toList (i.toNat * d.ty.sz + off) (a.eval y).cells.toList).toArray
 have hkeep : ∀ k, C.Fz k → k < w.heap.size → w'.heap[k]? = w.heap[k]? := fun k hf _ => heap_setRow_other (hfz k hf)
 have hkeepg : ∀ k, k ∈ bp ++ b' ++ bq → w'.heap[k]? = w.heap[k]? := fun k hk => heap_setRow_other (fun hh => (List.nodup_cons.1 hndn).1 (hh ▸ hk))
 have hσ' : (C.setX b (bp ++ b' ++ bq)).fp b = g :: (bp ++ b' ++ bq) := by
  rw [Ctx.setX_fp, hv]
  rfl
 refine done_u (X := Instr.storeAt E (a.eval x) (a.eval y)) (by unfold execOp; rw [ho]) (w' := w') (C' := C.setX b (bp ++ b' ++ bq)) ?_ ⟨Ctx.setX_le _ _ _, hkeep, ?_, ⟨#[], rfl, trivial⟩, ?_⟩
 ·rw [e1, add_lit]
  simp only [Instr.storeAt, Instr.sureAddr, Sem.run_bind, Sem.run_pure, Result.andThen_ok]
  exact hrun
 ·refine RelM.put (X := fun k => k = g) k1 (Ctx.setX_le _ _ _) (ch_setRow w g _) (fun k hf hh => hfz k hf hh) (fun j c' hj hlj hji g' hg' => ⟨fun hh => ?_, (k1.blk j c' hj).nf hlj hg' |>.1⟩) ?_ (fun _ j c' hj hlj hji g' hg' hh => ?_) (fun k => ⟨fun hh => .inl hh, fun hh => hh.elim id (fun hh => hh ▸ hd)⟩) (h.mem.one b hd) (fun j hj => if_neg hj)
  ·subst hh
   rw [kill_get] at hj
   split at hj
   ·cases hj; cases hlj
   ·exact h.mem.inj j b c' _ hj hb hlj rfl hji g' hg' hgfp
  ·refine ⟨⟨pp ++ spl c off (a.eval y).cells.toList ++ q, bp ++ b' ++ bq, ?_, ?_, ?_, fun hf k p hk hp' hr' => ?_⟩, ?_, fun k hk => ?_, hhs, hhs2, fun p' hp' => by rw [List.length_set]; exact hhs3 p' hp'⟩
   ·rw [List.length_set, ← hsp]
    show w'.ownsRow 0 E' d.ty.sz (C.σ b) xs.length _
    rw [hv]
    exact hown'
   ·refine hput _ z _ b' (fun j x' c' b1 hj hb1 hr' => ?_) ?_
    ·exact DVH.move (fun _ hh => hh) hkeep (fun k hk => hkeepg k (by
      have := hb1 k hk
      simp only [List.mem_append] at this ⊢
      rcases this with hh | hh
      ·exact .inl (.inl hh)
      ·exact .inr hh)) hr'
    ·exact DVH.move (fun _ hh => hh) hkeep (fun k hk => hkeepg k (by simp [hk])) g2
   ·show (if b = b then _ else _ : List Nat).Perm _
    rw [if_pos rfl]
   ·rw [List.length_set] at hk
    have hold := hhd hf k p hk hp' hr'
    show (pp ++ spl c off (a.eval y).cells.toList ++ q)[k * d.ty.sz + p]? = some (C.hd b k p)
    rw [← hold]
    have hsl : (spl c off (a.eval y).cells.toList).length = d.ty.sz := by rw [spl_len hfitc]; exact hcl
    by_cases hki : k = i.toNat
    ·subst hki
     rw [List.append_assoc, List.getElem?_append_right (by omega), List.getElem?_append_left (by omega), List.append_assoc, List.getElem?_append_right (by omega), List.getElem?_append_left (by omega)]
     have := g4 hf p hp' hr'
     rw [show i.toNat * d.ty.sz + p - pp.length = p by omega]
     exact this
    ·rcases Nat.lt_or_gt_of_ne hki with hlt | hgt
     ·have h5 : (k + 1) * d.ty.sz ≤ i.toNat * d.ty.sz := Nat.mul_le_mul_right _ hlt
      have h6 : (k + 1) * d.ty.sz = k * d.ty.sz + d.ty.sz := Nat.succ_mul _ _
      rw [List.append_assoc, List.getElem?_append_left (by omega), List.append_assoc, List.getElem?_append_left (by omega)]
     ·have h5 : (i.toNat + 1) * d.ty.sz ≤ k * d.ty.sz := Nat.mul_le_mul_right _ hgt
      have h6 : (i.toNat + 1) * d.ty.sz = i.toNat * d.ty.sz + d.ty.sz := Nat.succ_mul _ _
      rw [List.getElem?_append_right (by rw [List.length_append]; omega), List.getElem?_append_right (by rw [List.length_append]; omega), List.length_append, List.length_append, hsl, hcl]
   ·rw [hσ']
    exact hndn
   ·rw [hσ'] at hk
    obtain ⟨q1, q2, q3⟩ := hok2 k (hinn k hk)
    exact ⟨q1, q2, by rw [show w'.heap.size = w.heap.size from size_setRow _ _ _]; exact q3⟩
  ·rw [hσ'] at hg'
   have := hinn g' hg'
   rw [kill_get] at hj
   split at hj
   ·cases hj; cases hlj
   ·rename_i hjo
    rcases List.mem_append.1 this with hm | hm
    ·exact h.mem.inj j b c' _ hj hb hlj rfl hji g' hh hm
    ·exact k2 j c' (by rw [kill_get, if_neg hjo]; exact hj) hlj g' hh hm
 ·exact h.W.step (Ctx.setX_le _ _ _) (ch_setRow w g _) (fun k _ hh => hh ▸ (hfp g hgfp).2.1) (fun k hf hh => hfz k hf hh) (fun k hk => .inl hk)
end Go.Ev
namespace Go.Ev
variable {P : Program} {e : Env} {H : Nat → Option FH} {Γ : Actv} {C : Ctx} {s : St} {a : Act} {w : World} {o : Oper} {id : Nat} {r : AV × Mem}
/-- Blocks that were used whole go into a new row. -/
theorem post_deep {i E : Nat} {d : DT} {zs : List d.ty.den} {os b2 : List Nat} {v' : Value} {w' : World} {cells : List Value} {X : Nat → Prop} (h : RelC e Γ C s a w) (hi : fresh s.mem i 1 = true) (hlv : Lives s.mem os)
  (hch : Ch w w' X) (hX : ∀ k, X k → k ∈ blks C os) (hown : w'.ownsRow 0 E d.ty.sz v' zs.length cells) (hel : Elts (fun _ => DVH C.Fz w' [] d) 0 zs cells b2) (hnd : ((vblk v').toList ++ b2).Nodup)
  (hb : ∀ g, g ∈ (vblk v').toList ++ b2 → g < w'.heap.size ∧ (g ∈ blks C os ∨ w.heap.size ≤ g)) :
  ∃ C', Post e Γ C w (.v (.one (.own i)), mput (kill s.mem os) i (.deep E d zs false [])) v' w' C' := by
 have hni : ¬ C.Dm i := fun hd => by
  have := (h.mem.dm i).1 hd
  rw [fresh_one hi] at this
  cases this
 let C' := C.addD i v' b2 (fun _ _ => undef)
 have hle : CLe C C' := Ctx.addD_le hni
 have hbl := blks_lt h.mem hlv
 have hFX : ∀ k, C.Fz k → ¬ X k := fun k hf hx => (hbl k (hX k hx)).1 hf
 have hkeep : ∀ k, C.Fz k → k < w.heap.size → w'.heap[k]? = w.heap[k]? := fun k hf hk => hch.block k hk (hFX k hf)
 obtain ⟨k1, k2, _⟩ := kill_rel h.mem hlv
 have hfp : C'.fp i = (vblk v').toList ++ b2 := Ctx.addD_fp _ _ _ _ _
 refine ⟨C', hle, hkeep, ?_, ⟨.inr rfl, (Ctx.addD_σ _ _ _ _ _).symm⟩, ?_⟩
 ·refine RelM.put k1 hle hch hFX (fun j b hj hl hji g hg => ⟨fun hx => k2 j b hj hl g hg (hX g hx), ((k1.blk j b hj).nf hl hg).1⟩) ?_ (fun _ j b hj hl hji g hg hh => ?_) (fun _ => Iff.rfl) (by rw [Ctx.addD_σ]; exact own_one hown) (Ctx.addD_exo C i v' b2 _)
  ·refine ⟨⟨cells, b2, by rw [Ctx.addD_σ]; exact hown, ?_, by rw [Ctx.addD_ex], fun hf => by cases hf⟩, by rw [hfp]; exact hnd, fun g hg => ?_, fun p hp => (by cases hp), List.nodup_nil, fun p hp => (by cases hp)⟩
   ·exact hel
   ·rw [hfp] at hg
    obtain ⟨q1, q2⟩ := hb g hg
    rcases q2 with q2 | q2
    ·exact ⟨(hbl g q2).1, (hbl g q2).2.1, q1⟩
    ·exact ⟨fun hf => Nat.lt_irrefl _ (Nat.lt_of_lt_of_le (h.W.lt g hf) q2), h.W.fresh g (Nat.le_trans h.W.ch.size q2), q1⟩
  ·rw [hfp] at hg
   rcases (hb g hg).2 with q2 | q2
   ·exact k2 j b hj hl g hh q2
   ·exact Nat.lt_irrefl _ (Nat.lt_of_lt_of_le ((k1.blk j b hj).lt hl hh) q2)
 ·exact h.W.step hle hch (fun k _ hx => (hbl k (hX k hx)).2.1) hFX (fun k hk => .inl hk)
theorem DVH_zero {Fz : Nat → Prop} : ∀ (d : DT), DVH Fz w [] d d.ty.zero (d.ty.zcells.map litV) []
 | .fl t => ⟨zcells_KF t, rfl⟩
 | .st d => DVH_zero d
 | .pair p q => ⟨p.ty.zcells.map litV, q.ty.zcells.map litV, [], [], List.map_append, rfl, DVH_zero p, DVH_zero q⟩
 | .row E d => .inr ⟨rfl, .slice none 0 0, [], [], rfl, rfl, World.ownsRow_nil w 0 E d.ty.sz, rfl, rfl⟩
theorem Elts.of_get {α : Type} {R : Nat → α → List Value → List Nat → Prop} {sz : Nat} : ∀ {k : Nat} {xs : List α} {cells : List Value}, cells.length = xs.length * sz → (∀ (i : Nat) (x : α), xs[i]? = some x → R (k + i) x ((cells.drop (i * sz)).take sz) []) → Elts R k xs cells []
 | k, [], cells, hl, _ => ⟨List.length_eq_zero_iff.1 (by rw [hl]; simp), rfl⟩
 | k, x :: xs, cells, hl, h => by
  rw [List.length_cons, Nat.succ_mul] at hl
  refine ⟨cells.take sz, cells.drop sz, [], [], (List.take_append_drop sz cells).symm, rfl, ?_, Elts.of_get (sz := sz) (by rw [List.length_drop]; omega) fun i y hy => ?_⟩
  ·have := h 0 x rfl
   rwa [Nat.zero_mul, List.drop_zero] at this
  ·have := h (i + 1) y (by simpa using hy)
   rw [List.drop_drop, show sz + i * sz = (i + 1) * sz by rw [Nat.succ_mul, Nat.add_comm], show k + 1 + i = k + (i + 1) by omega]
   exact this
theorem op_makeSliceD (hok : EnvOk P e) {R E : Nat} {inf : TI} {l c : Operand} {n : Int} {d : DT} (h : RelC e Γ C s a w) (ho : o.op = .makeSlice R l c) (hlc : sameOpd l c = true) (hR : look e.els R = some E) (hE : look e.tys E = some inf) (hd : inf.t = d.ty) (hl : opd s l = .v (.one (.int .i64 n)))
  (hi : fresh s.mem id 1 = true) (h0 : 0 ≤ n) (h1 : n ≤ (281474976710656 / inf.bytes : Nat)) :
  OpDone P e Γ C o a w (.v (.one (.own id)), mput s.mem id (.deep E d (List.replicate n.toNat d.ty.zero) false [])) := by
 have hu := hok.el R E hR
 obtain ⟨it, dd, z, q1, q2, q3, q4, q5, q6, q7, q8⟩ := (hok.ty E inf hE).out
 rw [hd] at q4 q7
 have e1 : a.eval l = .int .i64 n := opd_one h hl
 have e2 : ∃ k, a.eval c = .int k n := by
  unfold sameOpd at hlc
  split at hlc
  ·have := Nat.eq_of_beq_eq_true hlc
   subst this
   exact ⟨_, e1⟩
  ·rename_i k1 n1 k2 n2
   have h3 : n1 = n2 := of_decide_eq_true hlc
   have h4 : (Value.int k1 n1) = .int .i64 n := e1
   cases h4
   subst h3
   exact ⟨k2, rfl⟩
  ·cases hlc
 obtain ⟨k, e2⟩ := e2
 have hb : (inf.bytes : Int) * n ≤ 281474976710656 := by
  have h2 : n.toNat ≤ 281474976710656 / inf.bytes := by omega
  have h3 : inf.bytes * n.toNat ≤ 281474976710656 := Nat.le_trans (Nat.mul_le_mul_left _ h2) (Nat.mul_div_le _ _)
  have h4 : ((inf.bytes * n.toNat : Nat) : Int) ≤ 281474976710656 := by omega
  rw [Int.natCast_mul, Int.toNat_of_nonneg h0] at h4
  exact h4
 have hn63 : n ≤ 281474976710656 := by
  have : (281474976710656 / inf.bytes : Nat) ≤ 281474976710656 := Nat.div_le_self _ _
  omega
 have hrun := run_make (P := P) w R E it z hu q1 q6 .i64 k n n h0 (Int.le_refl _) (by rw [q5]; exact hb) (by omega)
 rw [q4] at hrun
 have hlen : (madeCells z.cells (n.toNat * d.ty.sz)).toList.length = (List.replicate n.toNat d.ty.zero).length * d.ty.sz := by
  rw [Array.length_toList, size_madeCells, List.length_replicate]
 have hel : Elts (fun _ => DVH C.Fz (w.alloc (.cells (madeCells z.cells (n.toNat * d.ty.sz)) E)) [] d) 0 (List.replicate n.toNat d.ty.zero) (madeCells z.cells (n.toNat * d.ty.sz)).toList [] := by
  refine Elts.of_get (sz := d.ty.sz) hlen fun i x hx => ?_
  have hxl : i < n.toNat ∧ x = d.ty.zero := by
   rw [List.getElem?_replicate] at hx
   split at hx
   ·cases hx; exact ⟨‹_›, rfl⟩
   ·cases hx
  obtain ⟨hil, rfl⟩ := hxl
  have hz := DVH_zero (Fz := C.Fz) (w := w.alloc (.cells (madeCells z.cells (n.toNat * d.ty.sz)) E)) d
  have heq : ((madeCells z.cells (n.toNat * d.ty.sz)).toList.drop (i * d.ty.sz)).take d.ty.sz = d.ty.zcells.map litV := by
   have hzl : (d.ty.zcells.map litV).length = d.ty.sz := by rw [List.length_map, zcells_len]
   have hzs : z.cells.size = d.ty.sz := by rw [← Array.length_toList, q7, hzl]
   have hmul : (i + 1) * d.ty.sz ≤ n.toNat * d.ty.sz := Nat.mul_le_mul_right _ hil
   rw [Nat.succ_mul] at hmul
   refine List.ext_getElem? fun j => ?_
   rw [List.getElem?_take]
   split
   ·rename_i hj
    have hmod : (i * d.ty.sz + j) % z.cells.size = j := by
     rw [hzs, Nat.add_comm, Nat.add_mul_mod_self_right, Nat.mod_eq_of_lt hj]
    have hzj : z.cells[j]? = some (d.ty.zcells.map litV)[j] := by rw [← Array.getElem?_toList, q7]; exact List.getElem?_eq_getElem (by omega)
    rw [List.getElem?_drop, Array.getElem?_toList]
    unfold madeCells
    rw [Array.getElem?_map, Array.getElem?_range, if_pos (by omega)]
    simp only [Option.map_some, hmod]
    rw [getElem!_def, hzj, List.getElem?_eq_getElem (by omega)]
   ·rename_i hj
    rw [List.getElem?_eq_none (by omega)]
  rw [heq]
  exact hz
 have hv : vblk (.slice (some ⟨w.heap.size, 0, none⟩) n.toNat n.toNat) = some w.heap.size := rfl
 obtain ⟨C', hp⟩ := post_deep (i := id) (E := E) (zs := List.replicate n.toNat d.ty.zero) (os := []) (b2 := []) (v' := .slice (some ⟨w.heap.size, 0, none⟩) n.toNat n.toNat) (X := fun _ => False) h hi (fun _ hh => by cases hh) (ch_alloc w (.cells (madeCells z.cells (n.toNat * d.ty.sz)) E) _) (fun _ hh => hh.elim)
  (by rw [List.length_replicate]; exact World.ownsRow_lit w _ _ (Nat.zero_le _) (by unfold maxLen; omega) (size_madeCells _ _)) hel (by rw [hv]; simp) (fun g hg => by
   rw [hv] at hg
   have : g = w.heap.size := by simpa using hg
   subst this
   exact ⟨by rw [World.size_alloc]; exact Nat.lt_succ_self _, .inr (Nat.le_refl _)⟩)
 exact done_v (X := Instr.makeSlice R (a.eval l) (a.eval c)) (by unfold execOp; rw [ho]) (by rw [e1, e2]; exact hrun) hp
end Go.Ev
