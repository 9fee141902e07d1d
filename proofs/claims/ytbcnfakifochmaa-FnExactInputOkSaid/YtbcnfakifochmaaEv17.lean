/-
  The abstract evaluator: data taken out of a state and laid anew; code.
-/
import Derived.Test.YtbcnfakifochmaaEvD6
namespace Go.Ev
variable {P : Program} {e : Env} {H : Nat → Option FH} {Γ : Actv} {C : Ctx} {s : St} {a : Act} {w : World}

/-! ### A state's data is laid anew -/
theorem getAll_rel (h : RelC e Γ C s a w) : ∀ {ks : List Nat} {as : List Vl}, getAll s ks = some as → All2 (VRel C w) as (ks.map fun k => a.tmps.getD k undef)
  | [], as, hg => by cases hg; trivial
  | k :: ks, as, hg => by
    unfold getAll at hg
    split at hg
    · rename_i v hv
      split at hg
      · rename_i l hl
        cases hg
        have := get_rel h k
        rw [hv] at this
        exact ⟨this, getAll_rel h hl⟩
      · cases hg
    · cases hg

theorem setAll_len : ∀ (ks : List Nat) (l : List AV) (as : List Vl), (setAll l ks as).length = l.length
  | [], l, as => by cases as <;> rfl
  | k :: ks, l, [] => rfl
  | k :: ks, l, x :: as => by
    rw [setAll, setAll_len ks, List.length_set]

theorem setAll_rel {C : Ctx} : ∀ {ks : List Nat} {l : List AV} {as : List Vl}, l.length = a.tmps.size → All2 (VRel C w) as (ks.map fun k => a.tmps.getD k undef) → (∀ (k : Nat) (x : AV) (v : Value), l[k]? = some x → a.tmps[k]? = some v → ARel C w x v) →
    ∀ (k : Nat) (x : AV) (v : Value), (setAll l ks as)[k]? = some x → a.tmps[k]? = some v → ARel C w x v
  | [], l, [], _, _, hl => hl
  | [], _, _ :: _, _, h, _ => h.elim
  | _ :: _, _, [], _, h, _ => h.elim
  | k0 :: ks, l, y :: as, hlen, h, hl => by
    refine setAll_rel (ks := ks) (l := l.set k0 (.v y)) (as := as) (by rw [List.length_set]; exact hlen) h.2 fun k x v hx hv => ?_
    rw [List.getElem?_set] at hx
    by_cases hk : k0 = k
    · subst hk
      rw [if_pos rfl] at hx
      split at hx
      · cases hx
        have hlt : k0 < a.tmps.size := (Array.getElem?_eq_some_iff.1 hv).1
        have : a.tmps.getD k0 undef = v := by
          rw [Array.getElem?_eq_getElem hlt] at hv
          cases hv
          simp [Array.getD, hlt]
        have h1 : VRel C w y (a.tmps.getD k0 undef) := h.1
        rw [this] at h1
        exact h1
      · cases hx
    · rw [if_neg hk] at hx
      exact hl k x v hx hv

theorem RelM.nil {D : Nat → Prop} (σ : Nat → Value) (F : Nat → Prop) (w : World) : RelM D ⟨σ, F, fun _ => False⟩ w [] :=
  ⟨fun _ _ h => (by cases h), fun _ _ _ _ h => (by cases h), fun _ => ⟨fun h => h.elim, fun h => by cases h⟩, fun _ h => h.elim⟩

theorem RelW.fzEq {C' : Ctx} (h : RelW e Γ C w) (hF : C'.Fz = C.Fz) : RelW e Γ C' w :=
  ⟨h.ch, h.fresh, by rw [hF]; exact h.fz, by rw [hF]; exact h.fz0, by rw [hF]; exact h.lt, by rw [hF]; exact h.glob⟩

/-- What was read as data is frozen; what was used whole stands apart from it. -/
theorem blks_apart {D : Nat → Prop} {m : Mem} {fs os : List Nat} (hm : RelM D C w m) (hlv : Lives m os) (hrows : Rows C m fs) (hdis : ∀ o, o ∈ os → o ∉ fs) : ∀ k, k ∈ blks C os → ¬ (C.frz fs).Fz k ∧ D k := fun k hk => by
  obtain ⟨o, ho, hg⟩ := mem_blks.1 hk
  obtain ⟨b, hb, hlb⟩ := hlv o ho
  refine ⟨fun hf => ?_, ((hm.blk o b hb).nf hlb hg).2⟩
  rcases (Ctx.frz_Fz fs C k).1 hf with hf | ⟨o', ho', hg'⟩
  · exact ((hm.blk o b hb).nf hlb hg).1 hf
  · rcases hrows o' ho' with ⟨E', t', xs', hm'⟩ | ⟨t', xs', hm', hz'⟩
    · exact hm.inj o o' b _ hb hm' hlb rfl (fun hh => hdis o ho (hh ▸ ho')) k hg hg'
    · exact ((hm.blk o b hb).nf hlb hg).1 (hz' k hg')

theorem mkSt_rel {sh : Sh} {x : VS.dens sh.vs} {us : List Value} {bs : List Nat} {n : Nat} (F : Nat → Prop) (hd : a.defers = []) (hn : n = a.tmps.size) (hp : ∀ k, k < Γ.np → a.tmps[k]? = Γ.args[k]?) (hus : us = sh.slots.map fun k => a.tmps.getD k undef) (hx : VSsR F w sh.vs x us bs)
    (hnd : bs.Nodup) (hb : ∀ g, g ∈ bs → ¬ F g ∧ Γ.D g) (hW : ∀ C : Ctx, C.Fz = F → RelW e Γ C w) : ∃ C', RelC e Γ C' (mkSt n sh x) a w ∧ (mkSt n sh x).slots.length = n := by
  obtain ⟨C', hL, hres, _⟩ := mkVs_rel (D := Γ.D) (C := ⟨fun _ => undef, F, fun _ => False⟩) (m := []) (n := 0) (RelM.nil _ F w) hx hnd hb (fun _ _ h => by cases h) (fun _ _ _ => rfl)
  subst hus
  refine ⟨C', ⟨hd, ?_, ?_, hp, hL.rel, hW C' hL.fz⟩, ?_⟩
  · show (setAll (List.replicate n AV.junk) sh.slots _).length = _
    rw [setAll_len, List.length_replicate, hn]
  · refine setAll_rel (by rw [List.length_replicate]; exact hn) hres fun k x v hx _ => ?_
    rw [List.getElem?_replicate] at hx
    split at hx
    · cases hx; trivial
    · cases hx
  · show (setAll (List.replicate n AV.junk) sh.slots _).length = _
    rw [setAll_len, List.length_replicate]

theorem exSt_mk {sh : Sh} {x : VS.dens sh.vs} {n : Nat} (h : RelC e Γ C s a w) (hn : s.slots.length = n) (hx : exSt sh s = some x) : ∃ C', RelC e Γ C' (mkSt n sh x) a w ∧ (mkSt n sh x).slots.length = n := by
  unfold exSt at hx
  split at hx
  · rename_i as hg
    split at hx
    · rename_i y fs os he
      cases hs : sep fs os with
      | false => rw [hs] at hx; cases hx
      | true =>
        rw [hs] at hx
        cases hx
        obtain ⟨hnd, hdis⟩ := sep_of hs
        obtain ⟨h1, h2, h3⟩ := exVs_sem h.mem he (getAll_rel h hg)
        exact mkSt_rel (C.frz fs).Fz h.defers (hn ▸ h.len) h.par rfl (h3 _ fun _ hk => hk) (blks_nodup h.mem hnd h2) (blks_apart h.mem h2 h1 hdis) fun C' hF => (h.frz h1).W.fzEq hF
    · cases hx
  · cases hx

/-! ### Pieces of code -/
def exOf : Ex → Exit
  | .normal => .normal
  | .exit id => .exit id
  | .ret => .ret

def OutQ (e : Env) (Γ : Actv) (n : Nat) (Q : Exit → Act → World → Prop) : (outs : List (Ex × Sh)) → outDen outs → Prop
  | [], _ => True
  | [o], y => ∀ C a w, RelC e Γ C (mkSt n o.2 y) a w → (mkSt n o.2 y).slots.length = n → Q (exOf o.1) a w
  | o :: o' :: r, y => match y with
    | .inl z => ∀ C a w, RelC e Γ C (mkSt n o.2 z) a w → (mkSt n o.2 z).slots.length = n → Q (exOf o.1) a w
    | .inr z => OutQ e Γ n Q (o' :: r) z

def PcOk (P : Program) (e : Env) (np n : Nat) (p : Pc) (c : Code) : Prop :=
  ∀ (Γ : Actv) (C : Ctx) (s : St) (a : Act) (w : World) (Q : Exit → Act → World → Prop) (x : VS.dens p.sh.vs) (y : outDen p.outs), Γ.np = np → RelC e Γ C s a w → s.slots.length = n → exSt p.sh s = some x → p.f x = some y → OutQ e Γ n Q p.outs y → c.wp P Q a w

theorem outK_Q {R : Type} {n : Nat} {Q : Exit → Act → World → Prop} {K : Ex → St → Option R} {r : R} (hQ : ∀ x s' C' a' w', s'.slots.length = n → RelC e Γ C' s' a' w' → K x s' = some r → Q (exOf x) a' w') :
    ∀ {outs : List (Ex × Sh)} {y : outDen outs}, outK n outs y K = some r → OutQ e Γ n Q outs y
  | [], _, _ => trivial
  | [o], y, h => fun C a w hR hl => hQ o.1 _ C a w hl hR h
  | o :: o' :: rr, y, h => by
    cases y with
    | inl z => exact fun C a w hR hl => hQ o.1 _ C a w hl hR h
    | inr z => exact outK_Q hQ (outs := o' :: rr) (y := z) h

/-- Which codes the pieces stand for. -/
def Ok (P : Program) (e : Env) (np n : Nat) (T : List Pc) : Code → Prop
  | .seq a b => Ok P e np n T a ∧ Ok P e np n T b
  | .cond c a b => (∀ k p, lead (.cond c a b) = some k → findPc T (2 * k + 1) = some p → PcOk P e np n p (.cond c a b)) ∧ Ok P e np n T a ∧ Ok P e np n T b
  | .block _ c => Ok P e np n T c
  | .loop b => ∀ k p, lead b = some k → findPc T (2 * k) = some p → PcOk P e np n p (.loop b)
  | _ => True

theorem pieceK_sound {R : Type} {T : List Pc} {key : Option Nat} {c : Code} {n : Nat} {K : Ex → St → Option R} {r : R} {o : Option R} {Q : Exit → Act → World → Prop} (hp : pieceK T key s K = some o) (ho : o = some r) (h : RelC e Γ C s a w) (hn : s.slots.length = n)
    (hok : ∀ k p, key = some k → findPc T k = some p → PcOk P e Γ.np n p c) (hQ : ∀ x s' C' a' w', s'.slots.length = n → RelC e Γ C' s' a' w' → K x s' = some r → Q (exOf x) a' w') : c.wp P Q a w := by
  subst ho
  unfold pieceK at hp
  split at hp
  · cases hp
  · rename_i k
    split at hp
    · cases hp
    · rename_i p hf
      split at hp
      · cases hp
      · rename_i x hx
        have hp' : ((p.f x).bind fun y => outK s.slots.length p.outs y K) = some r := Option.some.inj hp
        obtain ⟨y, hy, hk⟩ := Option.bind_eq_some_iff.1 hp'
        rw [hn] at hk
        exact hok k p rfl hf Γ C s a w Q x y rfl h hn hx hy (outK_Q hQ hk)

theorem evC_sound {R : Type} {T : List Pc} {n : Nat} {r : R} (hok : EnvOk P e) (hH : ∀ g h, H g = some h → Con P e g h) : ∀ (c : Code) (K : Ex → St → Option R) (s : St) (C : Ctx) (a : Act) (w : World) (Q : Exit → Act → World → Prop),
    Ok P e Γ.np n T c → wrC Γ.np c = true → evC e H T c s K = some r → RelC e Γ C s a w → s.slots.length = n → (∀ x s' C' a' w', s'.slots.length = n → RelC e Γ C' s' a' w' → K x s' = some r → Q (exOf x) a' w') → c.wp P Q a w
  | .skip, K, s, C, a, w, Q, _, _, hr, h, hn, hQ => wp_skip (hQ .normal s C a w hn h hr)
  | .region id ops false, K, s, C, a, w, Q, _, hwr, hr, h, hn, hQ => by
    refine wp_region ?_
    have := evOps_sound (P := P) (Q := Q) hok hH hwr ops.toList 0 0 s C a w (Nat.zero_le _) (fun j o hj => by rw [Nat.zero_add, ← Array.getElem?_toList]; exact hj) hr h fun s' C' a' w' h1 h2 h3 => hQ .normal s' C' a' w' (h1.trans hn) h2 h3
    rw [Nat.zero_add, Nat.sub_zero, Array.length_toList, ← List.range_eq_range'] at this
    exact this
  | .region id ops true, K, s, C, a, w, Q, _, hwr, hr, h, hn, hQ => by
    unfold evC at hr
    cases hd : drawOk ops.toList with
    | false => rw [hd] at hr; cases hr
    | true =>
      rw [hd] at hr
      exact draw_sound hok hH hwr hd hr h fun s' C' a' w' h1 h2 h3 => hQ .normal s' C' a' w' (h1.trans hn) h2 h3
  | .seq c1 c2, K, s, C, a, w, Q, hT, hwr, hr, h, hn, hQ => by
    have hwr' : (wrC Γ.np c1 && wrC Γ.np c2) = true := hwr
    rw [Bool.and_eq_true] at hwr'
    refine wp_seq (evC_sound hok hH c1 _ s C a w _ hT.1 hwr'.1 hr h hn fun x s' C' a' w' h1 h2 h3 => ?_)
    cases x with
    | normal => exact evC_sound hok hH c2 K s' C' a' w' Q hT.2 hwr'.2 h3 h2 h1 hQ
    | exit id => exact hQ (.exit id) s' C' a' w' h1 h2 h3
    | ret => exact hQ .ret s' C' a' w' h1 h2 h3
  | .cond c x y, K, s, C, a, w, Q, hT, hwr, hr, h, hn, hQ => by
    have hwr' : (wrC Γ.np x && wrC Γ.np y) = true := hwr
    rw [Bool.and_eq_true] at hwr'
    unfold evC at hr
    split at hr
    · rename_i o ho
      refine pieceK_sound ho hr h hn (fun k p hk hp => ?_) hQ
      cases hl : lead (.cond c x y) with
      | none => rw [hl] at hk; cases hk
      | some k' =>
        rw [hl] at hk
        cases hk
        exact hT.1 k' p hl hp
    · split at hr
      · rename_i t ht
        have hv : a.eval c = .bool t := opd_one h ht
        cases t with
        | true => exact wp_cond hv (evC_sound hok hH x K s C a w Q hT.2.1 hwr'.1 hr h hn hQ)
        | false => exact wp_cond hv (evC_sound hok hH y K s C a w Q hT.2.2 hwr'.2 hr h hn hQ)
      · cases hr
  | .block id c, K, s, C, a, w, Q, hT, hwr, hr, h, hn, hQ => by
    refine wp_block (evC_sound hok hH c _ s C a w _ hT hwr hr h hn fun x s' C' a' w' h1 h2 h3 => ?_)
    cases x with
    | normal => exact hQ .normal s' C' a' w' h1 h2 h3
    | exit j =>
      show if j = id then _ else _
      by_cases hj : j = id
      · subst hj
        have h3' : (bif Nat.beq j j then K .normal s' else K (.exit j) s') = some r := h3
        rw [show Nat.beq j j = true from Nat.beq_refl j] at h3'
        rw [if_pos rfl]
        exact hQ .normal s' C' a' w' h1 h2 h3'
      · have hne : Nat.beq j id = false := by
          rw [Bool.eq_false_iff]
          exact fun hh => hj (Nat.eq_of_beq_eq_true hh)
        have h3' : (bif Nat.beq j id then K .normal s' else K (.exit j) s') = some r := h3
        rw [hne] at h3'
        rw [if_neg hj]
        exact hQ (.exit j) s' C' a' w' h1 h2 h3'
    | ret => exact hQ .ret s' C' a' w' h1 h2 h3
  | .exit id, K, s, C, a, w, Q, _, _, hr, h, hn, hQ => wp_exit (hQ (.exit id) s C a w hn h hr)
  | .ret, K, s, C, a, w, Q, _, _, hr, h, hn, hQ => wp_ret (hQ .ret s C a w hn h hr)
  | .loop b, K, s, C, a, w, Q, hT, hwr, hr, h, hn, hQ => by
    unfold evC at hr
    split at hr
    · rename_i o ho
      refine pieceK_sound ho hr h hn (fun k p hk hp => ?_) hQ
      cases hl : lead b with
      | none => rw [hl] at hk; cases hk
      | some k' =>
        rw [hl] at hk
        cases hk
        exact hT k' p hl hp
    · cases hr
  | .rangeFunc _ _ _ _, _, _, _, _, _, _, _, _, hr, _, _, _ => by cases hr
  | .scope _, _, _, _, _, _, _, _, _, hr, _, _, _ => by cases hr
  | .label _, _, _, _, _, _, _, _, _, hr, _, _, _ => by cases hr
  | .goto _, _, _, _, _, _, _, _, _, hr, _, _, _ => by cases hr
  | .refuse _, _, _, _, _, _, _, _, _, hr, _, _, _ => by cases hr

end Go.Ev
