/-
  The abstract evaluator: loops; whole functions.
-/
import Derived.Test.YtgpjfmjceamonaaDoorEv17
namespace Go.Ev
variable {P : Program} {e : Env} {H : Nat → Option FH} {Γ : Actv} {C : Ctx} {s : St} {a : Act} {w : World}

/-! ### Rounds, as many as it takes -/
def lp {α β : Type} (f : α → Option (α ⊕ β)) : Nat → α → Option β
  | 0, _ => none
  | n + 1, x => match f x with
    | some (.inl x') => lp f n x'
    | some (.inr y) => some y
    | none => none

theorem lp_mono {α β : Type} {f : α → Option (α ⊕ β)} : ∀ {n : Nat} {x : α} {y : β}, lp f n x = some y → ∀ m, n ≤ m → lp f m x = some y
  | 0, _, _, h, _, _ => by cases h
  | n + 1, x, y, h, m, hm => by
    obtain ⟨m, rfl⟩ : ∃ k, m = k + 1 := ⟨m - 1, by omega⟩
    unfold lp at h ⊢
    split at h
    · rename_i x' hx
      exact lp_mono h m (by omega)
    · rename_i y' hy
      exact h
    · cases h

open Classical in
/-- A loop's end: where its rounds lead to. -/
noncomputable def loopF {α β : Type} (f : α → Option (α ⊕ β)) (x : α) : Option β :=
  if h : ∃ y n, lp f n x = some y then some h.choose else none

theorem loopF_of {α β : Type} {f : α → Option (α ⊕ β)} {n : Nat} {x : α} {y : β} (h : lp f n x = some y) : loopF f x = some y := by
  have hex : ∃ y n, lp f n x = some y := ⟨y, n, h⟩
  unfold loopF
  rw [dif_pos hex]
  obtain ⟨m, hm⟩ := hex.choose_spec
  have h1 := lp_mono h (max n m) (Nat.le_max_left _ _)
  have h2 := lp_mono hm (max n m) (Nat.le_max_right _ _)
  rw [h1] at h2
  exact h2.symm

theorem loopF_some {α β : Type} {f : α → Option (α ⊕ β)} {x : α} {y : β} (h : loopF f x = some y) : ∃ n, lp f n x = some y := by
  unfold loopF at h
  split at h
  · rename_i hex
    cases h
    exact hex.choose_spec
  · cases h

theorem loopF_step {α β : Type} (f : α → Option (α ⊕ β)) (x : α) : loopF f x = match f x with
    | some (.inl x') => loopF f x'
    | some (.inr y) => some y
    | none => none := by
  apply Option.ext
  intro y
  constructor
  · intro h
    obtain ⟨n, hn⟩ := loopF_some h
    cases n with
    | zero => cases hn
    | succ n =>
      unfold lp at hn
      split at hn
      · exact loopF_of hn
      · exact hn
      · cases hn
  · intro h
    split at h
    · rename_i x' hx
      obtain ⟨n, hn⟩ := loopF_some h
      exact loopF_of (n := n + 1) (by unfold lp; rw [hx]; exact hn)
    · rename_i y' hy
      cases h
      exact loopF_of (n := 1) (by unfold lp; rw [hy])
    · cases h

/-! ### What a round, or a piece, comes to -/
def exEq : Ex → Ex → Bool
  | .normal, .normal => true
  | .exit a, .exit b => Nat.beq a b
  | .ret, .ret => true
  | _, _ => false
theorem exEq_of {a b : Ex} (h : exEq a b = true) : a = b := by
  cases a <;> cases b <;> first | rfl | (cases h; done) | skip
  rw [Nat.eq_of_beq_eq_true h]

def finOut : (outs : List (Ex × Sh)) → Ex → St → Option (outDen outs)
  | [], _, _ => none
  | [o], x, s => bif exEq o.1 x then exSt o.2 s else none
  | o :: o' :: r, x, s => bif exEq o.1 x then (match exSt o.2 s with
      | some y => some (.inl y)
      | none => none)
    else match finOut (o' :: r) x s with
      | some y => some (.inr y)
      | none => none

def finK (sh : Sh) (outs : List (Ex × Sh)) : Ex → St → Option (VS.dens sh.vs ⊕ outDen outs)
  | .normal, s => match exSt sh s with
    | some y => some (.inl y)
    | none => none
  | .exit id, s => match finOut outs (.exit id) s with
    | some y => some (.inr y)
    | none => none
  | .ret, s => match finOut outs .ret s with
    | some y => some (.inr y)
    | none => none

theorem finOut_Q {n : Nat} {Q : Exit → Act → World → Prop} (h : RelC e Γ C s a w) (hn : s.slots.length = n) : ∀ {outs : List (Ex × Sh)} {x : Ex} {y : outDen outs}, finOut outs x s = some y → OutQ e Γ n Q outs y → Q (exOf x) a w
  | [], _, _, hf, _ => by cases hf
  | [o], x, y, hf, hQ => by
    unfold finOut at hf
    cases hx : exEq o.1 x with
    | false => rw [hx] at hf; cases hf
    | true =>
      rw [hx] at hf
      rw [← exEq_of hx]
      obtain ⟨C', h1, h2⟩ := exSt_mk h hn hf
      exact hQ C' a w h1 h2
  | o :: o' :: r, x, y, hf, hQ => by
    unfold finOut at hf
    cases hx : exEq o.1 x with
    | true =>
      rw [hx] at hf
      simp only [cond_true] at hf
      rw [← exEq_of hx]
      split at hf
      · rename_i z hz
        cases hf
        obtain ⟨C', h1, h2⟩ := exSt_mk h hn hz
        exact hQ C' a w h1 h2
      · cases hf
    | false =>
      rw [hx] at hf
      simp only [cond_false] at hf
      split at hf
      · rename_i z hz
        cases hf
        exact finOut_Q h hn hz hQ
      · cases hf

/-- A loop whose round is known. -/
theorem loop_ok {T : List Pc} {n np key : Nat} {sh : Sh} {outs : List (Ex × Sh)} {b : Code} {f : VS.dens sh.vs → Option (VS.dens sh.vs ⊕ outDen outs)} (hok : EnvOk P e) (hH : ∀ g h, H g = some h → Con P e g h) (hT : Ok P e np n T b) (hwr : wrC np b = true)
    (hf : ∀ x, evC e H T b (mkSt n sh x) (finK sh outs) = f x) : PcOk P e np n ⟨key, sh, outs, loopF f⟩ (.loop b) := by
  intro Γ C s a w Q x y hnp h hn hx hy hQ
  subst hnp
  obtain ⟨k, hk⟩ := loopF_some hy
  refine wp_loop_rounds k ?_
  obtain ⟨C', h1, h2⟩ := exSt_mk h hn hx
  clear hy hx h hn
  have key : ∀ (k : Nat) (x : VS.dens sh.vs) (C : Ctx) (a : Act) (w : World), lp f k x = some y → RelC e Γ C (mkSt n sh x) a w → (mkSt n sh x).slots.length = n → Code.rounds P b Q k a w := by
    intro k
    induction k with
    | zero => intro x C a w hl; cases hl
    | succ k ih =>
      intro x C a w hl h hn
      rw [rounds_succ]
      unfold lp at hl
      rw [← hf] at hl
      split at hl
      · rename_i x' hx'
        refine evC_sound hok hH b _ _ C a w _ hT hwr hx' h hn fun ex s' C' a' w' g1 g2 g3 => ?_
        cases ex with
        | normal =>
          simp only [finK] at g3
          split at g3
          · rename_i z hz
            cases g3
            obtain ⟨C2, q1, q2⟩ := exSt_mk g2 g1 hz
            exact ih _ C2 a' w' hl q1 q2
          · cases g3
        | exit id =>
          simp only [finK] at g3
          split at g3 <;> cases g3
        | ret =>
          simp only [finK] at g3
          split at g3 <;> cases g3
      · rename_i y' hy'
        cases hl
        refine evC_sound hok hH b _ _ C a w _ hT hwr hy' h hn fun ex s' C' a' w' g1 g2 g3 => ?_
        cases ex with
        | normal =>
          simp only [finK] at g3
          split at g3 <;> cases g3
        | exit id =>
          simp only [finK] at g3
          split at g3
          · rename_i z hz
            cases g3
            exact finOut_Q (Q := Q) g2 g1 hz hQ
          · cases g3
        | ret =>
          simp only [finK] at g3
          split at g3
          · rename_i z hz
            cases g3
            exact finOut_Q (Q := Q) g2 g1 hz hQ
          · cases g3
      · cases hl
  exact key k x C' a w hk h1 h2

/-- A piece of code that is no loop. -/
theorem piece_ok {T : List Pc} {n np key : Nat} {sh : Sh} {outs : List (Ex × Sh)} {c : Code} {f : VS.dens sh.vs → Option (outDen outs)} (hok : EnvOk P e) (hH : ∀ g h, H g = some h → Con P e g h) (hT : Ok P e np n T c) (hwr : wrC np c = true)
    (hf : ∀ x, evC e H T c (mkSt n sh x) (finOut outs) = f x) : PcOk P e np n ⟨key, sh, outs, f⟩ c := by
  intro Γ C s a w Q x y hnp h hn hx hy hQ
  subst hnp
  obtain ⟨C', h1, h2⟩ := exSt_mk h hn hx
  have hy' : f x = some y := hy
  rw [← hf] at hy'
  exact evC_sound hok hH c _ _ C' a w Q hT hwr hy' h1 h2 fun ex s' C2 a' w' g1 g2 g3 => finOut_Q g2 g1 g3 hQ

/-! ### Whole functions -/
def resOne (e : Env) (s : St) : ResultVar → Option Vl
  | .tmp t => match s.get t with
    | .v x => some x
    | .tup _ => none
  | .cell a t => match s.get a, e.ty t with
    | .v (.one c), some ty => match readAt s.mem ty.sz c with
      | some cs => asVl ty.isSt cs
      | none => none
    | _, _ => none

def resAll (e : Env) (s : St) : List ResultVar → Option (List Vl)
  | [] => some []
  | r :: rs => match resOne e s r with
    | some x => match resAll e s rs with
      | some l => some (x :: l)
      | none => none
    | none => none

def backVls : List VS → List Vl → List Vl
  | [], _ => []
  | _ :: _, [] => []
  | .val _ :: r, _ :: l => backVls r l
  | .eat _ _ :: r, _ :: l => backVls r l
  | .rc _ :: r, _ :: l => backVls r l
  | _ :: r, u :: l => u :: backVls r l

/-- Where the parameters' blocks are to be found at the end: nowhere, if none is handed back. -/
def npOf (ps : List VS) : Nat := match backs ps with
  | [] => 0
  | _ => ps.length

def endK (e : Env) (rv : List ResultVar) (ps rs : List VS) (s : St) : Option (VS.dens rs × VS.dens (backs ps)) :=
  match resAll e s rv with
  | some l => match exVs s.mem rs l with
    | some (r, fs, os) => match getAll s (List.range (npOf ps)) with
      | some as => match exVs s.mem (backs ps) (backVls ps as) with
        | some (b, fs', os') => bif sep (fs ++ fs') (os' ++ os) then some (r, b) else none
        | none => none
      | none => none
    | none => none
  | none => none

def finF (e : Env) (rv : List ResultVar) (ps rs : List VS) : Ex → St → Option (VS.dens rs × VS.dens (backs ps))
  | .normal, s => endK e rv ps rs s
  | .ret, s => endK e rv ps rs s
  | .exit _, _ => none

def startSh (ps : List VS) : Sh := ⟨List.range ps.length, ps, []⟩

end Go.Ev
