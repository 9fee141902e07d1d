/-
  The abstract evaluator and a law: its arguments opened, its contract used, its end.
-/
import Derived.Test.YtgpjfmjceamonaaDoorEvO1
namespace Go.Ev
open Go.ChangeShapes Go.WideShapes Go.RowKit Go.ChangeAt
section
variable {H : Type} {enc : TypeId × Value → H} {P : Program} {W : World} {held : Bool}

theorem open_val {sp : Nat → Bool} {n : Nat} {T : TypeId} {t : Ty} {v : Value} {d : DataW H} {p : List MemPlace} {base : Nat} (hT : tyIs P n T t = true) (hv : Value.okWide P W .any base T v) (h : DataW.Trod enc P W 0 sp held T v d p) :
    ∃ x : t.den, VSR (· < W.heap.size) W (.val t) x v [] ∧ t.bnd x := by
  obtain ⟨fuel, hf⟩ := h
  obtain ⟨x, hx, hb⟩ := tyIs_open n fuel T t _ d p hT hf
  refine ⟨x, ⟨rfl, ?_⟩, hb⟩
  cases n with
  | zero => cases hT
  | succ n =>
    unfold tyIs at hT
    split at hT
    · rename_i hU
      obtain ⟨b, rfl⟩ := okWide_bool hU hv
      exact .inr ⟨rfl, hx⟩
    · rename_i k k' hU
      obtain ⟨b, rfl⟩ := okWide_int hU hv
      exact .inr ⟨rfl, hx⟩
    · rename_i hU
      obtain ⟨b, rfl⟩ := okWide_float hU hv
      exact .inr ⟨rfl, hx⟩
    · rename_i hU
      obtain ⟨b, rfl⟩ := okWide_string hU hv
      exact .inr ⟨rfl, hx⟩
    · rename_i e u hU
      obtain ⟨a, l, c, rfl⟩ := okWide_slice hU hv
      exact .inr ⟨rfl, hx⟩
    · rename_i fs u hU
      obtain ⟨cs, rfl, _⟩ := okWide_struct hU hv
      exact .inl ⟨rfl, cs, rfl, hx⟩
    · cases hT

def tysAre (P : Program) (n : Nat) : List TypeId → List VS → Bool
  | [], [] => true
  | T :: Ts, .val t :: vs => tyIs P n T t && tysAre P n Ts vs
  | _, _ => false
def bnds : (vs : List VS) → VS.dens vs → Prop
  | [], _ => True
  | .val t :: r, x => t.bnd x.1 ∧ bnds r x.2
  | .own _ _ :: _, _ => False
  | .eat _ _ :: _, _ => False
  | .box _ _ :: _, _ => False
  | .mp :: _, _ => False
  | .rc _ :: _, _ => False

theorem open_args {sp : Nat → Bool} {n base : Nat} : ∀ {Ts : List TypeId} {vs : List VS} {us : List Value} {ds : List (DataW H)} {p : List MemPlace}, tysAre P n Ts vs = true →
    (∀ (j : Nat) t v, Ts[j]? = some t → us[j]? = some v → Value.okWide P W .any base t v) → DataW.TrodAll enc P W 0 sp held Ts us ds p → ∃ x : VS.dens vs, VSsR (· < W.heap.size) W vs x us [] ∧ bnds vs x
  | [], [], [], _, _, _, _, _ => ⟨(), ⟨rfl, rfl⟩, trivial⟩
  | [], [], _ :: _, _, _, _, _, h => by cases h
  | [], v :: vs, _, _, _, hT, _, _ => by cases v <;> cases hT
  | T :: Ts, [], _, _, _, hT, _, _ => by cases hT
  | T :: Ts, .val t :: vs, us, ds, p, hT, hv, h => by
    have hT' : (tyIs P n T t && tysAre P n Ts vs) = true := hT
    rw [Bool.and_eq_true] at hT'
    obtain ⟨v, vs', d, ds', p1, q1, rfl, rfl, rfl, h1, h2⟩ := trodAll_cons h
    obtain ⟨x, hx, hb⟩ := open_val hT'.1 (hv 0 T v rfl rfl) h1
    obtain ⟨y, hy, hc⟩ := open_args (base := base) hT'.2 (fun j t' v' ht' hv' => hv (j + 1) t' v' (by rw [List.getElem?_cons_succ]; exact ht') (by rw [List.getElem?_cons_succ]; exact hv')) h2
    exact ⟨(x, y), ⟨v, vs', [], [], rfl, rfl, hx, hy⟩, hb, hc⟩
  | T :: Ts, .own _ _ :: vs, _, _, _, hT, _, _ => by cases hT
  | T :: Ts, .eat _ _ :: vs, _, _, _, hT, _, _ => by cases hT
  | T :: Ts, .box _ _ :: vs, _, _, _, hT, _, _ => by cases hT
  | T :: Ts, .mp :: vs, _, _, _, hT, _, _ => by cases hT
  | T :: Ts, .rc _ :: vs, _, _, _, hT, _, _ => by cases hT

theorem trodAll_lt {sp : Nat → Bool} : ∀ {Ts : List TypeId} {us : List Value} {ds : List (DataW H)} {p : List MemPlace}, DataW.TrodAll enc P W 0 sp held Ts us ds p → ∀ x, x ∈ p → x.block < W.heap.size
  | [], us, ds, p, h, x, hx => by
    cases us <;> cases ds <;> first | (cases h; cases hx; done) | cases h
  | T :: Ts, us, ds, p, h, x, hx => by
    obtain ⟨v, vs', d, ds', p1, q1, rfl, rfl, rfl, h1, h2⟩ := trodAll_cons h
    rcases List.mem_append.1 hx with hx | hx
    · obtain ⟨m, hm⟩ := h1
      exact DataW.trod_lt m _ _ _ hm x hx
    · exact trodAll_lt h2 x hx

theorem below_trodAll {W' : World} (hl : laidOutB P = true) (hb : Below W.heap.size W W') : ∀ {Ts : List TypeId} {us : List Value} {ds : List (DataW H)} {p : List MemPlace}, Ts.all (fun T => P.readableRec T && Nat.blt T P.types.size) = true →
    DataW.TrodAll enc P W 0 (fun _ => true) true Ts us ds p → (∀ x, x ∈ p → x.block < W.heap.size) → DataW.TrodAll enc P W' 0 (fun b => decide (b < W.heap.size)) true Ts us ds p
  | [], us, ds, p, _, h, _ => by
    cases us <;> cases ds <;> first | exact h | cases h
  | T :: Ts, us, ds, p, hT, h, hp => by
    obtain ⟨v, vs', d, ds', p1, q1, rfl, rfl, rfl, h1, h2⟩ := trodAll_cons h
    rw [List.all_cons, Bool.and_eq_true, Bool.and_eq_true] at hT
    exact ⟨p1, q1, Below.trod hl hT.1.1 (Nat.le_of_ble_eq_true hT.1.2) h1 hb fun x hx => hp x (List.mem_append.2 (.inl hx)), below_trodAll hl hb hT.2 h2 fun x hx => hp x (List.mem_append.2 (.inr hx)), rfl⟩
end

/-- A law whose contract tells true. -/
theorem law_calls {P : Program} {e : Env} {g : Nat} {vs : List VS} {f : VS.dens vs → Option (VS.dens [.val .bool] × VS.dens (backs vs))} {W : World} {us : List Value} {x : VS.dens vs} (hcon : Con P e g ⟨vs, [.val .bool], f⟩)
    (hx : VSsR (· < W.heap.size) W vs x us []) (hg : GlobOk e (· < W.heap.size) W) (hf : ∃ b, f x = some ((true, ()), b)) : Calls P g us.toArray W fun en w' => en = .returned (.bool true) ∧ Below W.heap.size W w' := by
  obtain ⟨b, hb⟩ := hf
  refine (hcon W _ us x _ [] hb hx List.nodup_nil (fun k hk => by cases hk) (fun k hk => hk) hg).2.mono fun en w' hh => ?_
  obtain ⟨Fz2, us', b2, b3, rfl, hch, _, _, hr, _⟩ := hh
  obtain ⟨u, u2, b1, b2', rfl, _, hu, hn⟩ := hr
  obtain ⟨rfl, _⟩ := hn
  obtain ⟨_, hu⟩ := hu
  rcases hu with ⟨h, _⟩ | ⟨_, hu⟩
  · cases h
  · have hu' : [u] = [Value.bool true] := hu
    cases hu'
    exact ⟨rfl, hch.os, hch.tape, hch.output, hch.size, fun k hk => hch.block k hk (fun h => by cases h)⟩
end Go.Ev
