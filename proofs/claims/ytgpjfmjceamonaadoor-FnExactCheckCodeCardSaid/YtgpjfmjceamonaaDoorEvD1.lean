/-
  The abstract evaluator: what an operation looks at, and what it may change.
-/
import Derived.Test.YtgpjfmjceamonaaDoorEv16
import Derived.Orders
namespace Go.Ev
variable {e : Env} {H : Nat → Option FH} {s s2 : St}

/-! ### What an operation looks at -/
theorem avs_congr : ∀ {xs : List Operand}, (∀ x, x ∈ xs → opd s2 x = opd s x) → avs s2 xs = avs s xs
  | [], _ => rfl
  | x :: r, h => by
    unfold avs
    rw [h x List.mem_cons_self, avs_congr fun y hy => h y (List.mem_cons_of_mem _ hy)]

theorem vals_congr : ∀ {ps : List (Nat × Operand)} {k : Nat}, (∀ x, x ∈ ps.map (·.2) → opd s2 x = opd s x) → vals s2 ps k = vals s ps k
  | [], _, _ => rfl
  | (i, x) :: r, k, h => by
    unfold vals
    rw [h x (by simp), vals_congr fun y hy => h y (by rw [List.map_cons]; exact List.mem_cons_of_mem _ hy)]

theorem buildCells_congr {S : Nat} : ∀ {ps : List (Nat × Operand)} {cs : List CV}, (∀ x, x ∈ ps.map (·.2) → opd s2 x = opd s x) → buildCells e s2 S ps cs = buildCells e s S ps cs
  | [], _, _ => rfl
  | (i, x) :: r, cs, h => by
    have ih : ∀ cs, buildCells e s2 S r cs = buildCells e s S r cs := fun cs => buildCells_congr fun y hy => h y (by rw [List.map_cons]; exact List.mem_cons_of_mem _ hy)
    unfold buildCells
    rw [h x (by simp)]
    simp only [ih]

theorem buildArr_congr : ∀ {ps : List (Nat × Operand)} {cs : List CV}, (∀ x, x ∈ ps.map (·.2) → opd s2 x = opd s x) → buildArr s2 ps cs = buildArr s ps cs
  | [], _, _ => rfl
  | (i, x) :: r, cs, h => by
    have ih : ∀ cs, buildArr s2 r cs = buildArr s r cs := fun cs => buildArr_congr fun y hy => h y (by rw [List.map_cons]; exact List.mem_cons_of_mem _ hy)
    unfold buildArr
    rw [h x (by simp)]
    simp only [ih]

theorem builtinT_congr {b : Builtin} {args : List Operand} {tys : List Nat} {id : Nat} (h : ∀ x, x ∈ args → opd s2 x = opd s x) (hm : s2.mem = s.mem) : builtinT e b args tys s2 id = builtinT e b args tys s id := by
  match args, h with
  | [], _ => cases b <;> rfl
  | [x], h =>
    have hx := h x List.mem_cons_self
    cases b <;> first | rfl | (unfold builtinT; simp only [hx, hm])
  | [x, y], h =>
    have hx := h x List.mem_cons_self
    have hy := h y (by simp)
    cases b <;> first | rfl | (unfold builtinT; simp only [hx, hy, hm])
  | _ :: _ :: _ :: _, _ => cases b <;> rfl

theorem opT_congr {o : Op} {id : Nat} (h : ∀ x, x ∈ o.operands → opd s2 x = opd s x) (hm : s2.mem = s.mem) : opT e H o id s2 = opT e H o id s := by
  cases o <;> simp only [Op.operands] at h
  case move x => simp only [opT, hm, h x (by simp)]
  case assign x => simp only [opT, hm, h x (by simp)]
  case pick c x y => simp only [opT, hm, h c (by simp), h x (by simp), h y (by simp)]
  case alloc => simp only [opT, hm]
  case box E x => simp only [opT, hm, h x (by simp)]
  case build S ps => simp only [opT, hm, buildCells_congr (e := e) (S := S) (s2 := s2) (s := s) (ps := ps.toList) (fun x hx => h x (by rw [List.mem_toArray]; exact hx)), buildArr_congr (s2 := s2) (s := s) (ps := ps.toList) (fun x hx => h x (by rw [List.mem_toArray]; exact hx))]
  case buildSlice R n ps => simp only [opT, hm, vals_congr (s2 := s2) (s := s) (ps := ps.toList) (fun x hx => h x (by rw [List.mem_toArray]; exact hx))]
  case load E x => simp only [opT, hm, h x (by simp)]
  case store E x y => simp only [opT, hm, h x (by simp), h y (by simp)]
  case nilCheck x => simp only [opT, hm, h x (by simp)]
  case binOp op T x y T' => simp only [opT, hm, h x (by simp), h y (by simp)]
  case unOp op T x => simp only [opT, hm, h x (by simp)]
  case convert S D x => simp only [opT, hm, h x (by simp)]
  case makeFunc fn first caps =>
    cases fn <;> first | rfl | skip
    simp only [opT, hm]
    rw [avs_congr (s2 := s2) (s := s) fun x hx => h x (by simp; exact .inr (by simpa using hx))]
  case makeMap M r => cases r <;> first | rfl | simp only [opT, hm]
  case mapUpdate M m k x => simp only [opT, hm, h m (by simp), h k (by simp), h x (by simp)]
  case lookup M m k ok => simp only [opT, hm, h m (by simp), h k (by simp)]
  case makeSlice R l c => simp only [opT, hm, h l (by simp)]
  case slice R x lo hi mx =>
    cases lo <;> cases hi <;> cases mx <;> first | rfl | skip
    rename_i hh
    simp only [opT, hm, h x (by simp), h hh (by simp)]
  case fieldAddr S x f => simp only [opT, hm, h x (by simp)]
  case field S x f => simp only [opT, hm, h x (by simp)]
  case indexAddr R x i => simp only [opT, hm, h x (by simp), h i (by simp)]
  case index R x i => simp only [opT, hm, h x (by simp), h i (by simp)]
  case extract x i => simp only [opT, hm, h x (by simp)]
  case call c =>
    obtain ⟨cl, args, tys⟩ := c
    cases cl with
    | builtin b =>
      simp only [opT]
      exact builtinT_congr (fun x hx => h x (by simp [Call.operands]; simpa using hx)) hm
    | value f =>
      simp only [opT, hm, h f (by simp [Call.operands])]
      rw [avs_congr (s2 := s2) (s := s) fun x hx => h x (by simp [Call.operands]; exact .inr (by simpa using hx))]
    | invoke _ _ => rfl
  all_goals rfl

end Go.Ev
