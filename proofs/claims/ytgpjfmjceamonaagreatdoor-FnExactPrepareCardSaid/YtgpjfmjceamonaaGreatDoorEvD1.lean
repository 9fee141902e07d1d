/-
 The abstract evaluator: what an operation looks at, and what it may change.
-/
import Derived.Test.YtgpjfmjceamonaaGreatDoorEv16
import Derived.Orders
namespace Go.Ev
variable {e : Env} {H : Nat → Option FH} {s s2 : St}
/-! ### What an operation looks at -/
theorem avs_congr : ∀ {xs : List Operand}, (∀ x, x ∈ xs → opd s2 x = opd s x) → avs s2 xs = avs s xs
 | [], _ => rfl
 | x :: r, h => by
  unfold avs
  rw [h x List.mem_cons_self, avs_congr fun y hy => h y (List.mem_cons_of_mem _ hy)]
theorem vals_congr : ∀ {ps : List (Nat × Operand)} {k : Nat}, (∀ x, x ∈ ps.map (·.2) → opd s2 x = opd s x) → vals s2 ps k = vals s ps k
 | [], _, _ => rfl
 | (i, x) :: r, k, h => by
  unfold vals
  rw [h x (by simp), vals_congr fun y hy => h y (by rw [List.map_cons]; exact List.mem_cons_of_mem _ hy)]
theorem buildCells_congr {S : Nat} : ∀ {ps : List (Nat × Operand)} {cs : List CV}, (∀ x, x ∈ ps.map (·.2) → opd s2 x = opd s x) → buildCells e s2 S ps cs = buildCells e s S ps cs
 | [], _, _ => rfl
 | (i, x) :: r, cs, h => by
  have ih : ∀ cs, buildCells e s2 S r cs = buildCells e s S r cs := fun cs => buildCells_congr fun y hy => h y (by rw [List.map_cons]; exact List.mem_cons_of_mem _ hy)
  unfold buildCells
  rw [h x (by simp)]
  simp only [ih]
theorem buildArr_congr : ∀ {ps : List (Nat × Operand)} {cs : List CV}, (∀ x, x ∈ ps.map (·.2) → opd s2 x = opd s x) → buildArr s2 ps cs = buildArr s ps cs
 | [], _, _ => rfl
 | (i, x) :: r, cs, h => by
  have ih : ∀ cs, buildArr s2 r cs = buildArr s r cs := fun cs => buildArr_congr fun y hy => h y (by rw [List.map_cons]; exact List.mem_cons_of_mem _ hy)
  unfold buildArr
  rw [h x (by simp)]
  simp only [ih]
theorem builtinT_congr {b : Builtin} {args : List Operand} {tys : List Nat} {id : Nat} (h : ∀ x, x ∈ args → opd s2 x = opd s x) (hm : s2.mem = s.mem) : builtinT e b args tys s2 id = builtinT e b args tys s id := by
 match args, h with
 | [], _ => cases b <;> rfl
 | [x], h =>
  have hx := h x List.mem_cons_self
  cases b <;> first | rfl | (unfold builtinT; simp only [hx, hm])
 | [x, y], h =>
  have hx := h x List.mem_cons_self
  have hy := h y (by simp)
  cases b <;> first | rfl | (unfold builtinT; simp only [hx, hy, hm])
 | _ :: _ :: _ :: _, _ => cases b <;> rfl
theorem opT0_congr {o : Op} {id : Nat} (h : ∀ x, x ∈ o.operands → opd s2 x = opd s x) (hm : s2.mem = s.mem) : opT0 e H o id s2 = opT0 e H o id s := by
 cases o <;> simp only [Op.operands] at h
 case move x => simp only [opT0, hm, h x (by simp)]
 case assign x => simp only [opT0, hm, h x (by simp)]
 case pick c x y => simp only [opT0, hm, h c (by simp), h x (by simp), h y (by simp)]
 case alloc => simp only [opT0, hm]
 case box E x => simp only [opT0, hm, h x (by simp)]
 case build S ps => simp only [opT0, hm, buildCells_congr (e := e) (S := S) (s2 := s2) (s := s) (ps := ps.toList) (fun x hx => h x (by rw [List.mem_toArray]; exact hx)), buildArr_congr (s2 := s2) (s := s) (ps := ps.toList) (fun x hx => h x (by rw [List.mem_toArray]; exact hx))]
 case buildSlice R n ps => simp only [opT0, hm, vals_congr (s2 := s2) (s := s) (ps := ps.toList) (fun x hx => h x (by rw [List.mem_toArray]; exact hx))]
 case load E x => simp only [opT0, hm, h x (by simp)]
 case store E x y => simp only [opT0, hm, h x (by simp), h y (by simp)]
 case nilCheck x => simp only [opT0, hm, h x (by simp)]
 case binOp op T x y T' => simp only [opT0, hm, h x (by simp), h y (by simp)]
 case unOp op T x => simp only [opT0, hm, h x (by simp)]
 case convert S D x => simp only [opT0, hm, h x (by simp)]
 case makeFunc fn first caps =>
  cases fn <;> first | rfl | skip
  simp only [opT0, hm]
  rw [avs_congr (s2 := s2) (s := s) fun x hx => h x (by simp; exact .inr (by simpa using hx))]
 case makeMap M r => cases r <;> first | rfl | simp only [opT0, hm]
 case mapUpdate M m k x => simp only [opT0, hm, h m (by simp), h k (by simp), h x (by simp)]
 case lookup M m k ok => simp only [opT0, hm, h m (by simp), h k (by simp)]
 case makeSlice R l c => simp only [opT0, hm, h l (by simp)]
 case slice R x lo hi mx =>
  cases lo <;> cases hi <;> cases mx <;> first | rfl | skip
  rename_i hh
  simp only [opT0, hm, h x (by simp), h hh (by simp)]
 case fieldAddr S x f => simp only [opT0, hm, h x (by simp)]
 case field S x f => simp only [opT0, hm, h x (by simp)]
 case indexAddr R x i => simp only [opT0, hm, h x (by simp), h i (by simp)]
 case index R x i => simp only [opT0, hm, h x (by simp), h i (by simp)]
 case extract x i => simp only [opT0, hm, h x (by simp)]
 case call c =>
  obtain ⟨cl, args, tys⟩ := c
  cases cl with
  | builtin b =>
   simp only [opT0]
   exact builtinT_congr (fun x hx => h x (by simp [Call.operands]; simpa using hx)) hm
  | value f =>
   simp only [opT0, hm, h f (by simp [Call.operands])]
   rw [avs_congr (s2 := s2) (s := s) fun x hx => h x (by simp [Call.operands]; exact .inr (by simpa using hx))]
  | invoke _ _ => rfl
 all_goals rfl
end Go.Ev
namespace Go.Ev
variable {e : Env} {H : Nat → Option FH} {s s2 : St}
theorem mem_reads {o : Op} {x : Operand} {b : Nat} (hx : x ∈ o.operands) (hb : b ∈ av1 (opd s x)) : b ∈ readsOf o s := List.mem_flatMap.2 ⟨x, by simpa using hx, hb⟩
theorem readAt_congr {m m2 : Mem} {n : Nat} {c : CV} (h : ∀ b, b ∈ cv1 c → mget m2 b = mget m b) : readAt m2 n c = readAt m n c := by
 cases c <;> first | rfl | skip
 ·rename_i b off
  unfold readAt
  simp only [h b (by simp [cv1])]
 ·rename_i o t i off
  unfold readAt
  simp only [h o (by simp [cv1])]
theorem opT0_pure {o : Op} {id id2 : Nat} {r : AV × Mem} (hp : pureOp o = true) (hr : (opT0 e H o id s).run = some r) (h : ∀ x, x ∈ o.operands → opd s2 x = opd s x) (hm : ∀ b, b ∈ readsOf o s → mget s2.mem b = mget s.mem b) :
  (opT0 e H o id2 s2).run = some (r.1, s2.mem) ∧ r.2 = s.mem := by
 have hm' : ∀ x b, x ∈ o.operands → b ∈ av1 (opd s x) → mget s2.mem b = mget s.mem b := fun x b hx hb => hm b (mem_reads hx hb)
 clear hm
 cases o <;> first | (cases hp; done) | skip
 case move x =>
  have h1 := h x (by simp [Op.operands])
  simp only [opT0, h1] at hr ⊢
  cases hr; exact ⟨rfl, rfl⟩
 case assign x =>
  have h1 := h x (by simp [Op.operands])
  simp only [opT0, h1] at hr ⊢
  cases hr; exact ⟨rfl, rfl⟩
 case pick c x y =>
  have h1 := h c (by simp [Op.operands])
  have h2 := h x (by simp [Op.operands])
  have h3 := h y (by simp [Op.operands])
  simp only [opT0, h1, h2, h3] at hr ⊢
  split at hr
  ·rename_i t hc
   try simp only [hc]
   cases t <;> (cases hr; exact ⟨rfl, rfl⟩)
  ·cases hr
 case build S ps =>
  have h1 : ∀ x, x ∈ ps.toList.map (·.2) → opd s2 x = opd s x := fun x hx => h x (by simp only [Op.operands]; rw [List.mem_toArray]; exact hx)
  simp only [opT0, buildCells_congr (e := e) (S := S) h1, buildArr_congr h1] at hr ⊢
  split at hr
  ·rename_i t ht
   try simp only [ht]
   cases hA : (e.arrs.any (Nat.beq S) && t.isSt) with
   | true =>
    rw [hA] at hr
    simp only [cond_true] at hr ⊢
    split at hr
    ·rename_i cs hb
     try simp only [hb]
     cases hr; exact ⟨rfl, rfl⟩
    ·cases hr
   | false =>
    rw [hA] at hr
    simp only [cond_false] at hr ⊢
    obtain ⟨hS, hr⟩ := bif_some hr
    try simp only [hS, cond_true]
    split at hr
    ·rename_i cs hb
     try simp only [hb]
     cases hr; exact ⟨rfl, rfl⟩
    ·cases hr
  ·cases hr
 case load E x =>
  have h1 := h x (by simp [Op.operands])
  have h2 := fun b => hm' x b (by simp [Op.operands])
  simp only [opT0, h1] at hr ⊢
  split at hr
  ·rename_i g hx
   try simp only [hx]
   split at hr
   ·rename_i tbl hg
    try simp only [hg]
    obtain ⟨hq, hr⟩ := bif_some hr
    try simp only [hq, cond_true]
    cases hr; exact ⟨rfl, rfl⟩
   ·cases hr
  ·rename_i c hc hx
   rw [hx] at h2
   try rw [hx]
   split at hr
   ·rename_i t ht
    split at hr
    ·rename_i cs hcs
     split at hr
     ·rename_i v hv
      cases hr
      have hrd : readAt s2.mem t.sz c = some cs := by
       rw [← hcs]
       exact readAt_congr fun b hb => h2 b (by simpa [av1, Vl.cells] using hb)
      refine ⟨?_, rfl⟩
      cases c <;> first | (exact absurd rfl (hc _)) | (simp only [hrd, hv, Tr.run])
     ·cases hr
    ·cases hr
   ·cases hr
  ·cases hr
 case nilCheck x =>
  have h1 := h x (by simp [Op.operands])
  simp only [opT0, h1] at hr ⊢
  split at hr
  ·rename_i b off hx
   try simp only [hx]
   cases hr; exact ⟨rfl, rfl⟩
  ·cases hr
 case binOp op T x y T' =>
  have h1 := h x (by simp [Op.operands])
  have h2 := h y (by simp [Op.operands])
  simp only [opT0, h1, h2] at hr ⊢
  rw [Tr.run_bind] at hr ⊢
  obtain ⟨v, hv, hr⟩ := Option.bind_eq_some_iff.1 hr
  cases hr
  exact ⟨by rw [hv]; rfl, rfl⟩
 case unOp op T x =>
  have h1 := h x (by simp [Op.operands])
  simp only [opT0, h1] at hr ⊢
  split at hr
  ·rename_i v hv
   try simp only [hv]
   cases hr; exact ⟨rfl, rfl⟩
  ·cases hr
 case convert S D x =>
  have h1 := h x (by simp [Op.operands])
  simp only [opT0, h1] at hr ⊢
  obtain ⟨hS, hr⟩ := bif_some hr
  try simp only [hS, cond_true]
  split at hr
  ·rename_i hD hx
   try simp only [hD, hx]
   cases hr; exact ⟨rfl, rfl⟩
  ·rename_i hD hx
   try simp only [hD, hx]
   cases hr; exact ⟨rfl, rfl⟩
  ·rename_i hD hx
   try simp only [hD, hx]
   cases hr; exact ⟨rfl, rfl⟩
  ·cases hr
 case makeFunc fn first caps =>
  cases fn <;> first | (cases hr; done) | skip
  rename_i f
  have h1 := avs_congr (s2 := s2) (s := s) (xs := caps.toList) fun x hx => h x (by simp [Op.operands]; exact .inr (by simpa using hx))
  simp only [opT0, h1] at hr ⊢
  obtain ⟨hS, hr⟩ := bif_some hr
  try simp only [hS, cond_true]
  split at hr
  ·rename_i l hl
   try simp only [hl]
   split at hr
   ·rename_i bs hb
    try simp only [hb]
    cases hr; exact ⟨rfl, rfl⟩
   ·cases hr
  ·cases hr
 case lookup M m k ok =>
  have h1 := h m (by simp [Op.operands])
  have h2 := h k (by simp [Op.operands])
  simp only [opT0, h1, h2] at hr ⊢
  obtain ⟨hS, hr⟩ := bif_some hr
  try simp only [hS, cond_true]
  split at hr
  ·rename_i g n hx hy
   try simp only [hx, hy]
   split at hr
   ·rename_i tbl hg
    try simp only [hg]
    cases ok <;> (cases hr; exact ⟨rfl, rfl⟩)
   ·cases hr
  ·cases hr
 case fieldAddr S x f =>
  have h1 := h x (by simp [Op.operands])
  simp only [opT0, h1] at hr ⊢
  split at hr
  ·rename_i c off n ag hx hf
   try simp only [hx, hf]
   split at hr
   ·rename_i c' hc
    try simp only [hc]
    cases hr; exact ⟨rfl, rfl⟩
   ·cases hr
  ·cases hr
 case field S x f =>
  have h1 := h x (by simp [Op.operands])
  simp only [opT0, h1] at hr ⊢
  split at hr
  ·rename_i cs off n ag hx hf
   try simp only [hx, hf]
   split at hr
   ·rename_i l hl
    try simp only [hl]
    split at hr
    ·rename_i v hv
     try simp only [hv]
     cases hr; exact ⟨rfl, rfl⟩
    ·cases hr
   ·cases hr
  ·cases hr
 case indexAddr R x i =>
  have h1 := h x (by simp [Op.operands])
  have h2 := h i (by simp [Op.operands])
  have h3 := fun b => hm' x b (by simp [Op.operands])
  simp only [opT0, h1, h2] at hr ⊢
  split at hr
  ·rename_i t' ht'
   try rw [ht']
   split at hr
   ·rename_i b k n hx hi
    rw [hx] at h3
    try rw [hx]
    try simp only [hi]
    have h4 := h3 b (by simp [av1, Vl.cells, cv1])
    try simp only [h4]
    split at hr
    ·rename_i E' t xs hb
     obtain ⟨hq, hr⟩ := bif_some hr
     obtain ⟨hn, hr⟩ := need_some hr
     try simp only [hq, cond_true, Tr.need, hn, Tr.run]
     cases hr; exact ⟨rfl, rfl⟩
    ·rename_i t xs hb
     obtain ⟨hq, hr⟩ := bif_some hr
     obtain ⟨hn, hr⟩ := need_some hr
     try simp only [hq, cond_true, Tr.need, hn, Tr.run]
     cases hr; exact ⟨rfl, rfl⟩
    ·cases hr
   ·rename_i t xs k n hx hi
    try simp only [hx, hi]
    obtain ⟨hq, hr⟩ := bif_some hr
    obtain ⟨hn, hr⟩ := need_some hr
    try simp only [hq, cond_true, Tr.need, hn, Tr.run]
    cases hr; exact ⟨rfl, rfl⟩
   ·cases hr
  ·rename_i ht'
   try rw [ht']
   obtain ⟨hA, hr⟩ := bif_some hr
   try simp only [hA, cond_true]
   split at hr
   ·rename_i b off k n hx hi
    try simp only [hx, hi]
    simp only [Tr.run] at hr ⊢
    cases hc0 : (n == 0) <;> cases hc1 : (n == 1) <;> cases hc2 : (n == 2) <;> cases hc3 : (n == 3) <;> rw [hc0, hc1, hc2, hc3] at hr <;> first | (cases hr; done) | (cases hr; exact ⟨rfl, rfl⟩)
   ·cases hr
 case index R x i =>
  have h1 := h x (by simp [Op.operands])
  have h2 := h i (by simp [Op.operands])
  simp only [opT0, h1, h2] at hr ⊢
  obtain ⟨hS, hr⟩ := bif_some hr
  try simp only [hS, cond_true]
  split at hr
  ·rename_i cs k n hx hi
   try simp only [hx, hi]
   split at hr
   ·rename_i l hl
    obtain ⟨hq, hr⟩ := bif_some hr
    obtain ⟨hn, hr⟩ := need_some hr
    try simp only [hq, cond_true, Tr.need, hn, Tr.run]
    cases hr; exact ⟨rfl, rfl⟩
   ·cases hr
  ·cases hr
 case extract x i =>
  have h1 := h x (by simp [Op.operands])
  simp only [opT0, h1] at hr ⊢
  split at hr
  ·rename_i l hx
   try simp only [hx]
   split at hr
   ·rename_i v hv
    try simp only [hv]
    cases hr; exact ⟨rfl, rfl⟩
   ·cases hr
  ·cases hr
 case call c =>
  obtain ⟨cl, args, tys⟩ := c
  cases cl with
  | value f => cases hp
  | invoke _ _ => cases hp
  | builtin b =>
   simp only [opT0] at hr ⊢
   have h1 : ∀ x, x ∈ args.toList → opd s2 x = opd s x := fun x hx => h x (by simp [Op.operands, Call.operands]; simpa using hx)
   have h2 : ∀ x b, x ∈ args.toList → b ∈ av1 (opd s x) → mget s2.mem b = mget s.mem b := fun x b hx hb => hm' x b (by simp [Op.operands, Call.operands]; simpa using hx) hb
   generalize args.toList = l at h1 h2 hr ⊢
   generalize tys.toList = ts at hr ⊢
   cases b <;> first | (cases hp; done) | skip
   · -- len
    match l, ts with
    | [x], [T] =>
     have q1 := h1 x (by simp)
     have q2 := fun b => h2 x b (by simp)
     simp only [builtinT, q1] at hr ⊢
     split at hr
     ·rename_i t ht
      try simp only [ht]
      split at hr
      ·rename_i b hx
       try simp only [hx]
       cases hr; exact ⟨rfl, rfl⟩
      ·rename_i t' hx
       try simp only [hx]
       cases hr; exact ⟨rfl, rfl⟩
      ·rename_i t' t2 xs hx
       try simp only [hx]
       cases hr; exact ⟨rfl, rfl⟩
      ·rename_i t' b hx
       rw [hx] at q2
       try rw [hx]
       have q3 := q2 b (by simp [av1, Vl.cells, cv1])
       simp only [q3]
       split at hr
       ·rename_i E t2 xs hb
        try simp only [hb]
        cases hr; exact ⟨rfl, rfl⟩
       ·rename_i t2 xs hb
        try simp only [hb]
        cases hr; exact ⟨rfl, rfl⟩
       ·cases hr
      ·cases hr
     ·cases hr
    | [], _ => cases hr
    | [_], [] => cases hr
    | [_], _ :: _ :: _ => cases hr
    | _ :: _ :: _, _ => cases hr
   · -- min
    match l with
    | [x, y] =>
     have q1 := h1 x (by simp)
     have q2 := h1 y (by simp)
     simp only [builtinT, q1, q2] at hr ⊢
     split at hr
     ·rename_i k n k' m hx hy
      try simp only [hx, hy]
      obtain ⟨hq, hr⟩ := bif_some hr
      try simp only [hq, cond_true]
      cases hr; exact ⟨rfl, rfl⟩
     ·cases hr
    | [] => cases hr
    | [_] => cases hr
    | _ :: _ :: _ :: _ => cases hr
end Go.Ev
namespace Go.Ev
variable {e : Env} {H : Nat → Option FH} {s : St}
/-! ### Blocks that values lead to -/
theorem rowOf_ids {m : Mem} {t : Ty} {c : CV} {xs : List t.den} {os : List Nat} (h : rowOf m t c = some (xs, os)) : ∀ o, o ∈ os → o ∈ cv1 c := by
 unfold rowOf at h
 split at h
 ·cases h; intro o ho; cases ho
 ·split at h
  ·cases h; intro o ho; cases ho
  ·cases h
 ·split at h
  ·split at h
   ·cases h; intro o ho; exact ho
   ·cases h
  ·split at h
   ·cases h; intro o ho; cases ho
   ·cases h
  ·split at h
   ·cases h; intro o ho; exact ho
   ·cases h
  ·cases h
 ·cases h
theorem pack_ids {m : Mem} : ∀ {t : Ty} {cs : List CV} {x : t.den} {r : List CV} {os : List Nat}, t.pack m cs = some (x, r, os) → (∀ o, o ∈ os → o ∈ cs.flatMap cv1) ∧ ∀ c, c ∈ r → c ∈ cs
 | .int k, .int k' n :: r, x, r', os, h => by
  simp only [Ty.pack] at h
  cases hk : IK.beq k' k with
  | false => rw [hk] at h; cases h
  | true => rw [hk] at h; cases h; exact ⟨fun _ ho => (by cases ho), fun c hc => List.mem_cons_of_mem _ hc⟩
 | .bool, .bool b :: r, x, r', os, h => by
  simp only [Ty.pack] at h
  cases h; exact ⟨fun _ ho => (by cases ho), fun c hc => List.mem_cons_of_mem _ hc⟩
 | .str, .str b :: r, x, r', os, h => by
  simp only [Ty.pack] at h
  cases h; exact ⟨fun _ ho => (by cases ho), fun c hc => List.mem_cons_of_mem _ hc⟩
 | .flt, .flt b :: r, x, r', os, h => by
  simp only [Ty.pack] at h
  cases h; exact ⟨fun _ ho => (by cases ho), fun c hc => List.mem_cons_of_mem _ hc⟩
 | .row t, c :: r, x, r', os, h => by
  simp only [Ty.pack] at h
  split at h
  ·rename_i ys os' hq
   cases h
   exact ⟨fun o ho => by rw [List.flatMap_cons]; exact List.mem_append.2 (.inl (rowOf_ids hq o ho)), fun c hc => List.mem_cons_of_mem _ hc⟩
  ·cases h
 | .st t, cs, x, r, os, h => pack_ids (t := t) (x := x) (show t.pack m cs = _ by cases cs <;> exact h)
 | .pair a b, cs, x, r, os, h => by
  have h' : (match a.pack m cs with
   | some (x, r, os) => match b.pack m r with
    | some (y, r', os') => some ((x, y), r', os ++ os')
    | none => none
   | none => none) = some (x, r, os) := by cases cs <;> exact h
  split at h'
  ·rename_i x1 r1 os1 hq1
   split at h'
   ·rename_i y1 r2 os2 hq2
    cases h'
    obtain ⟨a1, a2⟩ := pack_ids hq1
    obtain ⟨b1, b2⟩ := pack_ids hq2
    refine ⟨fun o ho => ?_, fun c hc => a2 c (b2 c hc)⟩
    rcases List.mem_append.1 ho with ho | ho
    ·exact a1 o ho
    ·obtain ⟨c, hc, hoc⟩ := List.mem_flatMap.1 (b1 o ho)
     exact List.mem_flatMap.2 ⟨c, a2 c hc, hoc⟩
   ·cases h'
  ·cases h'
theorem exOwn_ids {m : Mem} {E : Nat} {t : Ty} {c : CV} {xs : List t.den} {os : List Nat} (h : exCells.exOwn m E t c = some (xs, os)) : ∀ o, o ∈ os → o ∈ cv1 c := by
 unfold exCells.exOwn at h
 split at h
 ·cases h; intro o ho; cases ho
 ·split at h
  ·rename_i E' t' ys hg
   cases hq : Nat.beq E' E with
   | false => rw [hq] at h; cases h
   | true =>
    rw [hq] at h
    simp only [cond_true] at h
    split at h
    ·cases h; intro o ho; exact ho
    ·cases h
  ·cases h
 ·cases h
theorem exDeep_ids {m : Mem} {E : Nat} {d : DT} {c : CV} {xs : List d.ty.den} {os : List Nat} (h : exDeep m E d c = some (xs, os)) : ∀ o, o ∈ os → o ∈ cv1 c := by
 unfold exDeep at h
 split at h
 ·cases h; intro o ho; cases ho
 ·split at h
  ·rename_i E' d' ys fx hg
   cases hq : Nat.beq E' E with
   | false => rw [hq] at h; cases h
   | true =>
    rw [hq] at h
    simp only [cond_true] at h
    split at h
    ·cases h; intro o ho; exact ho
    ·cases h
  ·cases h
 ·cases h
theorem foldH_ids {m : Mem} {d : DT} : ∀ {hs : List (Int × Nat × Nat)} {xs ys : List d.ty.den} {js : List Nat}, foldH m d xs hs = some (ys, js) → js = hs.map fun p => p.2.2
 | [], _, _, _, h => by cases h; rfl
 | (i, off, j) :: r, xs, ys, js, h => by
  simp only [foldH] at h
  split at h
  ·split at h
   ·split at h
    ·rename_i zs os hf
     cases h
     rw [List.map_cons, foldH_ids hf]
    ·cases h
   ·cases h
  ·cases h
theorem exFold_ids {m : Mem} {E : Nat} {d : DT} {c : CV} {xs : List d.ty.den} {os : List Nat} (h : exFold m E d c = some (xs, os)) : ∀ o, o ∈ os → o ∈ cv2 m c := by
 unfold exFold at h
 split at h
 ·cases h; intro o ho; cases ho
 ·rename_i o
  split at h
  ·rename_i E' d' ys fx hs hg
   cases hq : Nat.beq E' E with
   | false => rw [hq] at h; cases h
   | true =>
    rw [hq] at h
    simp only [cond_true] at h
    split at h
    ·rename_i zs js hf
     split at h
     ·cases h
      intro o' ho'
      show o' ∈ [o] ++ [o].flatMap (boxIds m)
      rw [List.flatMap_cons, List.flatMap_nil, List.append_nil, boxIds, hg]
      rw [foldH_ids hf] at ho'
      exact ho'
     ·cases h
    ·cases h
  ·cases h
 ·cases h
theorem exCells_ids {m : Mem} : ∀ {cs : List CS} {l : List CV} {x : CS.dens cs} {fs os : List Nat}, exCells m cs l = some (x, fs, os) → ∀ o, o ∈ fs ++ os → o ∈ l.flatMap cv1
 | [], [], x, fs, os, h => by cases h; intro o ho; cases ho
 | .sc t :: r, l, x, fs, os, h => by
  have h' : (match t.pack m l with
   | some (x, l', fs) => match exCells m r l' with
    | some (y, fs', os) => some ((x, y), fs ++ fs', os)
    | none => none
   | none => none) = some (x, fs, os) := by cases l <;> exact h
  split at h'
  ·rename_i x1 l1 f1 hq1
   split at h'
   ·rename_i y1 f2 o2 hq2
    cases h'
    obtain ⟨a1, a2⟩ := pack_ids hq1
    have b1 := exCells_ids hq2
    intro o ho
    have hback : ∀ o, o ∈ l1.flatMap cv1 → o ∈ l.flatMap cv1 := fun o ho => by
     obtain ⟨c, hc, hoc⟩ := List.mem_flatMap.1 ho
     exact List.mem_flatMap.2 ⟨c, a2 c hc, hoc⟩
    rcases List.mem_append.1 ho with ho | ho
    ·rcases List.mem_append.1 ho with ho | ho
     ·exact a1 o ho
     ·exact hback o (b1 o (List.mem_append.2 (.inl ho)))
    ·exact hback o (b1 o (List.mem_append.2 (.inr ho)))
   ·cases h'
  ·cases h'
 | .own E t :: r, c :: l, x, fs, os, h => by
  simp only [exCells] at h
  split at h
  ·rename_i x1 o1 hq1
   split at h
   ·rename_i y1 f2 o2 hq2
    cases h
    have a1 := exOwn_ids hq1
    have b1 := exCells_ids hq2
    intro o ho
    rw [List.flatMap_cons]
    rcases List.mem_append.1 ho with ho | ho
    ·exact List.mem_append.2 (.inr (b1 o (List.mem_append.2 (.inl ho))))
    ·rcases List.mem_append.1 ho with ho | ho
     ·exact List.mem_append.2 (.inl (a1 o ho))
     ·exact List.mem_append.2 (.inr (b1 o (List.mem_append.2 (.inr ho))))
   ·cases h
  ·cases h
 | .deep E d :: r, c :: l, x, fs, os, h => by
  simp only [exCells] at h
  split at h
  ·rename_i x1 o1 hq1
   split at h
   ·rename_i y1 f2 o2 hq2
    cases h
    have a1 := exDeep_ids hq1
    have b1 := exCells_ids hq2
    intro o ho
    rw [List.flatMap_cons]
    rcases List.mem_append.1 ho with ho | ho
    ·exact List.mem_append.2 (.inr (b1 o (List.mem_append.2 (.inl ho))))
    ·rcases List.mem_append.1 ho with ho | ho
     ·exact List.mem_append.2 (.inl (a1 o ho))
     ·exact List.mem_append.2 (.inr (b1 o (List.mem_append.2 (.inr ho))))
   ·cases h
  ·cases h
theorem cv1_cv2 {m : Mem} {l : List CV} {o : Nat} (h : o ∈ l.flatMap cv1) : o ∈ l.flatMap (cv2 m) := by
 obtain ⟨c, hc, hoc⟩ := List.mem_flatMap.1 h
 exact List.mem_flatMap.2 ⟨c, hc, List.mem_append.2 (.inl hoc)⟩
theorem packV_ids {m : Mem} {t : Ty} {x : Vl} {y : t.den} {fs : List Nat} (h : packV m t x = some (y, fs)) : ∀ o, o ∈ fs → o ∈ x.cells.flatMap cv1 := by
 unfold packV at h
 cases hq : packV.Bool.beq' t.isSt x.isAgg with
 | false => rw [hq] at h; cases h
 | true =>
  rw [hq] at h
  simp only [cond_true] at h
  split at h
  ·rename_i y' fs' hp
   cases h
   exact (pack_ids hp).1
  ·cases h
theorem exV_ids {m : Mem} {v : VS} {l : Vl} {x : v.den} {fs os : List Nat} (h : exV m v l = some (x, fs, os)) : ∀ o, o ∈ fs ++ os → o ∈ l.cells.flatMap (cv2 m) := by
 cases v with
 | val t =>
  have h' : (match packV m t l with
   | some (y, fs) => some (y, fs, ([] : List Nat))
   | none => none) = some (x, fs, os) := by cases l <;> exact h
  split at h'
  ·rename_i y f hp
   cases h'
   intro o ho
   rw [List.append_nil] at ho
   exact cv1_cv2 (packV_ids hp o ho)
  ·cases h'
 | own E t =>
  cases l with
  | agg cs => cases h
  | one c =>
   simp only [exV] at h
   split at h
   ·rename_i y o hp
    cases h
    intro o ho
    exact cv1_cv2 (by simpa [Vl.cells] using exOwn_ids hp o ho)
   ·cases h
 | eat E t =>
  cases l with
  | agg cs => cases h
  | one c =>
   simp only [exV] at h
   split at h
   ·rename_i y o hp
    cases h
    intro o ho
    exact cv1_cv2 (by simpa [Vl.cells] using exOwn_ids hp o ho)
   ·cases h
 | box T cs off =>
  cases l with
  | agg cs' => cases h
  | one c =>
  cases c <;> first | (cases h; done) | skip
  rename_i b off2
  simp only [exV] at h
  cases hoff : Nat.beq off2 off with
  | false => rw [hoff] at h; cases h
  | true =>
   have := Nat.eq_of_beq_eq_true hoff
   subst this
   rw [hoff] at h
   simp only [cond_true] at h
   split at h
   ·rename_i T2 l hg
    cases hq : Nat.beq T2 T with
    | false => rw [hq] at h; cases h
    | true =>
     rw [hq] at h
     simp only [cond_true] at h
     split at h
     ·rename_i x1 f1 o1 hq1
      cases h
      have a1 := exCells_ids hq1
      have hbx : ∀ o, o ∈ l.flatMap cv1 → o ∈ (Vl.one (.pbox b 0)).cells.flatMap (cv2 m) := fun o ho => by
       simp only [Vl.cells, List.flatMap_cons, List.flatMap_nil, List.append_nil, cv2, cv1, boxIds, hg]
       exact List.mem_append.2 (.inr ho)
      intro o ho
      rcases List.mem_append.1 ho with ho | ho
      ·exact hbx o (a1 o (List.mem_append.2 (.inl ho)))
      ·rcases List.mem_cons.1 ho with rfl | ho
       ·simp [Vl.cells, cv2, cv1]
       ·exact hbx o (a1 o (List.mem_append.2 (.inr ho)))
     ·cases h
   ·cases h
 | mp =>
  cases l with
  | agg cs' => cases h
  | one c =>
  cases c <;> first | (cases h; done) | skip
  rename_i o
  simp only [exV] at h
  split at h
  ·rename_i es hg
   cases h
   intro o' ho
   exact cv1_cv2 (by simpa [Vl.cells, cv1] using ho)
  ·cases h
 | rc cs =>
  cases l with
  | one c => cases h
  | agg l => exact fun o ho => cv1_cv2 (exCells_ids h o ho)
 | deep E d fx =>
  cases l with
  | agg cs => cases h
  | one c =>
   simp only [exV] at h
   split at h
   ·rename_i y o hp
    cases h
    intro o ho
    simpa [Vl.cells] using exFold_ids hp o ho
   ·cases h
 | lent cs =>
  cases l with
  | one c => cases h
  | agg l => exact fun o ho => cv1_cv2 (exCells_ids h o ho)
theorem exVs_ids {m : Mem} : ∀ {vs : List VS} {l : List Vl} {x : VS.dens vs} {fs os : List Nat}, exVs m vs l = some (x, fs, os) → ∀ o, o ∈ fs ++ os → o ∈ (l.flatMap Vl.cells).flatMap (cv2 m)
 | [], [], x, fs, os, h => by cases h; intro o ho; cases ho
 | v :: r, c :: l, x, fs, os, h => by
  simp only [exVs] at h
  split at h
  ·rename_i x1 f1 o1 hq1
   split at h
   ·rename_i y1 f2 o2 hq2
    cases h
    have a1 := exV_ids hq1
    have b1 := exVs_ids hq2
    intro o ho
    rw [List.flatMap_cons, List.flatMap_append]
    have hl : o ∈ f1 ++ o1 ∨ o ∈ f2 ++ o2 := by
     rcases List.mem_append.1 ho with ho | ho
     ·exact (List.mem_append.1 ho).imp (fun h => List.mem_append.2 (.inl h)) (fun h => List.mem_append.2 (.inl h))
     ·exact (List.mem_append.1 ho).imp (fun h => List.mem_append.2 (.inr h)) (fun h => List.mem_append.2 (.inr h))
    exact List.mem_append.2 (hl.imp (a1 o) (b1 o))
   ·cases h
  ·cases h
/-! ### What stays in memory -/
theorem kill_keep {os : List Nat} {m : Mem} {b : Nat} (h : b ∉ os) : mget (kill m os) b = mget m b := by rw [kill_get, if_neg h]
theorem mkCells_keep : ∀ (cs : List CS) (x : CS.dens cs) (m : Mem) (n b : Nat), ¬ (n ≤ b ∧ b < n + cntC cs) → mget (mkCells cs x m n).2.1 b = mget m b
 | [], _, _, _, _, _ => rfl
 | .sc t :: r, x, m, n, b, h => mkCells_keep r x.2 m n b h
 | .own E t :: r, x, m, n, b, h => by
  have e0 : cntC (.own E t :: r) = cntC r + 1 := rfl
  show mget (mkCells r x.2 (mput m n (.row E t x.1)) (n + 1)).2.1 b = _
  rw [mkCells_keep r x.2 _ (n + 1) b (by omega), mget_mput, if_neg (by omega)]
 | .deep E d :: r, x, m, n, b, h => by
  have e0 : cntC (.deep E d :: r) = cntC r + 1 := rfl
  show mget (mkCells r x.2 (mput m n (.deep E d x.1 false [])) (n + 1)).2.1 b = _
  rw [mkCells_keep r x.2 _ (n + 1) b (by omega), mget_mput, if_neg (by omega)]
theorem mkV_keep : ∀ (v : VS) (x : v.den) (m : Mem) (n b : Nat), ¬ (n ≤ b ∧ b < n + cntV v) → mget (mkV v x m n).2.1 b = mget m b
 | .val _, _, _, _, _, _ => rfl
 | .own E t, x, m, n, b, h => by
  have e0 : cntV (.own E t) = 1 := rfl
  show mget (mput m n _) b = _
  rw [mget_mput, if_neg (by omega)]
 | .eat E t, x, m, n, b, h => by
  have e0 : cntV (.eat E t) = 1 := rfl
  show mget (mput m n _) b = _
  rw [mget_mput, if_neg (by omega)]
 | .box T cs off, x, m, n, b, h => by
  have e0 : cntV (.box T cs off) = cntC cs + 1 := rfl
  show mget (mput (mkCells cs x m (n + 1)).2.1 n _) b = _
  rw [mget_mput, if_neg (by omega), mkCells_keep cs x m (n + 1) b (by omega)]
 | .mp, x, m, n, b, h => by
  have e0 : cntV .mp = 1 := rfl
  show mget (mput m n _) b = _
  rw [mget_mput, if_neg (by omega)]
 | .rc cs, x, m, n, b, h => mkCells_keep cs x m n b h
 | .deep E d fx, x, m, n, b, h => by
  have e0 : cntV (.deep E d fx) = 1 := rfl
  show mget (mput m n _) b = _
  rw [mget_mput, if_neg (by omega)]
 | .lent cs, x, m, n, b, h => mkCells_keep cs x m n b h
theorem mkVs_keep : ∀ (vs : List VS) (x : VS.dens vs) (m : Mem) (n b : Nat), ¬ (n ≤ b ∧ b < n + cntVs vs) → mget (mkVs vs x m n).2.1 b = mget m b
 | [], _, _, _, _, _ => rfl
 | v :: r, x, m, n, b, h => by
  have e0 : cntVs (v :: r) = cntV v + cntVs r := rfl
  show mget (mkVs r x.2 (mkV v x.1 m n).2.1 (mkV v x.1 m n).2.2).2.1 b = _
  rw [mkVs_keep r x.2 _ _ b (by rw [mkV_cnt]; omega), mkV_keep v x.1 m n b (by omega)]
theorem putCells_keep {b : Nat} : ∀ {cs : List CS} {m : Mem} {l : List CV} {x : CS.dens cs} {m' : Mem}, putCells m cs l x = some m' → b ∉ l.flatMap cv1 → mget m' b = mget m b
 | [], m, [], x, m', h, _ => by cases h; rfl
 | .sc t :: r, m, l, x, m', h, h2 => by
  have h' : (bif Nat.ble t.sz l.length then putCells m r (l.drop t.sz) x.2 else none) = some m' := by cases l <;> exact h
  cases hb : Nat.ble t.sz l.length with
  | false => rw [hb] at h'; cases h'
  | true =>
   rw [hb] at h'
   refine putCells_keep (cs := r) (x := x.2) h' fun hh => h2 ?_
   obtain ⟨c, hc, hbc⟩ := List.mem_flatMap.1 hh
   exact List.mem_flatMap.2 ⟨c, List.mem_of_mem_drop hc, hbc⟩
 | .own E t :: r, m, c :: l, x, m', h, h2 => by
  have h3 : b ∉ l.flatMap cv1 := fun hh => h2 (by rw [List.flatMap_cons]; exact List.mem_append.2 (.inr hh))
  cases c <;> first | (cases h; done) | skip
  ·exact putCells_keep (cs := r) (x := x.2) h h3
  ·rename_i o
   have hne : b ≠ o := fun hh => h2 (by rw [hh]; simp [cv1])
   rw [putCells_keep (cs := r) (x := x.2) h h3, mget_mput, if_neg hne]
 | .deep E d :: r, m, c :: l, x, m', h, h2 => by
  have h3 : b ∉ l.flatMap cv1 := fun hh => h2 (by rw [List.flatMap_cons]; exact List.mem_append.2 (.inr hh))
  cases c <;> first | (cases h; done) | skip
  ·exact putCells_keep (cs := r) (x := x.2) h h3
  ·rename_i o
   have hne : b ≠ o := fun hh => h2 (by rw [hh]; simp [cv1])
   rw [putCells_keep (cs := r) (x := x.2) h h3, mget_mput, if_neg hne]
theorem putBacks_keep : ∀ {ps : List VS} {m : Mem} {n : Nat} {l : List Vl} {x : VS.dens (backs ps)} {m' : Mem} {n' : Nat}, putBacks m n ps l x = some (m', n') → ∀ b, ¬ (n ≤ b ∧ b < n') → b ∉ (l.flatMap Vl.cells).flatMap cv1 → mget m' b = mget m b
 | [], m, n, [], x, m', n', h, b, _, _ => by cases h; rfl
 | .val _ :: r, m, n, c :: l, x, m', n', h, b, h1, h2 => putBacks_keep (ps := r) (m := m) (n := n) (l := l) (x := x) (m' := m') (n' := n') (by cases c <;> exact h) b h1 (fun hh => h2 (by rw [List.flatMap_cons, List.flatMap_append]; exact List.mem_append.2 (.inr hh)))
 | .eat _ _ :: r, m, n, c :: l, x, m', n', h, b, h1, h2 => putBacks_keep (ps := r) (m := m) (n := n) (l := l) (x := x) (m' := m') (n' := n') (by cases c <;> exact h) b h1 (fun hh => h2 (by rw [List.flatMap_cons, List.flatMap_append]; exact List.mem_append.2 (.inr hh)))
 | .rc _ :: r, m, n, c :: l, x, m', n', h, b, h1, h2 => putBacks_keep (ps := r) (m := m) (n := n) (l := l) (x := x) (m' := m') (n' := n') (by cases c <;> exact h) b h1 (fun hh => h2 (by rw [List.flatMap_cons, List.flatMap_append]; exact List.mem_append.2 (.inr hh)))
 | .own E t :: r, m, n, .one c :: l, x, m', n', h, b, h1, h2 => by
  have h3 : b ∉ (l.flatMap Vl.cells).flatMap cv1 := fun hh => h2 (by rw [List.flatMap_cons, List.flatMap_append]; exact List.mem_append.2 (.inr hh))
  cases c <;> first | (cases h; done) | skip
  ·exact putBacks_keep (ps := r) (x := x.2) h b h1 h3
  ·rename_i o
   have hne : b ≠ o := fun hh => h2 (by rw [hh]; simp [Vl.cells, cv1])
   rw [putBacks_keep (ps := r) (x := x.2) h b h1 h3, mget_mput, if_neg hne]
 | .box T cs _ :: r, m, n, .one c :: l, x, m', n', h, b, h1, h2 => by
  have h3 : b ∉ (l.flatMap Vl.cells).flatMap cv1 := fun hh => h2 (by rw [List.flatMap_cons, List.flatMap_append]; exact List.mem_append.2 (.inr hh))
  cases c <;> first | (cases h; done) | skip
  rename_i o off
  have hne : b ≠ o := fun hh => h2 (by rw [hh]; simp [Vl.cells, cv1])
  have h' : putBacks (mput (mkCells cs x.1 m n).2.1 o (.box T (mkCells cs x.1 m n).1)) (mkCells cs x.1 m n).2.2 r l x.2 = some (m', n') := h
  have hcnt := putBacks_cnt h'
  rw [mkCells_cnt] at hcnt
  rw [putBacks_keep (ps := r) (x := x.2) h' b (by rw [mkCells_cnt]; omega) h3, mget_mput, if_neg hne, mkCells_keep cs x.1 m n b (by omega)]
 | .mp :: r, m, n, .one c :: l, x, m', n', h, b, h1, h2 => by
  have h3 : b ∉ (l.flatMap Vl.cells).flatMap cv1 := fun hh => h2 (by rw [List.flatMap_cons, List.flatMap_append]; exact List.mem_append.2 (.inr hh))
  cases c <;> first | (cases h; done) | skip
  rename_i o
  have hne : b ≠ o := fun hh => h2 (by rw [hh]; simp [Vl.cells, cv1])
  rw [putBacks_keep (ps := r) (x := x.2) h b h1 h3, mget_mput, if_neg hne]
 | .deep E d _ :: r, m, n, .one c :: l, x, m', n', h, b, h1, h2 => by
  have h3 : b ∉ (l.flatMap Vl.cells).flatMap cv1 := fun hh => h2 (by rw [List.flatMap_cons, List.flatMap_append]; exact List.mem_append.2 (.inr hh))
  cases c <;> first | (cases h; done) | skip
  ·exact putBacks_keep (ps := r) (x := x.2) h b h1 h3
  ·rename_i o
   have hne : b ≠ o := fun hh => h2 (by rw [hh]; simp [Vl.cells, cv1])
   rw [putBacks_keep (ps := r) (x := x.2) h b h1 h3, mget_mput, if_neg hne]
 | .lent cs :: r, m, n, .agg cells :: l, x, m', n', h, b, h1, h2 => by
  have h3 : b ∉ (l.flatMap Vl.cells).flatMap cv1 := fun hh => h2 (by rw [List.flatMap_cons, List.flatMap_append]; exact List.mem_append.2 (.inr hh))
  have h4 : b ∉ cells.flatMap cv1 := fun hh => h2 (by rw [List.flatMap_cons, List.flatMap_append]; exact List.mem_append.2 (.inl hh))
  simp only [putBacks] at h
  split at h
  ·rename_i m1 hm1
   rw [putBacks_keep (ps := r) (x := x.2) h b h1 h3, putCells_keep hm1 h4]
  ·cases h
theorem ids8 {id b : Nat} (h : b ∉ [id, id + 1, id + 2, id + 3, id + 4, id + 5, id + 6, id + 7]) : ¬ (id ≤ b ∧ b < id + 8) := by
 simp only [List.mem_cons, List.not_mem_nil, or_false, not_or] at h
 omega
theorem callL_keep {lim : Nat} {h : FH} {l : List Vl} {m : Mem} {id : Nat} {r : AV × Mem} (hr : (callL lim h l m id).run = some r) {b : Nat} (hid : ¬ (id ≤ b ∧ b < id + lim)) (hb : b ∉ (l.flatMap Vl.cells).flatMap (cv2 m)) : mget r.2 b = mget m b := by
 unfold callL at hr
 split at hr
 rotate_left
 ·cases hr
 rename_i x fs os hex
 have hids := exVs_ids hex
 obtain ⟨hq, hr⟩ := bif_some hr
 simp only [Tr.run] at hr
 obtain ⟨y, hy, hr⟩ := Option.bind_eq_some_iff.1 hr
 split at hr
 rotate_left
 ·cases hr
 rename_i m' n' hp
 have hr' : (bif Nat.ble (mkVs h.rs y.1 m' n').2.2 (id + lim) then Tr.ret (resAV (mkVs h.rs y.1 m' n').1, (mkVs h.rs y.1 m' n').2.1) else .fail).run = some r := hr
 obtain ⟨hn, hr'⟩ := bif_some hr'
 have hn := Nat.le_of_ble_eq_true hn
 rw [mkVs_cnt] at hn
 have hcnt := putBacks_cnt hp
 cases hr'
 have h1 : b ∉ fs := fun hh => hb (hids b (List.mem_append.2 (.inl hh)))
 have h2 : b ∉ os := fun hh => hb (hids b (List.mem_append.2 (.inr hh)))
 rw [mkVs_keep h.rs y.1 m' n' b (by omega), putBacks_keep hp b (by omega) (fun hh => hb (cv1_cv2 hh)), kill_keep h2]
 cases (h.rs.all flatVS && (backs h.ps).all flatVS) with
 | true => rfl
 | false => exact freeze_get h1
end Go.Ev
