/-
  The abstract evaluator: operations that leave memory as it was.
-/
import Derived.Test.YtgpjfmjceamonaaDoorEvD1
namespace Go.Ev
variable {e : Env} {H : Nat → Option FH} {s s2 : St}

theorem mem_reads {o : Op} {x : Operand} {b : Nat} (hx : x ∈ o.operands) (hb : b ∈ av1 (opd s x)) : b ∈ readsOf o s := List.mem_flatMap.2 ⟨x, by simpa using hx, hb⟩

theorem readAt_congr {m m2 : Mem} {n : Nat} {c : CV} (h : ∀ b, b ∈ cv1 c → mget m2 b = mget m b) : readAt m2 n c = readAt m n c := by
  cases c <;> first | rfl | skip
  · rename_i b off
    unfold readAt
    simp only [h b (by simp [cv1])]
  · rename_i o t i off
    unfold readAt
    simp only [h o (by simp [cv1])]

theorem opT_pure {o : Op} {id id2 : Nat} {r : AV × Mem} (hp : pureOp o = true) (hr : (opT e H o id s).run = some r) (h : ∀ x, x ∈ o.operands → opd s2 x = opd s x) (hm : ∀ b, b ∈ readsOf o s → mget s2.mem b = mget s.mem b) :
    (opT e H o id2 s2).run = some (r.1, s2.mem) ∧ r.2 = s.mem := by
  have hm' : ∀ x b, x ∈ o.operands → b ∈ av1 (opd s x) → mget s2.mem b = mget s.mem b := fun x b hx hb => hm b (mem_reads hx hb)
  clear hm
  cases o <;> first | (cases hp; done) | skip
  case move x =>
    have h1 := h x (by simp [Op.operands])
    simp only [opT, h1] at hr ⊢
    cases hr; exact ⟨rfl, rfl⟩
  case assign x =>
    have h1 := h x (by simp [Op.operands])
    simp only [opT, h1] at hr ⊢
    cases hr; exact ⟨rfl, rfl⟩
  case pick c x y =>
    have h1 := h c (by simp [Op.operands])
    have h2 := h x (by simp [Op.operands])
    have h3 := h y (by simp [Op.operands])
    simp only [opT, h1, h2, h3] at hr ⊢
    split at hr
    · rename_i t hc
      try simp only [hc]
      cases t <;> (cases hr; exact ⟨rfl, rfl⟩)
    · cases hr
  case build S ps =>
    have h1 : ∀ x, x ∈ ps.toList.map (·.2) → opd s2 x = opd s x := fun x hx => h x (by simp only [Op.operands]; rw [List.mem_toArray]; exact hx)
    simp only [opT, buildCells_congr (e := e) (S := S) h1, buildArr_congr h1] at hr ⊢
    split at hr
    · rename_i t ht
      try simp only [ht]
      cases hA : (e.arrs.any (Nat.beq S) && t.isSt) with
      | true =>
        rw [hA] at hr
        simp only [cond_true] at hr ⊢
        split at hr
        · rename_i cs hb
          try simp only [hb]
          cases hr; exact ⟨rfl, rfl⟩
        · cases hr
      | false =>
        rw [hA] at hr
        simp only [cond_false] at hr ⊢
        obtain ⟨hS, hr⟩ := bif_some hr
        try simp only [hS, cond_true]
        split at hr
        · rename_i cs hb
          try simp only [hb]
          cases hr; exact ⟨rfl, rfl⟩
        · cases hr
    · cases hr
  case load E x =>
    have h1 := h x (by simp [Op.operands])
    have h2 := fun b => hm' x b (by simp [Op.operands])
    simp only [opT, h1] at hr ⊢
    split at hr
    · rename_i g hx
      try simp only [hx]
      split at hr
      · rename_i tbl hg
        try simp only [hg]
        obtain ⟨hq, hr⟩ := bif_some hr
        try simp only [hq, cond_true]
        cases hr; exact ⟨rfl, rfl⟩
      · cases hr
    · rename_i c hc hx
      rw [hx] at h2
      try rw [hx]
      split at hr
      · rename_i t ht
        split at hr
        · rename_i cs hcs
          split at hr
          · rename_i v hv
            cases hr
            have hrd : readAt s2.mem t.sz c = some cs := by
              rw [← hcs]
              exact readAt_congr fun b hb => h2 b (by simpa [av1, Vl.cells] using hb)
            refine ⟨?_, rfl⟩
            cases c <;> first | (exact absurd rfl (hc _)) | (simp only [hrd, hv, Tr.run])
          · cases hr
        · cases hr
      · cases hr
    · cases hr
  case nilCheck x =>
    have h1 := h x (by simp [Op.operands])
    simp only [opT, h1] at hr ⊢
    split at hr
    · rename_i b off hx
      try simp only [hx]
      cases hr; exact ⟨rfl, rfl⟩
    · cases hr
  case binOp op T x y T' =>
    have h1 := h x (by simp [Op.operands])
    have h2 := h y (by simp [Op.operands])
    simp only [opT, h1, h2] at hr ⊢
    rw [Tr.run_bind] at hr ⊢
    obtain ⟨v, hv, hr⟩ := Option.bind_eq_some_iff.1 hr
    cases hr
    exact ⟨by rw [hv]; rfl, rfl⟩
  case unOp op T x =>
    have h1 := h x (by simp [Op.operands])
    simp only [opT, h1] at hr ⊢
    split at hr
    · rename_i v hv
      try simp only [hv]
      cases hr; exact ⟨rfl, rfl⟩
    · cases hr
  case convert S D x =>
    have h1 := h x (by simp [Op.operands])
    simp only [opT, h1] at hr ⊢
    obtain ⟨hS, hr⟩ := bif_some hr
    try simp only [hS, cond_true]
    split at hr
    · rename_i hD hx
      try simp only [hD, hx]
      cases hr; exact ⟨rfl, rfl⟩
    · rename_i hD hx
      try simp only [hD, hx]
      cases hr; exact ⟨rfl, rfl⟩
    · rename_i hD hx
      try simp only [hD, hx]
      cases hr; exact ⟨rfl, rfl⟩
    · cases hr
  case makeFunc fn first caps =>
    cases fn <;> first | (cases hr; done) | skip
    rename_i f
    have h1 := avs_congr (s2 := s2) (s := s) (xs := caps.toList) fun x hx => h x (by simp [Op.operands]; exact .inr (by simpa using hx))
    simp only [opT, h1] at hr ⊢
    obtain ⟨hS, hr⟩ := bif_some hr
    try simp only [hS, cond_true]
    split at hr
    · rename_i l hl
      try simp only [hl]
      split at hr
      · rename_i bs hb
        try simp only [hb]
        cases hr; exact ⟨rfl, rfl⟩
      · cases hr
    · cases hr
  case lookup M m k ok =>
    have h1 := h m (by simp [Op.operands])
    have h2 := h k (by simp [Op.operands])
    simp only [opT, h1, h2] at hr ⊢
    obtain ⟨hS, hr⟩ := bif_some hr
    try simp only [hS, cond_true]
    split at hr
    · rename_i g n hx hy
      try simp only [hx, hy]
      split at hr
      · rename_i tbl hg
        try simp only [hg]
        cases ok <;> (cases hr; exact ⟨rfl, rfl⟩)
      · cases hr
    · cases hr
  case fieldAddr S x f =>
    have h1 := h x (by simp [Op.operands])
    simp only [opT, h1] at hr ⊢
    split at hr
    · rename_i c off n ag hx hf
      try simp only [hx, hf]
      split at hr
      · rename_i c' hc
        try simp only [hc]
        cases hr; exact ⟨rfl, rfl⟩
      · cases hr
    · cases hr
  case field S x f =>
    have h1 := h x (by simp [Op.operands])
    simp only [opT, h1] at hr ⊢
    split at hr
    · rename_i cs off n ag hx hf
      try simp only [hx, hf]
      split at hr
      · rename_i l hl
        try simp only [hl]
        split at hr
        · rename_i v hv
          try simp only [hv]
          cases hr; exact ⟨rfl, rfl⟩
        · cases hr
      · cases hr
    · cases hr
  case indexAddr R x i =>
    have h1 := h x (by simp [Op.operands])
    have h2 := h i (by simp [Op.operands])
    have h3 := fun b => hm' x b (by simp [Op.operands])
    simp only [opT, h1, h2] at hr ⊢
    split at hr
    · rename_i t' ht'
      try rw [ht']
      split at hr
      · rename_i b k n hx hi
        rw [hx] at h3
        try rw [hx]
        try simp only [hi]
        have h4 := h3 b (by simp [av1, Vl.cells, cv1])
        try simp only [h4]
        split at hr
        · rename_i E' t xs hb
          obtain ⟨hq, hr⟩ := bif_some hr
          obtain ⟨hn, hr⟩ := need_some hr
          try simp only [hq, cond_true, Tr.need, hn, Tr.run]
          cases hr; exact ⟨rfl, rfl⟩
        · rename_i t xs hb
          obtain ⟨hq, hr⟩ := bif_some hr
          obtain ⟨hn, hr⟩ := need_some hr
          try simp only [hq, cond_true, Tr.need, hn, Tr.run]
          cases hr; exact ⟨rfl, rfl⟩
        · cases hr
      · rename_i t xs k n hx hi
        try simp only [hx, hi]
        obtain ⟨hq, hr⟩ := bif_some hr
        obtain ⟨hn, hr⟩ := need_some hr
        try simp only [hq, cond_true, Tr.need, hn, Tr.run]
        cases hr; exact ⟨rfl, rfl⟩
      · cases hr
    · rename_i ht'
      try rw [ht']
      obtain ⟨hA, hr⟩ := bif_some hr
      try simp only [hA, cond_true]
      split at hr
      · rename_i b off k n hx hi
        try simp only [hx, hi]
        simp only [Tr.run] at hr ⊢
        cases hc0 : (n == 0) <;> cases hc1 : (n == 1) <;> cases hc2 : (n == 2) <;> cases hc3 : (n == 3) <;> rw [hc0, hc1, hc2, hc3] at hr <;> first | (cases hr; done) | (cases hr; exact ⟨rfl, rfl⟩)
      · cases hr
  case index R x i =>
    have h1 := h x (by simp [Op.operands])
    have h2 := h i (by simp [Op.operands])
    simp only [opT, h1, h2] at hr ⊢
    obtain ⟨hS, hr⟩ := bif_some hr
    try simp only [hS, cond_true]
    split at hr
    · rename_i cs k n hx hi
      try simp only [hx, hi]
      split at hr
      · rename_i l hl
        obtain ⟨hq, hr⟩ := bif_some hr
        obtain ⟨hn, hr⟩ := need_some hr
        try simp only [hq, cond_true, Tr.need, hn, Tr.run]
        cases hr; exact ⟨rfl, rfl⟩
      · cases hr
    · cases hr
  case extract x i =>
    have h1 := h x (by simp [Op.operands])
    simp only [opT, h1] at hr ⊢
    split at hr
    · rename_i l hx
      try simp only [hx]
      split at hr
      · rename_i v hv
        try simp only [hv]
        cases hr; exact ⟨rfl, rfl⟩
      · cases hr
    · cases hr
  case call c =>
    obtain ⟨cl, args, tys⟩ := c
    cases cl with
    | value f => cases hp
    | invoke _ _ => cases hp
    | builtin b =>
      simp only [opT] at hr ⊢
      have h1 : ∀ x, x ∈ args.toList → opd s2 x = opd s x := fun x hx => h x (by simp [Op.operands, Call.operands]; simpa using hx)
      have h2 : ∀ x b, x ∈ args.toList → b ∈ av1 (opd s x) → mget s2.mem b = mget s.mem b := fun x b hx hb => hm' x b (by simp [Op.operands, Call.operands]; simpa using hx) hb
      generalize args.toList = l at h1 h2 hr ⊢
      generalize tys.toList = ts at hr ⊢
      cases b <;> first | (cases hp; done) | skip
      · -- len
        match l, ts with
        | [x], [T] =>
          have q1 := h1 x (by simp)
          have q2 := fun b => h2 x b (by simp)
          simp only [builtinT, q1] at hr ⊢
          split at hr
          · rename_i t ht
            try simp only [ht]
            split at hr
            · rename_i b hx
              try simp only [hx]
              cases hr; exact ⟨rfl, rfl⟩
            · rename_i t' hx
              try simp only [hx]
              cases hr; exact ⟨rfl, rfl⟩
            · rename_i t' t2 xs hx
              try simp only [hx]
              cases hr; exact ⟨rfl, rfl⟩
            · rename_i t' b hx
              rw [hx] at q2
              try rw [hx]
              have q3 := q2 b (by simp [av1, Vl.cells, cv1])
              simp only [q3]
              split at hr
              · rename_i E t2 xs hb
                try simp only [hb]
                cases hr; exact ⟨rfl, rfl⟩
              · rename_i t2 xs hb
                try simp only [hb]
                cases hr; exact ⟨rfl, rfl⟩
              · cases hr
            · cases hr
          · cases hr
        | [], _ => cases hr
        | [_], [] => cases hr
        | [_], _ :: _ :: _ => cases hr
        | _ :: _ :: _, _ => cases hr
      · -- min
        match l with
        | [x, y] =>
          have q1 := h1 x (by simp)
          have q2 := h1 y (by simp)
          simp only [builtinT, q1, q2] at hr ⊢
          split at hr
          · rename_i k n k' m hx hy
            try simp only [hx, hy]
            obtain ⟨hq, hr⟩ := bif_some hr
            try simp only [hq, cond_true]
            cases hr; exact ⟨rfl, rfl⟩
          · cases hr
        | [] => cases hr
        | [_] => cases hr
        | _ :: _ :: _ :: _ => cases hr

end Go.Ev
