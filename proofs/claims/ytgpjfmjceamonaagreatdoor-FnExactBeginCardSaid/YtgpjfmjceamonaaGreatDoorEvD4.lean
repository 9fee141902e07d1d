/-
 The abstract evaluator: what an operation may change in memory (second part).
-/
import Derived.Test.YtgpjfmjceamonaaGreatDoorEvD1
namespace Go.Ev
variable {e:Env} {H:Nat→Option FH} {s:St}
theorem packAll_ids {m:aX} {t:Ty}:∀ {l:List Vl} {xs:List t.den} {os:List Nat},lA m t l=some (xs,os)→∀ o,o∈os→o∈(l.flatMap Vl.cells).flatMap dV
 | [],xs,os,h=>by cases h;intro o ho;cases ho
 | x ::r,xs,os,h=>by
  unfold lA at h
  split at h
  ·rename_i y f1 h1
   split at h
   ·rename_i ys f2 h2
    cases h
    intro o ho
    rw [List.flatMap_cons,List.flatMap_append]
    rcases List.mem_append.1 ho with ho | ho
    ·exact List.mem_append.2 (.inl (packV_ids h1 o ho))
    ·exact List.mem_append.2 (.inr (packAll_ids h2 o ho))
   ·cases h
  ·cases h
theorem vals_ids {m:aX}:∀ {ps:List (Nat×Operand)} {k:Nat} {l:List Vl} {b:Nat},vals s ps k=some l→b∈(l.flatMap Vl.cells).flatMap (cv2 m)→b∈(ps.map (·.2)).flatMap fun x=>av2 m (bC s x)
 | [],k,l,b,h,hb=>by cases h;cases hb
 | (i,x) ::r,k,l,b,h,hb=>by
  unfold vals at h
  cases hq:Nat.beq i k with
  | false=>rw [hq] at h;cases h
  | true=>
   rw [hq] at h
   simp only [cond_true] at h
   split at h
   ·rename_i v hv
    split at h
    ·rename_i l' hl'
     cases h
     rw [List.flatMap_cons,List.flatMap_append] at hb
     rw [List.map_cons,List.flatMap_cons]
     rcases List.mem_append.1 hb with hb | hb
     ·exact List.mem_append.2 (.inl (by rw [hv];exact hb))
     ·exact List.mem_append.2 (.inr (vals_ids hl' hb))
    ·cases h
   ·cases h
theorem avs_ids {m:aX}:∀ {xs:List Operand} {l:List Vl} {b:Nat},avs s xs=some l→b∈(l.flatMap Vl.cells).flatMap (cv2 m)→b∈xs.flatMap fun x=>av2 m (bC s x)
 | [],l,b,h,hb=>by cases h;cases hb
 | x ::r,l,b,h,hb=>by
  unfold avs at h
  split at h
  ·rename_i v hv
   split at h
   ·rename_i l' hl'
    cases h
    rw [List.flatMap_cons,List.flatMap_append] at hb
    rw [List.flatMap_cons]
    rcases List.mem_append.1 hb with hb | hb
    ·exact List.mem_append.2 (.inl (by rw [hv];exact hb))
    ·exact List.mem_append.2 (.inr (avs_ids hl' hb))
   ·cases h
  ·cases h
theorem lR {m:aX} {c:CV} {b:Nat} (h:b∈dV c):b∈av2 m (.v (.one c)):=by
 show b∈[c].flatMap (cv2 m)
 exact dF (by simpa using h)
theorem writeAt_keep {m m':aX} {cs:List CV} {c:CV} (h:writeAt m cs c=some m') {b:Nat} (h1:b∉dV c) (h2:b∉cs.flatMap dV):aF m' b=aF m b:=by
 unfold writeAt at h
 split at h
 ·rename_i o off
  have hne:b≠o:=fun hh=>h1 (by simp [dV,hh])
  split at h
  ·rename_i T l hg
   cases hq:Nat.ble (off+cs.length) l.length with
   | false=>rw [hq] at h;cases h
   | true=>
    rw [hq] at h
    cases h
    rw [aG,if_neg hne]
  ·cases h
 ·rename_i o t i off
  have hne:b≠o:=fun hh=>h1 (by simp [dV,hh])
  split at h
  ·rename_i E t' xs hg
   split at h
   ·rename_i ys hcast
    cases hq:Nat.ble (off+cs.length) t.sz with
    | false=>rw [hq] at h;cases h
    | true=>
     rw [hq] at h
     simp only [cond_true] at h
     split at h
     ·rename_i x os hp
      cases ho:os.any (Nat.beq o) with
      | true=>rw [ho] at h;cases h
      | false=>
       rw [ho] at h
       cases h
       rw [aG,if_neg hne]
       refine fH fun hh=>?_
       have:=(kI hp).1 b hh
       obtain ⟨c,hc,hbc⟩:=List.mem_flatMap.1 this
       unfold iQ at hc
       rcases List.mem_append.1 hc with hc | hc
       ·rcases List.mem_append.1 hc with hc | hc
        ·exact cells_cv1 (List.mem_of_mem_take hc) hbc
        ·exact h2 (List.mem_flatMap.2 ⟨c,hc,hbc⟩)
       ·exact cells_cv1 (List.mem_of_mem_drop hc) hbc
     ·cases h
   ·cases h
  ·cases h
 ·cases h
where
 cells_cv1:∀ {t:Ty} {x:t.den} {c:CV} {b:Nat},c∈t.cells x→b∈dV c→False
  | .int _,_,c,b,h,hb=>by rw [List.mem_singleton.1 h] at hb;cases hb
  | .bool,_,c,b,h,hb=>by rw [List.mem_singleton.1 h] at hb;cases hb
  | .str,_,c,b,h,hb=>by rw [List.mem_singleton.1 h] at hb;cases hb
  | .flt,_,c,b,h,hb=>by rw [List.mem_singleton.1 h] at hb;cases hb
  | .np,_,c,b,h,hb=>by rw [List.mem_singleton.1 h] at hb;cases hb
  | .nf,_,c,b,h,hb=>by rw [List.mem_singleton.1 h] at hb;cases hb
  | .row _,_,c,b,h,hb=>by rw [List.mem_singleton.1 h] at hb;cases hb
  | .st t,x,c,b,h,hb=>cells_cv1 (t:=t) (x:=x) h hb
  | .pair a b',x,c,b,h,hb=>by
   rcases List.mem_append.1 (show c∈a.cells x.1 ++b'.cells x.2 from h) with h | h
   ·exact cells_cv1 h hb
   ·exact cells_cv1 h hb
theorem builtinT_keep {b:Builtin} {args:List Operand} {tys:List Nat} {id:Nat} {r:AV×aX} (hr:(eI e b args tys s id).run=some r) {k:Nat} (hid:¬ (id≤k∧k < id+8)) (hk:k∉args.flatMap fun x=>av2 s.mem (bC s x)):aF r.2 k=aF s.mem k:=by
 unfold eI at hr
 split at hr
 ·split at hr
  ·split at hr
   ·split at hr
    ·cases hr;rfl
    ·cases hr;rfl
    ·cases hr;rfl
    ·split at hr
     ·cases hr;rfl
     ·cases hr;rfl
     ·cases hr
    ·cases hr
   ·cases hr
  ·cases hr
 ·split at hr
  ·obtain ⟨_,hr⟩:=aD hr
   cases hr;rfl
  ·cases hr
 ·rename_i x y
  split at hr
  ·rename_i T T'
   obtain ⟨_,hr⟩:=aD hr
   split at hr
   ·split at hr
    ·rename_i inf hE
     split at hr
     ·rename_i ca cb ha hb
      split at hr
      ·rename_i xs os ys os' hx hy
       cases hq:(os.any fun o=>os'.any (Nat.beq o)) || !(fresh s.mem id 1) with
       | true=>rw [hq] at hr;cases hr
       | false=>
        rw [hq] at hr
        obtain ⟨_,hr⟩:=bG hr
        cases hr
        rw [aG,if_neg (by omega)]
        refine gG fun hh=>hk ?_
        rw [List.flatMap_cons,ha]
        exact List.mem_append.2 (.inl (lR (kP hx k hh)))
      ·cases hr
     ·cases hr
    ·cases hr
   ·cases hr
  ·cases hr
 ·cases hr
theorem opT0_keep {o:Op} {id:Nat} {r:AV×aX} (hp:aV o=false) (hr:(bA e H o id s).run=some r) {k:Nat} (hk:k∉cA o s id):aF r.2 k=aF s.mem k:=by
 unfold cA at hk
 rw [List.mem_append,not_or] at hk
 obtain ⟨hk1,hk2⟩:=hk
 have hid:=ids8 hk1
 clear hk1
 have hop:∀ x,x∈o.operands→k∉av2 s.mem (bC s x):=fun x hx hh=>hk2 (List.mem_flatMap.2 ⟨x,by simpa using hx,hh⟩)
 cases o<;>first | (cases hp;done) | (cases hr;done) | skip
 case alloc E=>
  simp only [bA] at hr
  split at hr
  ·obtain ⟨_,hr⟩:=aD hr
   cases hr
   rw [aG,if_neg (by omega)]
  ·cases hr
 case box E x=>
  simp only [bA] at hr
  split at hr
  ·obtain ⟨_,hr⟩:=aD hr
   cases hr
   rw [aG,if_neg (by omega)]
  ·cases hr
 case buildSlice R n ps=>
  simp only [bA] at hr
  split at hr
  ·split at hr
   ·split at hr
    ·rename_i l hl
     obtain ⟨_,hr⟩:=aD hr
     split at hr
     ·rename_i xs os hpk
      cases hr
      rw [aG,if_neg (by omega)]
      refine fH fun hh=>hk2 ?_
      have:=vals_ids (m:=s.mem) hl (dF (packAll_ids hpk k hh))
      simpa [Op.operands] using this
     ·cases hr
    ·cases hr
   ·cases hr
  ·cases hr
 case store E x y=>
  simp only [bA] at hr
  have h1:=hop x (by simp [Op.operands])
  have h2:=hop y (by simp [Op.operands])
  split at hr
  ·rename_i c v t hx hy ht
   obtain ⟨_,hr⟩:=aD hr
   split at hr
   ·rename_i m hw
    cases hr
    rw [hx] at h1
    rw [hy] at h2
    exact writeAt_keep hw (fun hh=>h1 (lR hh)) (fun hh=>h2 (dF hh))
   ·cases hr
  ·cases hr
 case makeMap M res=>
  cases res with
  | some _=>cases hr
  | none=>
   simp only [bA] at hr
   obtain ⟨_,hr⟩:=aD hr
   cases hr
   rw [aG,if_neg (by omega)]
 case mapUpdate M m kk x=>
  simp only [bA] at hr
  have h1:=hop m (by simp [Op.operands])
  obtain ⟨_,hr⟩:=aD hr
  split at hr
  ·rename_i b n v hm hkk hx
   split at hr
   ·cases hr
    rw [hm] at h1
    rw [aG,if_neg (fun hh=>h1 (lR (by simp [dV,hh])))]
   ·cases hr
  ·cases hr
 case makeSlice R l c=>
  simp only [bA] at hr
  obtain ⟨_,hr⟩:=aD hr
  split at hr
  ·split at hr
   ·split at hr
    ·obtain ⟨_,hr⟩:=aD hr
     obtain ⟨_,hr⟩:=bG hr
     cases hr
     rw [aG,if_neg (by omega)]
    ·cases hr
   ·cases hr
  ·cases hr
 case slice R x lo hi mx=>
  cases lo with
  | some _=>cases hr
  | none=>
  cases hi with
  | none=>cases hr
  | some hh=>
  cases mx with
  | some _=>cases hr
  | none=>
   simp only [bA] at hr
   have h1:=hop x (by simp [Op.operands])
   obtain ⟨_,hr⟩:=aD hr
   split at hr
   ·rename_i b n hx hn
    split at hr
    ·obtain ⟨_,hr⟩:=aD hr
     obtain ⟨_,hr⟩:=bG hr
     cases hr
     rw [hx] at h1
     rw [aG,if_neg (by omega)]
     exact gG fun hh=>h1 (lR (by simpa [dV] using hh))
    ·cases hr
   ·cases hr
 case call c=>
  obtain ⟨cl,args,tys⟩:=c
  cases cl with
  | invoke _ _=>cases hr
  | builtin b=>
   simp only [bA] at hr
   exact builtinT_keep hr hid fun hh=>hk2 (by simpa [Op.operands,Call.operands] using hh)
  | value f=>
   simp only [bA] at hr
   split at hr
   ·rename_i g caps l hf hl
    split at hr
    ·refine callL_keep hr hid fun hh=>hk2 ?_
     rw [List.flatMap_append,List.flatMap_append] at hh
     have hops:(Op.call { callee:= .value f,args:=args,argTypes:=tys }).operands.toList=f ::args.toList:=by simp [Op.operands,Call.operands]
     rw [hops,List.flatMap_cons]
     rcases List.mem_append.1 hh with hh | hh
     ·exact List.mem_append.2 (.inr (avs_ids hl hh))
     ·refine List.mem_append.2 (.inl ?_)
      rw [hf]
      show k∈[CV.clo g caps].flatMap (cv2 s.mem)
      obtain ⟨c,hc,hkc⟩:=List.mem_flatMap.1 hh
      obtain ⟨v,hv,hcv⟩:=List.mem_flatMap.1 hc
      obtain ⟨b,hb,rfl⟩:=List.mem_map.1 hv
      have:c= .pbox b 0:=List.mem_singleton.1 hcv
      subst this
      rw [List.flatMap_cons,List.flatMap_nil,List.append_nil]
      show k∈caps ++caps.flatMap (dA s.mem)
      have hkc':k∈[b] ++[b].flatMap (dA s.mem):=hkc
      rcases List.mem_append.1 hkc' with h | h
      ·rw [List.mem_singleton.1 h]
       exact List.mem_append.2 (.inl hb)
      ·obtain ⟨b',hb',h'⟩:=List.mem_flatMap.1 h
       rw [List.mem_singleton.1 hb'] at h'
       exact List.mem_append.2 (.inr (List.mem_flatMap.2 ⟨b,hb,h'⟩))
    ·cases hr
   ·cases hr
end Go.Ev
