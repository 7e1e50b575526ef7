/- The abstract layer, part 9: an operation that computes or reads yields what dval says. -/
import Derived.Test.YtbbncbojkkackaaAxH
set_option linter.unusedSimpArgs false
namespace Go.Ax
section
variable {P : Program} {tab : Tab} {M : Mem} {ρ : Nat → Option Nat} {w : World}

theorem bRel_map {e : Operand → AV} {ε : Operand → Value} (he : ∀ x, RpA M ρ (e x) (ε x)) (o : Option Operand) : BRel M ρ (o.map e) (o.map ε) := by
  cases o with
  | none => exact .inl ⟨rfl, rfl⟩
  | some x => exact .inr ⟨_, _, rfl, rfl, he x⟩

theorem bind_run {α β : Type} {x : Sem α} {f : α → Sem β} {a : α} {w' : World} (h : x.run P w = .ok a w') : (x >>= f).run P w = (f a).run P w' := by
  rw [Sem.run_bind, h]; rfl

theorem dval_sound (hA : Agree M w) {bx : List (Nat × List AV)} (hB : BoxesOK M ρ w bx) (hT : TabOK P tab) {e : Operand → AV} {ε : Operand → Value} (he : ∀ x, RpA M ρ (e x) (ε x)) (hc : ∀ v, ε (.const v) = v) {o : Oper} {v : AV}
    (h : dval tab o e bx = some v) : ∃ u, (execOp ε o).run P w = .ok (.value u) w ∧ RpA M ρ v u := by
  have lift : ∀ {s : Sem Value} {r : AV}, (∃ u, s.run P w = .ok u w ∧ RpA M ρ r u) → ∃ u, (do pure (Next.value (← s)) : Sem Next).run P w = .ok (.value u) w ∧ RpA M ρ r u := by
    rintro s r ⟨u, hu, hr⟩
    exact ⟨u, by rw [bind_run hu]; rfl, hr⟩
  obtain ⟨dst, op, type, pos, after, guard⟩ := o
  unfold dval at h
  simp only at h
  split at h
  · injection h with h; subst h
    exact ⟨_, rfl, evT_ok he hc _ _⟩
  · injection h with h; subst h
    exact ⟨_, rfl, evT_ok he hc _ _⟩
  · rename_i c a b
    split at h
    · rename_i hcv
      injection h with h; subst h
      have := he c
      rw [hcv] at this
      have hcε := this.lit_inv
      exact ⟨_, by simp [execOp, hcε, asBool], he a⟩
    · rename_i hcv
      injection h with h; subst h
      have := he c
      rw [hcv] at this
      have hcε := this.lit_inv
      exact ⟨_, by simp [execOp, hcε, asBool], he b⟩
    · cases h
  · rename_i t a
    split at h
    · rename_i i ht
      exact lift (run_loadAt hA hB (hT t i ht) (he a) h)
    · cases h
  · rename_i x
    split at h
    · rename_i b off hx
      injection h with h; subst h
      have := he x
      rw [hx] at this
      generalize hv : ε x = v at this
      cases this with
      | box _ _ b hb => exact ⟨_, by simp only [execOp, hv]; rfl, .box _ _ _ hb⟩
    · rename_i cs hx
      injection h with h; subst h
      have := he x
      rw [hx] at this
      generalize hv : ε x = v at this
      cases this with
      | ro _ b off F hm hr => exact ⟨_, by simp only [execOp, hv]; rfl, .ro _ _ _ F hm hr⟩
    · cases h
  · exact lift (run_binA hT _ _ (he _) (he _) h)
  · exact lift (run_unA (he _) h)
  · exact lift (run_convA hA hT (he _) h)
  · exact lift (addA_fieldAt hT (he _) h)
  · exact lift (run_fieldA hT (he _) h)
  · exact lift (run_idx hT (he _) (he _) h)
  · exact lift (run_strIdx hT (he _) (he _) h)
  · exact lift (run_sliceA hT (he _) (bRel_map he _) (bRel_map he _) (bRel_map he _) h)
  · rename_i x k
    split at h
    · rename_i vs hx
      rw [Option.map_eq_some_iff] at h
      obtain ⟨c, hc', rfl⟩ := h
      have := he x
      rw [hx] at this
      generalize hv : ε x = v at this
      cases this with
      | pv _ _ this =>
        cases this with
        | tup _ us hl hr =>
          have hlt : k < us.length := by rw [hl]; exact (List.getElem?_eq_some_iff.1 hc').1
          refine ⟨us[k], ?_, .pv _ _ (hr k c _ hc' (List.getElem?_eq_getElem hlt))⟩
          simp [execOp, hv, Instr.extract, hlt]
    · cases h
  · rename_i f first caps
    split at h
    · rename_i hf
      injection h with h; subst h
      have hf' : first = #[] := Array.toList_eq_nil_iff.1 hf
      subst hf'
      refine ⟨.func (.func f) #[] (caps.map ε), by simp [execOp, Instr.makeFunc], ?_⟩
      have e1 : caps.map ε = (caps.toList.map ε).toArray := Array.ext' (by rw [Array.toList_map])
      rw [e1]
      refine .fn f _ _ (by rw [List.length_map, List.length_map]) ?_
      intro i c u hc' hu
      simp only [List.getElem?_map, Option.map_eq_some_iff] at hc' hu
      obtain ⟨x, hx, rfl⟩ := hc'
      obtain ⟨x', hx', rfl⟩ := hu
      obtain rfl : x = x' := by rw [hx] at hx'; injection hx'
      exact he x
    · cases h
  · exact lift (run_buildA hT he hc h)
  · rename_i args argTypes
    split at h
    · rename_i x t hx ht
      have hx' : args = #[x] := by rw [← Array.toArray_toList (xs := args), hx]
      have ht' : argTypes = #[t] := by rw [← Array.toArray_toList (xs := argTypes), ht]
      subst hx'; subst ht'
      obtain ⟨u, hu, hR⟩ := run_lenA (P := P) (w := w) (ty := type) hT (he x) h
      exact ⟨u, by simp [execOp, resolve, invoke, builtin, hu], hR⟩
    · cases h
  · rename_i args argTypes
    split at h
    · rename_i x y hx
      have hx' : args = #[x, y] := by rw [← Array.toArray_toList (xs := args), hx]
      subst hx'
      split at h
      · rename_i k a k' b ha hb
        split at h
        · rename_i hk
          subst hk
          injection h with h; subst h
          have h1 := he x; rw [ha] at h1
          have h2 := he y; rw [hb] at h2
          have e1 := h1.lit_inv
          have e2 := h2.lit_inv
          refine ⟨.int k (max a b), ?_, .pv _ _ (.lit _ rfl)⟩
          simp only [execOp, resolve, invoke, builtin, Sem.run_bind, Sem.run_pure, Result.andThen_ok, List.map_toArray, List.map_cons, List.map_nil, e1, e2, Builtin.max_, List.foldlM_cons, List.foldlM_nil, Builtin.max2]
          congr 3
          simp only [Int.max_def]
          split <;> split <;> omega
        · cases h
      · cases h
    · cases h
  · rename_i args argTypes
    split at h
    · rename_i x y hx
      have hx' : args = #[x, y] := by rw [← Array.toArray_toList (xs := args), hx]
      subst hx'
      split at h
      · rename_i k a k' b ha hb
        split at h
        · rename_i hk
          subst hk
          injection h with h; subst h
          have h1 := he x; rw [ha] at h1
          have h2 := he y; rw [hb] at h2
          have e1 := h1.lit_inv
          have e2 := h2.lit_inv
          refine ⟨.int k (min a b), ?_, .pv _ _ (.lit _ rfl)⟩
          simp only [execOp, resolve, invoke, builtin, Sem.run_bind, Sem.run_pure, Result.andThen_ok, List.map_toArray, List.map_cons, List.map_nil, e1, e2, Builtin.min_, List.foldlM_cons, List.foldlM_nil, Builtin.min2]
          congr 3
          simp only [Int.min_def]
          split <;> split <;> omega
        · cases h
      · cases h
    · cases h
  · cases h

/-- dval looks at the operands alone. -/
theorem evT_congr {e e' : Operand → AV} {t : TypeId} {x : Operand} (h : e x = e' x) : evT tab e t x = evT tab e' t x := by
  unfold evT
  split
  · rw [h]
  · exact h

theorem dval_congr {e e' : Operand → AV} {bx : List (Nat × List AV)} (o : Oper) (h : ∀ x ∈ o.op.operands, e x = e' x) : dval tab o e bx = dval tab o e' bx := by
  obtain ⟨dst, op, type, pos, after, guard⟩ := o
  unfold dval
  simp only at h ⊢
  cases op <;> (try simp only [Op.operands, List.mem_cons, Array.mem_def] at h) <;> (try simp only []) <;> (try rfl)
  case move x => rw [evT_congr (h x (by simp))]
  case assign x => rw [evT_congr (h x (by simp))]
  case pick c a b => rw [h c (by simp), h a (by simp), h b (by simp)]
  case build t ps =>
    unfold buildA
    have : List.map (evF tab (match tab t with | some { td := .struct fs, .. } => fs | _ => []) e) ps.toList = List.map (evF tab (match tab t with | some { td := .struct fs, .. } => fs | _ => []) e') ps.toList := by
      apply List.map_congr_left
      intro p hp
      have hpe : e p.2 = e' p.2 := h p.2 (by simp; exact ⟨p.1, by simpa using hp⟩)
      simp only [evF]
      congr 1
      split
      · exact evT_congr hpe
      · exact hpe
    split
    · rename_i ht
      simp only [ht] at this
      rw [this]
    · rfl
  case load t a => rw [h a (by simp)]
  case nilCheck x => rw [h x (by simp)]
  case binOp op t x y yt => rw [h x (by simp), h y (by simp)]
  case unOp op t x => rw [h x (by simp)]
  case convert s d x => rw [h x (by simp)]
  case fieldAddr t x f => rw [h x (by simp)]
  case field t x f => rw [h x (by simp)]
  case indexAddr t x i => rw [h x (by simp), h i (by simp)]
  case index t x i => rw [h x (by simp), h i (by simp)]
  case extract x i => rw [h x (by simp)]
  case slice t x lo hi mx =>
    have e1 : lo.map e = lo.map e' := by cases lo with | none => rfl | some a => simp [h a (by simp)]
    have e2 : hi.map e = hi.map e' := by cases hi with | none => rfl | some a => simp [h a (by simp)]
    have e3 : mx.map e = mx.map e' := by cases mx with | none => rfl | some a => simp [h a (by simp)]
    rw [h x (by simp), e1, e2, e3]
  case makeFunc fn first caps =>
    cases fn <;> (try simp only []) <;> (try rfl)
    have : caps.toList.map e = caps.toList.map e' := List.map_congr_left (fun x hx => h x (by simp; exact .inr (by simpa using hx)))
    rw [this]
  case call c =>
    obtain ⟨callee, args, argTypes⟩ := c
    cases callee <;> (try simp only []) <;> (try rfl)
    rename_i b
    simp only [Call.operands] at h
    cases b <;> (try simp only []) <;> (try rfl)
    · cases ha : args.toList with
      | nil => rfl
      | cons x r =>
        have hx : e x = e' x := h x (by simp [ha])
        cases r with
        | nil =>
          cases argTypes.toList with
          | nil => rfl
          | cons t tr =>
            cases tr with
            | nil => simp only [hx]
            | cons _ _ => rfl
        | cons y r => rfl
    · cases ha : args.toList with
      | nil => rfl
      | cons x r =>
        cases r with
        | nil => rfl
        | cons y r =>
          cases r with
          | nil => simp only [h x (by simp [ha]), h y (by simp [ha])]
          | cons z r => rfl
    · cases ha : args.toList with
      | nil => rfl
      | cons x r =>
        cases r with
        | nil => rfl
        | cons y r =>
          cases r with
          | nil => simp only [h x (by simp [ha]), h y (by simp [ha])]
          | cons z r => rfl

end
end Go.Ax
