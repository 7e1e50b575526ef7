/- Typed execution, part 9: regions. -/
import Derived.Test.YtbbncbojkkackaaTxH
set_option linter.unusedVariables false
set_option linter.unusedSimpArgs false
namespace Go.Tx
open Go.Ax

section
variable {U : Uni} {tab : Tab} {s : TS U.D} {st : St} {R : Type} {P : Program}

theorem callX_mono {o : Oper} {f : Operand} {args : Array Operand} {argTypes : Array TypeId} {K K' : St → Prop} (g : ∀ st, K st → K' st) (h : callX P tab o f args argTypes st K) : callX P tab o f args argTypes st K' := by
  unfold callX at h ⊢
  split at h
  · obtain ⟨h1, exts, h2, h3, Q, h4, h5⟩ := h
    exact ⟨h1, exts, h2, h3, Q, h4, fun r xs q1 q2 q3 => ⟨(h5 r xs q1 q2 q3).1, g _ (h5 r xs q1 q2 q3).2⟩⟩
  · exact h.elim

theorem beff_mono {o : Oper} {K K' : St → Prop} (g : ∀ st, K st → K' st) (h : beff tab o st K) : beff tab o st K' := by
  unfold beff at h ⊢
  split at h
  · split at h
    · exact ⟨h.1, g _ h.2⟩
    · exact h.elim
  · split at h
    · exact ⟨h.1, g _ h.2⟩
    · exact h.elim
  · split at h
    · exact bindK_mono (fun x hx => ⟨hx.1, hx.2.1, g _ hx.2.2⟩) h
    · exact h.elim
  · split at h
    · split at h
      · exact ⟨h.1, h.2.1, h.2.2.1, h.2.2.2.1, h.2.2.2.2.1, h.2.2.2.2.2.1, h.2.2.2.2.2.2.1, g _ h.2.2.2.2.2.2.2⟩
      · exact h.elim
    · exact h.elim
  · exact h.elim

theorem aop_mono {o : Oper} {K K' : St → Prop} (g : ∀ st, K st → K' st) (h : aop P tab o K st) : aop P tab o K' st := by
  unfold aop at h ⊢
  split at h
  · exact bindK_mono (fun v hv => g _ hv) h
  · rcases h with h | h
    · exact .inl (neff_mono (fun v t U hv => g _ hv) h)
    · refine .inr ?_
      split at h
      · exact callX_mono g h
      · exact h.elim
  · exact beff_mono g h

theorem aopQ_mono {o : Oper} {K K' : St → Prop} (g : ∀ st, K st → K' st) (h : aopQ P tab o K st) : aopQ P tab o K' st := by
  unfold aopQ at h ⊢
  split at h
  · exact bindK_mono (fun v hv => g _ hv) h
  · exact neff_mono (fun v t U hv => g _ hv) h
  · exact beff_mono g h

theorem guarded_mono' {ops : Array Oper} {o : Oper} {op : (St → Prop) → St → Prop} {K K' : St → Prop} (g : ∀ st, K st → K' st) (ho : ∀ st, op K st → op K' st) (h : guarded ops o op K st) : guarded ops o op K' st := by
  unfold guarded at h ⊢
  refine bindK_mono ?_ h
  intro b hb
  cases b with
  | true => exact ho _ hb
  | false => exact g _ hb

theorem gw_eq (w b : Bool) : gw w b = (b == w) := by cases w <;> cases b <;> rfl

/-- What all that a function needs to be executed rightly. -/
structure EnvOkX (P : Program) (U : Uni) (tab : Tab) (E : Env U R) : Prop extends EnvOk P U tab E where
  ex : ∀ e ∈ E.ex, e.Ok P

theorem top_gen {E : Env U R} (hE : EnvOkX P U tab E) (hR : Rel U s st) {ops : Array Oper} {o : Oper} {drawn : Bool} {K : TS U.D → Option R} {r : R} (h : top U E drawn ops o s K = some r)
    (op : (St → Prop) → St → Prop) (h1 : ∀ K' : St → Prop, cls o = .d → (bindK (dval tab o (evl st.tmps) st.boxes) fun v => K' (st.put o.dst v)) → op K' st)
    (h2 : ∀ K' : St → Prop, cls o = .n → neff P tab o (evl st.tmps) st.tips st.U (fun v tips U => K' (({ st with tips := tips, U := U } : St).put o.dst v)) → op K' st)
    (h3 : ∀ K' : St → Prop, drawn = false → cls o = .n → (∃ f args argTypes, o.op = .call { callee := .value f, args, argTypes } ∧ callX P tab o f args argTypes st K') → op K' st)
    (h4 : ∀ K' : St → Prop, cls o = .b → beff tab o st K' → op K' st) : guarded ops o op (Kr U K r) st := by
  unfold top at h
  split at h
  · rename_i hg
    unfold guarded want
    simp only [hg, bindK]
    have h0 := h
    unfold top0 at h
    split at h
    · rename_i hc
      rcases top0_dc hE.toEnvOk hR h0 (.inl hc) with ⟨q1, q2⟩ | ⟨q1, q2⟩
      · exact h1 _ q1 q2
      · exact h2 _ q1 q2
    · rename_i hc
      split at h
      · rename_i f args argTypes ho
        split at h
        · rename_i hl
          rcases top0_dc hE.toEnvOk hR h0 (.inr ⟨hc, hl⟩) with ⟨q1, q2⟩ | ⟨q1, q2⟩
          · exact h1 _ q1 q2
          · exact h2 _ q1 q2
        · split at h
          · obtain ⟨q1, q2⟩ := tlend_ok hE.toEnvOk hE.ex hR h
            exact h3 _ rfl q1 q2
          · cases h
      · cases h
    · obtain ⟨q1, q2⟩ := tmake_ok hE.toEnvOk hR h
      exact h2 _ q1 q2
    · obtain ⟨q1, q2⟩ := tbox_ok hE.toEnvOk hR h
      exact h4 _ q1 q2
  · rename_i j w hg
    rw [atL_eq] at h
    split at h
    · rename_i oj hj
      split at h
      · rename_i t hd
        have hjo : ops[j]? = some oj := by rw [← Array.getElem?_toList]; exact hj
        have hw := want_p (st := st) hg hjo hd
        have hop : ∀ K' : St → Prop, (cls o = .d ∧ bindK (dval tab o (evl st.tmps) st.boxes) fun v => K' (st.put o.dst v)) ∨ (cls o = .n ∧ neff P tab o (evl st.tmps) st.tips st.U (fun v tips U => K' (({ st with tips := tips, U := U } : St).put o.dst v))) → op K' st := by
          rintro K' (⟨q1, q2⟩ | ⟨q1, q2⟩)
          · exact h1 _ q1 q2
          · exact h2 _ q1 q2
        split at h
        · rename_i b hraw
          have hat := rawM_at hraw (by intro a e; injection e with e; subst e; simp)
          have hlt := (List.getElem?_eq_some_iff.1 hat).1
          have hy : st.tmps[t]? = some (st.tmps[t]'(by rw [hR.len]; exact hlt)) := List.getElem?_eq_getElem _
          have hrm := hR.tmps t _ _ hat hy
          cases hrm with
          | p _ _ hra =>
            have e := hra.bool_
            rw [e] at hy
            rw [hy] at hw
            simp only at hw
            refine top1_ok hE.toEnvOk hR h ?_ (by rw [gw_eq]; exact hw) op hop
            rw [gw_eq]
            unfold boolAt
            rw [hy]
            simp
        · rename_i t2 w2 g b hraw
          have hat := rawM_at hraw (by intro a e; cases e)
          have hlt := (List.getElem?_eq_some_iff.1 hat).1
          have hy : st.tmps[t]? = some (st.tmps[t]'(by rw [hR.len]; exact hlt)) := List.getElem?_eq_getElem _
          have hrm := hR.tmps t _ _ hat hy
          cases hrm with
          | may _ _ _ _ _ q1 q2 q3 =>
            cases hgb : g with
            | true =>
              rw [hgb] at h
              have e := (q1 hgb).bool_
              rw [e] at hy
              rw [hy] at hw
              simp only at hw
              refine top1_ok hE.toEnvOk hR h ?_ (by rw [gw_eq]; simpa using hw) op hop
              rw [gw_eq]
              unfold boolAt
              rw [hy]
              simp
            | false =>
              rw [hgb] at h
              have e := q2 hgb
              rw [e] at hy
              rw [hy] at hw
              simp only at hw
              refine top1_ok hE.toEnvOk hR h ?_ (by simpa using hw) op hop
              unfold boolAt
              rw [hy]
              simp
        · cases h
      · cases h
    · cases h

theorem top_ok {E : Env U R} (hE : EnvOkX P U tab E) (hR : Rel U s st) {ops : Array Oper} {o : Oper} {K : TS U.D → Option R} {r : R} (h : top U E false ops o s K = some r) : guarded ops o (aop P tab o) (Kr U K r) st := by
  refine top_gen hE hR h _ ?_ ?_ ?_ ?_
  · intro K' hc q; unfold aop; simp only [hc]; exact q
  · intro K' hc q; unfold aop; simp only [hc]; exact .inl q
  · rintro K' _ hc ⟨f, args, argTypes, ho, q⟩; unfold aop; simp only [hc]; refine .inr ?_; simp only [ho]; exact q
  · intro K' hc q; unfold aop; simp only [hc]; exact q

theorem topQ_ok {E : Env U R} (hE : EnvOkX P U tab E) (hR : Rel U s st) {ops : Array Oper} {o : Oper} {K : TS U.D → Option R} {r : R} (h : top U E true ops o s K = some r) : guarded ops o (aopQ P tab o) (Kr U K r) st := by
  refine top_gen hE hR h _ ?_ ?_ ?_ ?_
  · intro K' hc q; unfold aopQ; simp only [hc]; exact q
  · intro K' hc q; unfold aopQ; simp only [hc]; exact q
  · intro K' hd; cases hd
  · intro K' hc q; unfold aopQ; simp only [hc]; exact q

theorem tops_ok {E : Env U R} (hE : EnvOkX P U tab E) {ops : Array Oper} {K : TS U.D → Option R} {r : R} : ∀ {l : List Oper} {s : TS U.D} {st : St}, Rel U s st → tops U E ops l s K = some r → aops P tab ops l (Kr U K r) st
  | [], s, st, hR, h => ⟨s, hR, h⟩
  | o :: l, s, st, hR, h => by
    simp only [tops] at h
    simp only [aops]
    have step : ∀ st', Kr U (fun s => tops U E ops l s K) r st' → aops P tab ops l (Kr U K r) st' := by
      rintro st' ⟨s', hR', h'⟩
      exact tops_ok hE hR' h'
    exact guarded_mono' step (fun st q => aop_mono step q) (top_ok hE hR h)

theorem topsQ_ok {E : Env U R} (hE : EnvOkX P U tab E) {ops : Array Oper} {K : TS U.D → Option R} {r : R} : ∀ {l : List Nat} {s : TS U.D} {st : St}, Rel U s st → topsQ U E ops l s K = some r → aopsQ P tab ops l (Kr U K r) st
  | [], s, st, hR, h => ⟨s, hR, h⟩
  | i :: l, s, st, hR, h => by
    simp only [topsQ] at h
    simp only [aopsQ]
    rw [atL_eq] at h
    split at h
    · rename_i o ho
      have ho' : ops[i]? = some o := by rw [← Array.getElem?_toList]; exact ho
      simp only [ho']
      have step : ∀ st', Kr U (fun s => topsQ U E ops l s K) r st' → aopsQ P tab ops l (Kr U K r) st' := by
        rintro st' ⟨s', hR', h'⟩
        exact topsQ_ok hE hR' h'
      exact guarded_mono' step (fun st q => aopQ_mono step q) (topQ_ok hE hR h)
    · cases h

end
end Go.Tx
