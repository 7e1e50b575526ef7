/- The abstract layer, part 16: one operation; a region in the order of the text. -/
import Derived.Test.YtbbncbojkkackaaAxT
set_option linter.unusedSimpArgs false
namespace Go.Ax
section
variable {P : Program} {tab : Tab} {X : List Nat} {M0 : Mem} {w0 : World} {M : Mem} {ρ : Nat → Option Nat} {st : St} {a : Act} {w : World}

/-- The world fits some abstract state of which K holds. -/
def Fits (X : List Nat) (M0 : Mem) (w0 : World) (K : St → Prop) (a : Act) (w : World) : Prop := ∃ M ρ st, Inv X M0 w0 M ρ st a w ∧ K st

theorem Fits.mono {K K' : St → Prop} (h : Fits X M0 w0 K a w) (hk : ∀ st, K st → K' st) : Fits X M0 w0 K' a w := let ⟨M, ρ, st, h1, h2⟩ := h; ⟨M, ρ, st, h1, hk st h2⟩

theorem wp_value {o : Oper} {u : Value} {w' : World} {M' : Mem} {ρ' : Nat → Option Nat} {st' : St} {v : AV} {K : St → Prop} {Q : Exit → Act → World → Prop} (hr : (execOp a.eval o).run P w = .ok (.value u) w') (hi : Inv X M0 w0 M' ρ' st' a w') (hv : RpA M' ρ' v u) (hk : K (st'.put o.dst v)) :
    o.wp P a w (Fits X M0 w0 K) Q := by
  unfold Oper.wp
  rw [hr]
  exact ⟨M', ρ', _, hi.put hv, hk⟩

theorem neff_sound (hT : TabOK P tab) (h : Inv X M0 w0 M ρ st a w) {o : Oper} {K : St → Prop} {Q : Exit → Act → World → Prop} (hk : neff P tab o (evl st.tmps) st.tips st.U (fun v tips U => K (({ st with tips := tips, U := U } : St).put o.dst v))) :
    o.wp P a w (Fits X M0 w0 K) Q := by
  unfold neff at hk
  split at hk
  · rename_i args argTypes ho
    split at hk
    · rename_i s x t tx hargs htys
      have e1 : args = #[s, x] := by rw [← Array.toArray_toList (xs := args), hargs]
      have e2 : argTypes = #[t, tx] := by rw [← Array.toArray_toList (xs := argTypes), htys]
      subst e1; subst e2
      have hs := evT_ok (tab := tab) h.evl (fun _ => rfl) t s
      have hx := evT_ok (tab := tab) h.evl (fun _ => rfl) tx x
      have hres := app_sound (ty := o.type) hT h hs hx hk
      obtain ⟨u, w', M', tips', U', v, hr, hi, hv, hk'⟩ := hres
      refine wp_value (u := u) (w' := w') ?_ hi hv hk'
      obtain ⟨dst, op, type, pos, after, guard⟩ := o
      simp only at ho
      subst ho
      simp [execOp, resolve, invoke, builtin, hr]
    · exact hk.elim
  · rename_i t n parts ho
    have hres := lit_sound hT h hk
    obtain ⟨u, w', M', tips', U', v, hr, hi, hv, hk'⟩ := hres
    refine wp_value (u := u) (w' := w') ?_ hi hv hk'
    obtain ⟨dst, op, type, pos, after, guard⟩ := o
    simp only at ho
    subst ho
    show (do pure (Next.value (← Instr.buildSlice t n (parts.map fun p => (p.1, a.eval p.2)))) : Sem Next).run P w = _
    rw [bind_run hr]; rfl
  · rename_i f args argTypes ho
    obtain ⟨hsz, hk⟩ := hk
    obtain ⟨g, vs, hr, hc⟩ := callK_sound h ho hsz hk
    unfold Oper.wp
    rw [hr]
    refine hc.mono ?_
    rintro e w' ⟨u, M', tips', U', v, rfl, hi, hv, hk⟩
    exact ⟨M', ρ, _, hi.put hv, hk⟩
  · rename_i t x y yt ho
    obtain ⟨hy, _, hk⟩ := hk
    split at hk
    · rename_i s1 s2 e z ht
      obtain ⟨dt, hdt, hok⟩ := (hT t _ ht).und
      cases dt <;> simp only [tdOK] at hok
      subst hok
      obtain ⟨v, ⟨u, w', M', ρ', hr, hi, hv⟩, hk⟩ := nil_sound h (neg := false) ho hdt hy hk
      exact wp_value hr hi hv hk
    · exact hk.elim
  · rename_i t x y yt ho
    obtain ⟨hy, _, hk⟩ := hk
    split at hk
    · rename_i s1 s2 e z ht
      obtain ⟨dt, hdt, hok⟩ := (hT t _ ht).und
      cases dt <;> simp only [tdOK] at hok
      subst hok
      obtain ⟨v, ⟨u, w', M', ρ', hr, hi, hv⟩, hk⟩ := nil_sound h (neg := true) ho hdt hy hk
      exact wp_value hr hi hv hk
    · exact hk.elim
  · exact hk.elim

theorem dop_sound (hT : TabOK P tab) (h : Inv X M0 w0 M ρ st a w) {o : Oper} {K : St → Prop} {Q : Exit → Act → World → Prop} (hk : bindK (dval tab o (evl st.tmps) st.boxes) fun v => K (st.put o.dst v)) : o.wp P a w (Fits X M0 w0 K) Q := by
  rw [bindK_iff] at hk
  obtain ⟨v, hv, hk⟩ := hk
  obtain ⟨u, hr, hR⟩ := dval_sound h.agree h.boxesOK hT h.evl (fun _ => rfl) hv
  exact wp_value hr h hR hk

theorem bop_sound (hT : TabOK P tab) (h : Inv X M0 w0 M ρ st a w) {o : Oper} {K : St → Prop} {Q : Exit → Act → World → Prop} (hk : beff tab o st K) : o.wp P a w (Fits X M0 w0 K) Q := by
  by_cases hst : ∃ t x y, o.op = .store t x y
  · obtain ⟨t, x, y, ho⟩ := hst
    obtain ⟨st', w', hr, hi, _, hk⟩ := store_sound hT h ho hk
    unfold Oper.wp
    rw [hr]
    exact ⟨M, ρ, _, hi.put .undef, hk⟩
  · obtain ⟨st', v, ⟨u, w', M', ρ', hr, hi, hv⟩, _, hk⟩ := beff_sound hT h (fun t x y e => hst ⟨t, x, y, e⟩) hk
    exact wp_value hr hi hv hk

theorem aopQ_sound (hT : TabOK P tab) (h : Inv X M0 w0 M ρ st a w) {o : Oper} {K : St → Prop} {Q : Exit → Act → World → Prop} (hk : aopQ P tab o K st) : o.wp P a w (Fits X M0 w0 K) Q := by
  unfold aopQ at hk
  split at hk
  · exact dop_sound hT h hk
  · exact neff_sound hT h hk
  · exact bop_sound hT h hk

theorem callX_sound (h : Inv X M0 w0 M ρ st a w) {f : Operand} {args : Array Operand} {argTypes : Array TypeId} {o : Oper} (ho : o.op = .call { callee := .value f, args, argTypes }) {K : St → Prop} {Q : Exit → Act → World → Prop} (hk : callX P tab o f args argTypes st K) : o.wp P a w (Fits X M0 w0 K) Q := by
  obtain ⟨g, vs, hr, hc⟩ := callX_calls h ho hk
  unfold Oper.wp
  rw [hr]
  refine hc.mono ?_
  rintro e w' ⟨u, M', st', v, rfl, hi, hv, hk⟩
  exact ⟨M', ρ, _, hi.put hv, hk⟩

theorem aop_sound (hT : TabOK P tab) (h : Inv X M0 w0 M ρ st a w) {o : Oper} {K : St → Prop} {Q : Exit → Act → World → Prop} (hk : aop P tab o K st) : o.wp P a w (Fits X M0 w0 K) Q := by
  unfold aop at hk
  split at hk
  · exact dop_sound hT h hk
  · rcases hk with hk | hk
    · exact neff_sound hT h hk
    · split at hk
      · rename_i ho
        exact callX_sound h ho hk
      · exact hk.elim
  · exact bop_sound hT h hk

/-- The guard is what the abstract state says. -/
theorem want_ok (h : Inv X M0 w0 M ρ st a w) {ops : Array Oper} {o : Oper} {g : Bool} (hg : want ops o st = some g) : Region.wanted o (yielded ops a.tmps) = g := by
  unfold want at hg
  unfold Region.wanted
  split at hg
  · rename_i hn
    injection hg with hg; subst hg
    simp [hn]
  · rename_i j want hn
    simp only [hn]
    split at hg
    · cases hg
    · rename_i t ht
      have hy : ∀ v, a.tmps[t]? = some v → yielded ops a.tmps j = (match v with | .bool b => some b | _ => none) := by
        intro v hv
        unfold yielded
        rw [ht]
        simp only [Option.bind_some, hv]
        cases v <;> rfl
      have hlt : ∀ x, st.tmps[t]? = some x → a.tmps[t]? = some (a.tmps.getD t undef) := by
        intro x hx
        have h1 := (List.getElem?_eq_some_iff.1 hx).1
        have h2 : t < a.tmps.size := by rw [h.len]; exact h1
        simp [Array.getD, h2]
      split at hg
      · rename_i b hb
        injection hg with hg; subst hg
        have h1 := (h.tmps t _ hb).lit_inv
        rw [hy _ (hlt _ hb), h1]
        cases b <;> cases want <;> rfl
      · rename_i hb
        injection hg with hg; subst hg
        have h1 := h.tmps t _ hb
        have h2 : a.tmps.getD t undef = undef := by generalize a.tmps.getD t undef = x at h1; cases h1; rfl
        rw [hy _ (hlt _ hb), h2]
        rfl
      · cases hg

theorem guarded_sound {ops : Array Oper} {i : Nat} {o : Oper} (hi : ops[i]? = some o) {op : (St → Prop) → St → Prop} {K : St → Prop} {Q : Exit → Act → World → Prop} (hop : ∀ {M ρ st a w} {K : St → Prop}, Inv X M0 w0 M ρ st a w → op K st → o.wp P a w (Fits X M0 w0 K) Q)
    (h : Inv X M0 w0 M ρ st a w) (hk : guarded ops o op K st) : wpOp P ops Q i (Fits X M0 w0 K) a w := by
  unfold guarded at hk
  rw [bindK_iff] at hk
  obtain ⟨g, hg, hk⟩ := hk
  unfold wpOp
  simp only [hi]
  rw [want_ok h hg]
  cases g with
  | true => rw [if_pos rfl]; exact .inl (hop h hk)
  | false => rw [if_neg (by simp)]; exact ⟨M, ρ, _, h.put .undef, hk⟩

theorem aops_sound (hT : TabOK P tab) {ops : Array Oper} {Q : Exit → Act → World → Prop} : ∀ (l : List Oper) (k : Nat), (∀ j, l[j]? = ops[k + j]?) → ∀ {K : St → Prop} {a : Act} {w : World}, (∀ a w, Fits X M0 w0 K a w → Q .normal a w) → Fits X M0 w0 (aops P tab ops l K) a w → wpOps P ops Q (List.range' k l.length) a w
  | [], k, hl, K, a, w, hQ, h => hQ a w h
  | o :: l, k, hl, K, a, w, hQ, h => by
    have h0 : ops[k]? = some o := by simpa using (hl 0).symm
    simp only [List.length_cons, List.range'_succ]
    rw [wpOps_cons]
    obtain ⟨M, ρ, st, hi, hk⟩ := h
    refine wpOp_mono (fun a w hf => aops_sound hT l (k + 1) (fun j => ?_) hQ hf) (guarded_sound h0 (fun h hk => aop_sound hT h hk) hi hk)
    have := hl (j + 1)
    simpa [Nat.add_assoc, Nat.add_comm 1 j] using this

theorem wp_region_text (hT : TabOK P tab) {id : Nat} {ops : Array Oper} {Q : Exit → Act → World → Prop} {K : St → Prop} (hQ : ∀ a w, Fits X M0 w0 K a w → Q .normal a w) (h : Fits X M0 w0 (aops P tab ops ops.toList K) a w) : (Code.region id ops false).wp P Q a w := by
  refine wp_region ?_
  have := aops_sound hT (ops := ops) (Q := Q) ops.toList 0 (by simp) hQ h
  simpa [List.range_eq_range'] using this

end
end Go.Ax
