/- The abstract layer, part 6: every operation that computes or reads. -/
import Derived.Test.YtbbncbojkkackaaAxE
set_option linter.unusedSimpArgs false
namespace Go.Ax
section
variable {P : Program} {tab : Tab} {M : Mem} {ρ : Nat → Option Nat} {w : World}

theorem evT_ok {e : Operand → AV} {ε : Operand → Value} (he : ∀ x, RpA M ρ (e x) (ε x)) (hc : ∀ v, ε (.const v) = v) (t : TypeId) (x : Operand) : RpA M ρ (evT tab e t x) (ε x) := by
  unfold evT
  split
  · rename_i x
    rw [hc]
    split
    · split
      · exact .pv _ _ (.own0 _ _ _)
      · have := he (.const (.slice none 0 0)); rwa [hc] at this
    · have := he (.const (.slice none 0 0)); rwa [hc] at this
  · exact he _

theorem addA_fieldAt (hT : TabOK P tab) {t : TypeId} {f : Nat} {x r : AV} {v : Value} (hx : RpA M ρ x v) (h : fieldAddrA tab t x f = some r) :
    ∃ u, (Instr.fieldAt t v f).run P w = .ok u w ∧ RpA M ρ r u := by
  unfold fieldAddrA at h
  cases ht : tab t with
  | none => simp [ht] at h
  | some i =>
    obtain ⟨size, bytes, td, zero⟩ := i
    cases td <;> simp only [ht] at h <;> try (cases h; done)
    rename_i fs
    obtain ⟨d, hd, hok⟩ := (hT t _ ht).und
    cases d <;> simp only [tdOK] at hok
    rename_i F
    obtain ⟨rfl, hsz⟩ := hok
    simp only [List.getElem?_map] at h
    cases hF : F.toList[f]? with
    | none => simp [hF] at h
    | some fd =>
      simp only [hF, Option.map_some] at h
      have hF' : F[f]? = some fd := by simpa using hF
      obtain ⟨inf, hi, hne⟩ := hsz fd (List.mem_of_getElem? hF)
      cases hx with
      | box i off b hi' =>
        simp only [addA, Option.some.injEq] at h
        subst h
        refine ⟨.pointer (some ⟨b, off + fd.offset, none⟩), ?_, .box _ _ _ hi'⟩
        simp [Instr.fieldAt, run_underlying hd, hF', Instr.sureAddr, fieldPlace, sizeOf, typeInfo, hi, hne, add_none]
      | ro cs b off F' hm hr =>
        simp only [addA, Option.some.injEq] at h
        subst h
        refine ⟨.pointer (some ⟨b, off + fd.offset, none⟩), ?_, .ro _ _ _ (fun j => F' (fd.offset + j)) ?_ ?_⟩
        · simp [Instr.fieldAt, run_underlying hd, hF', Instr.sureAddr, fieldPlace, sizeOf, typeInfo, hi, hne, add_none]
        · intro j c hj
          rw [List.getElem?_drop] at hj
          rw [Nat.add_assoc]
          exact hm _ c hj
        · intro j c hj
          rw [List.getElem?_drop] at hj
          exact hr _ c hj
      | bot => simp [addA] at h
      | undef => simp [addA] at h
      | pv => simp [addA] at h
      | fn => simp [addA] at h
      | msl => simp [addA] at h

theorem Rp.elemAt {x : PV} {v : Value} {sz : Nat} {es : List PV} (h : Rp M x v) (hx : x.elems = some (sz, es)) :
    ∃ a cap, v = .slice a es.length cap ∧ es.length ≤ cap ∧ ∀ (i : Nat) e, es[i]? = some e → ∃ (b off : Nat) (F : Nat → Value), a = some ⟨b, off, none⟩ ∧ e.cells.length = sz ∧
      (∀ (j : Nat) c, e.cells[j]? = some c → M.cell b (off + i * sz + j) = some (F j) ∧ (F j).oneCell' = true) ∧ (∀ (j : Nat) c, e.cells[j]? = some c → Rp M c (F j)) := by
  cases h <;> simp only [PV.elems] at hx <;> try (cases hx; done)
  · injection hx with hx; injection hx with h1 h2; subst h1; subst h2
    exact ⟨_, _, rfl, Nat.zero_le _, by simp⟩
  · rename_i b off cap F hcap hz hm hr
    injection hx with hx; injection hx with h1 h2; subst h1; subst h2
    exact ⟨_, cap, rfl, hcap, fun i e he => ⟨b, off, F i, rfl, hz e (List.mem_of_getElem? he), fun j c hc => hm i j e c he hc, fun j c hc => hr i j e c he hc⟩⟩
  · injection hx with hx; injection hx with h1 h2; subst h1; subst h2
    exact ⟨_, _, rfl, Nat.zero_le _, by simp⟩
  · rename_i b off cap F hcap hend hz hm hr
    injection hx with hx; injection hx with h1 h2; subst h1; subst h2
    exact ⟨_, cap, rfl, hcap, fun i e he => ⟨b, off, F i, rfl, hz e (List.mem_of_getElem? he), fun j c hc => hm i j e c he hc, fun j c hc => hr i j e c he hc⟩⟩

theorem run_idx (hT : TabOK P tab) {t : TypeId} {x i r : AV} {v vi : Value} (hx : RpA M ρ x v) (hi : RpA M ρ i vi) (h : idxA tab t x i = some r) :
    ∃ u, (Instr.indexAt t v vi).run P w = .ok u w ∧ RpA M ρ r u := by
  unfold idxA at h
  split at h
  · rename_i size bytes el zero x' k n ht
    cases hx with
    | pv _ _ hx =>
      cases hi with
      | pv _ _ hi =>
        cases hi with
        | lit _ _ =>
          split at h
          · rename_i j sz es hj hes
            split at h
            · rename_i hc
              obtain ⟨rfl, h0⟩ := hc
              rw [Option.map_eq_some_iff] at h
              obtain ⟨e, he, rfl⟩ := h
              obtain ⟨d, hd, hok⟩ := (hT t _ ht).und
              cases d <;> simp only [tdOK] at hok
              subst hok
              obtain ⟨a, cap, rfl, hcap, hel⟩ := hx.elemAt hes
              obtain ⟨b, off, F, rfl, hlen, hm, hr⟩ := hel _ e he
              have hlt : n.toNat < es.length := (List.getElem?_eq_some_iff.1 he).1
              refine ⟨.pointer (some ⟨b, off + n.toNat * j.size, none⟩), ?_, .ro _ _ _ F hm hr⟩
              have hn : 0 ≤ n ∧ n < (es.length : Int) := ⟨h0, by omega⟩
              simp [Instr.indexAt, asIntOf, run_underlying hd, hn, run_sizeOf (hT _ _ hj), add_none]
            · cases h
          · cases h
  · rename_i size bytes el zero b' sz len k n ht
    cases hx with
    | msl _ _ _ b hb =>
      cases hi with
      | pv _ _ hi =>
        cases hi with
        | lit _ _ =>
          split at h
          · rename_i j hj
            split at h
            · rename_i hc
              obtain ⟨rfl, h0, h1⟩ := hc
              injection h with h
              subst h
              obtain ⟨d, hd, hok⟩ := (hT t _ ht).und
              cases d <;> simp only [tdOK] at hok
              subst hok
              refine ⟨.pointer (some ⟨b, n.toNat * j.size, none⟩), ?_, .box _ _ _ hb⟩
              simp [Instr.indexAt, asIntOf, run_underlying hd, h0, h1, run_sizeOf (hT _ _ hj), add_none]
            · cases h
          · cases h
  · cases h

theorem run_strIdx (hT : TabOK P tab) {t : TypeId} {x i r : AV} {v vi : Value} (hx : RpA M ρ x v) (hi : RpA M ρ i vi) (h : strIdxA tab t x i = some r) :
    ∃ u, (Instr.index t v vi).run P w = .ok u w ∧ RpA M ρ r u := by
  unfold strIdxA at h
  split at h
  · rename_i size bytes zero s k n ht
    cases hx with
    | pv _ _ hx =>
      cases hx with
      | lit _ _ =>
        cases hi with
        | pv _ _ hi =>
          cases hi with
          | lit _ _ =>
            split at h
            · rename_i h0
              rw [Option.map_eq_some_iff] at h
              obtain ⟨c, hc, rfl⟩ := h
              obtain ⟨d, hd, hok⟩ := (hT t _ ht).und
              cases d <;> simp only [tdOK] at hok
              refine ⟨.int .u8 c.toNat, ?_, .pv _ _ (.lit _ rfl)⟩
              have hlt : n.toNat < s.data.size := (Array.getElem?_eq_some_iff.1 hc).1
              have hc' : s[n.toNat]? = some c := by
                rw [ByteArray.getElem?_lt' s n.toNat hlt]
                congr 1
                have := (Array.getElem?_eq_some_iff.1 hc).2
                exact this
              simp [Instr.index, asIntOf, run_underlying hd, h0, hc']
            · cases h
  · cases h

theorem run_part (hT : TabOK P tab) {t : TypeId} {cs : List PV} {off : Nat} {vs : List Value} {r : AV} (hl : vs.length = cs.length) (h1 : ∀ v ∈ vs, v.oneCell' = true)
    (hr : ∀ (i : Nat) c v, cs[i]? = some c → vs[i]? = some v → Rp M c v) (h : partA tab t cs off = some r) : ∃ u, (part t vs.toArray off).run P w = .ok u w ∧ RpA M ρ r u := by
  unfold partA at h
  split at h
  · rename_i i ht
    by_cases hg : i.td.agg = true
    · simp only [hg, if_true] at h
      split at h
      · rename_i hle
        injection h with h
        subst h
        refine ⟨.agg (vs.toArray.extract off (off + i.size)), ?_, ?_⟩
        · simp [part, run_isAgg (hT t i ht), hg, run_sizeOf (hT t i ht)]
        · have e : vs.toArray.extract off (off + i.size) = ((vs.drop off).take i.size).toArray := by
            simp [List.extract_eq_take_drop]
          rw [e]
          refine .pv _ _ (.agg _ _ (by simp; omega) ?_ ?_)
          · intro u hu
            exact h1 u (List.mem_of_mem_drop (List.mem_of_mem_take hu))
          · intro j c u hc hu
            have hj : j < i.size := by
              have := (List.getElem?_eq_some_iff.1 hc).1
              simp at this; omega
            rw [List.getElem?_take_of_lt hj, List.getElem?_drop] at hc hu
            exact hr _ c u hc hu
      · cases h
    · simp only [hg, Bool.false_eq_true, if_false, Option.map_eq_some_iff] at h
      obtain ⟨c, hc, rfl⟩ := h
      have hlt : off < vs.length := by rw [hl]; exact (List.getElem?_eq_some_iff.1 hc).1
      refine ⟨vs[off], ?_, .pv _ _ (hr off c _ hc (List.getElem?_eq_getElem hlt))⟩
      simp [part, run_isAgg (hT t i ht), hg, hlt]
  · cases h

theorem run_fieldA (hT : TabOK P tab) {t : TypeId} {f : Nat} {x r : AV} {v : Value} (hx : RpA M ρ x v) (h : fieldA tab t x f = some r) :
    ∃ u, (Instr.field t v f).run P w = .ok u w ∧ RpA M ρ r u := by
  unfold fieldA at h
  split at h
  · rename_i size bytes fs zero cs ht
    obtain ⟨d, hd, hok⟩ := (hT t _ ht).und
    cases d <;> simp only [tdOK] at hok
    rename_i F
    obtain ⟨rfl, hsz⟩ := hok
    split at h
    · rename_i off ft hF
      simp only [List.getElem?_map, Option.map_eq_some_iff, Prod.mk.injEq] at hF
      obtain ⟨fd, hF, rfl, rfl⟩ := hF
      have hF' : F[f]? = some fd := by simpa using hF
      cases hx with
      | pv _ _ hx =>
        cases hx with
        | agg _ vs hl h1 hr =>
          obtain ⟨u, hu, hR⟩ := run_part (ρ := ρ) (w := w) hT hl h1 hr h
          exact ⟨u, by simp [Instr.field, run_underlying hd, hF', asAgg, hu], hR⟩
    · cases h
  · cases h

theorem RpA.lit_inv {v u : Value} (h : RpA M ρ (.pv (.lit v)) u) : u = v := by
  cases h with | pv _ _ h => cases h; rfl

theorem run_intBin {op : BinOp} {k : IntKind} {x y : Int} {r : PV} (h : intBin op k x y = some r) (hop : op ≠ .shl ∧ op ≠ .shr) (t : TypeId) :
    ∃ u, (binOp op t (.int k x) (.int k y)).run P w = .ok u w ∧ RpA M ρ (.pv r) u := by
  cases op <;> simp only [intBin] at h <;> try (cases h; done)
  case quo =>
    split at h
    · rename_i hy
      injection h with h; subst h
      exact ⟨_, by simp [binOp, Op.intDiv, hy], .pv _ _ (.lit _ rfl)⟩
    · cases h
  case rem =>
    split at h
    · rename_i hy
      injection h with h; subst h
      exact ⟨_, by simp [binOp, Op.intDiv, hy], .pv _ _ (.lit _ rfl)⟩
    · cases h
  all_goals
    injection h with h; subst h
    exact ⟨_, by first | simp [binOp, Op.intArith, Op.intBits, Op.intCmp], .pv _ _ (.lit _ rfl)⟩

theorem run_strBin {op : BinOp} {x y : ByteArray} {r : PV} (h : strBin op x y = some r) (t : TypeId) :
    ∃ u, (binOp op t (.string x) (.string y)).run P w = .ok u w ∧ RpA M ρ (.pv r) u := by
  cases op <;> simp only [strBin] at h <;> try (cases h; done)
  case add =>
    split at h
    · rename_i hy
      injection h with h; subst h
      refine ⟨_, ?_, .pv _ _ (.lit _ rfl)⟩
      rw [binOp_string_add]
      exact run_string_add_sum w x y hy
    · cases h
  case eql =>
    injection h with h; subst h
    exact ⟨_, by rw [binOp_string_eql]; rfl, .pv _ _ (.lit _ rfl)⟩
  case neq =>
    injection h with h; subst h
    exact ⟨_, by rw [binOp_string_neq]; rfl, .pv _ _ (.lit _ rfl)⟩

theorem run_eqGuard {op : BinOp} {t : TypeId} {x y : Operand} {va vb : Value} (h : (∃ k n, va = .int k n) ∨ (∃ s, va = .string s) ∨ ∃ c, va = .bool c) :
    (eqGuard op t x y va vb).run P w = .ok () w := by
  unfold eqGuard
  rcases h with ⟨k, n, rfl⟩ | ⟨s, rfl⟩ | ⟨c, rfl⟩ <;> cases op <;> simp

theorem run_equalIn_bool (d : Nat) {t : TypeId} (ht : P.underlying t = some .bool) (x y : Bool) : (Op.equalIn (d + 1) t (.bool x) (.bool y)).run P w = .ok (x == y) w := by
  simp only [Op.equalIn, Sem.run_bind, run_underlying ht, Result.andThen_ok, Sem.run_pure]

theorem run_equal_bool {t : TypeId} (ht : P.underlying t = some .bool) (x y : Bool) : (Op.equal t (.bool x) (.bool y)).run P w = .ok (x == y) w :=
  run_equalIn_bool 9999 ht x y

theorem run_binA (hT : TabOK P tab) {op : BinOp} {t : TypeId} {a b r : AV} {va vb : Value} (x y : Operand) (ha : RpA M ρ a va) (hb : RpA M ρ b vb) (h : binA tab t op a b = some r) :
    ∃ u, ((do eqGuard op t x y va vb; binOp op t va vb) : Sem Value).run P w = .ok u w ∧ RpA M ρ r u := by
  unfold binA at h
  split at h
  · rename_i k n _ m
    obtain rfl := ha.lit_inv
    obtain rfl := hb.lit_inv
    split at h
    · rename_i h0
      injection h with h; subst h
      exact ⟨_, by simp [run_eqGuard, binOp, Op.shift, Int.not_lt.2 h0], .pv _ _ (.lit _ rfl)⟩
    · cases h
  · rename_i k n _ m
    obtain rfl := ha.lit_inv
    obtain rfl := hb.lit_inv
    split at h
    · rename_i h0
      injection h with h; subst h
      exact ⟨_, by simp [run_eqGuard, binOp, Op.shift, Int.not_lt.2 h0], .pv _ _ (.lit _ rfl)⟩
    · cases h
  · rename_i k n k' m hs1 hs2
    obtain rfl := ha.lit_inv
    obtain rfl := hb.lit_inv
    split at h
    · rename_i hk
      subst hk
      rw [Option.map_eq_some_iff] at h
      obtain ⟨q, hq, rfl⟩ := h
      obtain ⟨u, hu, hR⟩ := run_intBin (P := P) (w := w) (M := M) (ρ := ρ) hq (by constructor <;> (rintro rfl; simp [intBin] at hq)) t
      exact ⟨u, by simp [run_eqGuard, hu], hR⟩
    · cases h
  · obtain rfl := ha.lit_inv
    obtain rfl := hb.lit_inv
    rw [Option.map_eq_some_iff] at h
    obtain ⟨q, hq, rfl⟩ := h
    obtain ⟨u, hu, hR⟩ := run_strBin (P := P) (w := w) (M := M) (ρ := ρ) hq t
    exact ⟨u, by simp [run_eqGuard, hu], hR⟩
  · obtain rfl := ha.lit_inv
    obtain rfl := hb.lit_inv
    split at h
    · rename_i ht
      injection h with h; subst h
      obtain ⟨d, hd, hok⟩ := (hT t _ ht).und
      cases d <;> simp only [tdOK] at hok
      refine ⟨_, ?_, .pv _ _ (.lit _ rfl)⟩
      rw [Sem.run_bind, run_eqGuard (by simp)]
      simp only [Result.andThen_ok, binOp, Sem.run_bind, run_equal_bool hd, Sem.run_pure]
    · cases h
  · obtain rfl := ha.lit_inv
    obtain rfl := hb.lit_inv
    split at h
    · rename_i ht
      injection h with h; subst h
      obtain ⟨d, hd, hok⟩ := (hT t _ ht).und
      cases d <;> simp only [tdOK] at hok
      refine ⟨_, ?_, .pv _ _ (.lit _ rfl)⟩
      rw [Sem.run_bind, run_eqGuard (by simp)]
      simp only [Result.andThen_ok, binOp, Sem.run_bind, run_equal_bool hd, Sem.run_pure]
    · cases h
  · cases h

end
end Go.Ax
