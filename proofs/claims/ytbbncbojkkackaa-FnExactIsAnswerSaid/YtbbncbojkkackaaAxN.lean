/- The abstract layer, part 14: literals of a slice's type; a slice against nil; calls. -/
import Derived.Test.YtbbncbojkkackaaAxM
set_option linter.unusedSimpArgs false
namespace Go.Ax
section
variable {P : Program} {tab : Tab} {X : List Nat} {M0 : Mem} {w0 : World} {M : Mem} {ρ : Nat → Option Nat} {st : St} {a : Act} {w : World}

/-- Elements side by side. -/
theorem fill_lit {sz : Nat} (hsz : 0 < sz) : ∀ (vals : List Value) (xs : List PV) (k n : Nat) (cur : Array Value), cur.size = n * sz → k + vals.length = n → vals.length = xs.length → (∀ x ∈ xs, x.isTup = false ∧ x.cells.length = sz) →
    (∀ (i : Nat) x v, xs[i]? = some x → vals[i]? = some v → Rp M x v) →
    ∃ r, Instr.fill (fun i => some (i * sz, sz)) cur ((List.range' k vals.length).zip vals) = some r ∧ r.toList.take (k * sz) = cur.toList.take (k * sz) ∧ r.size = n * sz ∧
      ∀ (i j : Nat) e c v, xs[i]? = some e → e.cells[j]? = some c → r.toList[(k + i) * sz + j]? = some v → Rp M c v ∧ v.oneCell' = true
  | [], xs, k, n, cur, hc, hk, hl, hz, hr => by
    obtain rfl : xs = [] := List.eq_nil_of_length_eq_zero (by simpa using hl.symm)
    exact ⟨cur, rfl, rfl, hc, by simp⟩
  | v :: vals, [], k, n, cur, hc, hk, hl, hz, hr => by simp at hl
  | v :: vals, x :: xs, k, n, cur, hc, hk, hl, hz, hr => by
    obtain ⟨hnt, hxz⟩ := hz x (by simp)
    have hrow := (hr 0 x v rfl rfl).row (by intro l e; rw [e] at hnt; simp [PV.isTup] at hnt)
    have hvs : v.cells.size = sz := by have := hrow.1; simp at this; omega
    have hkn : k + 1 ≤ n := by simp at hk; omega
    have hfit : k * sz + v.cells.size ≤ cur.size := by
      rw [hvs, hc]
      have : (k + 1) * sz ≤ n * sz := Nat.mul_le_mul_right _ hkn
      rwa [Nat.add_mul, Nat.one_mul] at this
    have hst := fill_step (k * sz) v.cells cur hfit
    have hsz2 : (v.cells.zipIdx.foldl (fun cs (x : Value × Nat) => cs.setIfInBounds (k * sz + x.2) x.1) cur).size = n * sz := by
      have := congrArg List.length hst
      rw [lay_length _ _ _ (by simpa using hfit)] at this
      simpa [hc] using this
    obtain ⟨r, h1, h2, h3, h4⟩ := fill_lit hsz vals xs (k + 1) n _ hsz2 (by simp at hk; omega) (by simpa using hl) (fun y hy => hz y (by simp [hy])) (fun i y u hy hu => hr (i + 1) y u (by simpa using hy) (by simpa using hu))
    have hpre : ∀ j, j < (k + 1) * sz → r.toList[j]? = (lay cur.toList (k * sz) v.cells.toList)[j]? := by
      intro j hj
      have := congrArg (fun l => l[j]?) h2
      simp only [List.getElem?_take_of_lt hj] at this
      rw [this, hst]
    refine ⟨r, ?_, ?_, h3, ?_⟩
    · simp only [List.length_cons, List.range'_succ, List.zip_cons_cons, Instr.fill]
      have hcond : ¬ (v.cells.size ≠ sz || decide (k * sz + v.cells.size > cur.size)) = true := by simp; omega
      rw [if_neg hcond]
      exact h1
    · apply List.ext_getElem?
      intro j
      by_cases hj : j < k * sz
      · rw [List.getElem?_take_of_lt hj, List.getElem?_take_of_lt hj, hpre j (by rw [Nat.add_mul]; omega), lay_getElem? _ _ _ (by simpa using hfit), if_pos hj]
      · rw [List.getElem?_eq_none (by simp; omega), List.getElem?_eq_none (by simp; omega)]
    · intro i j e c u hi hj hu
      cases i with
      | zero =>
        simp at hi
        subst hi
        have hjl : j < sz := by rw [← hxz]; exact (List.getElem?_eq_some_iff.1 hj).1
        rw [Nat.add_zero, hpre _ (by rw [Nat.add_mul]; omega), lay_getElem? _ _ _ (by simpa using hfit), if_neg (by omega), if_pos (by simp; omega)] at hu
        rw [show k * sz + j - k * sz = j by omega] at hu
        exact hrow.2 j c u hj hu
      | succ i =>
        refine h4 i j e c u (by simpa using hi) hj ?_
        rwa [show k + 1 + i = k + (i + 1) by omega]

theorem lit_sound (hT : TabOK P tab) (h : Inv X M0 w0 M ρ st a w) {t : TypeId} {n : Nat} {parts : Array (Nat × Operand)} {d : Option Tmp} {K : AV → Tips → (Nat → Prop) → Prop} (hk : litK tab t n (evl st.tmps) parts.toList d st.tips st.U K) :
    ∃ u w' M' tips' U' v, (Instr.buildSlice t n (parts.map fun p => (p.1, a.eval p.2))).run P w = .ok u w' ∧ Inv X M0 w0 M' ρ { st with tips := tips', U := U' } a w' ∧ RpA M' ρ v u ∧ K v tips' U' := by
  unfold litK at hk
  split at hk
  · rename_i s1 s2 el z d ht
    split at hk
    · rename_i j hj
      obtain ⟨hparts, hmax, hpos, hk⟩ := hk
      rw [bindK_iff] at hk
      obtain ⟨es, hes, hez, hk⟩ := hk
      obtain ⟨dt, hdt, hok⟩ := (hT t _ ht).und
      cases dt <;> simp only [tdOK] at hok
      subst hok
      obtain ⟨inf, zv, hi, hi1, hi2, hz, hzl, hzs, _⟩ := (hT el j hj).info
      have hes' := allPV_some hes
      have hlen : es.length = n := by
        have e1 := congrArg List.length hes'
        have e2 := congrArg List.length hparts
        simp at e1 e2
        omega
      have hpl : parts.toList.length = n := by have := congrArg List.length hparts; simpa using this
      have hzip : (parts.map fun p => (p.1, a.eval p.2)).toList = (List.range' 0 (parts.toList.map fun p => a.eval p.2).length).zip (parts.toList.map fun p => a.eval p.2) := by
        rw [Array.toList_map, ← List.zip_map' (l := parts.toList) (f := fun p : Nat × Operand => p.1) (g := fun p => a.eval p.2), List.length_map, hpl, hparts, List.range_eq_range']
      have hrel : ∀ (i : Nat) x v, es[i]? = some x → (parts.toList.map fun p => a.eval p.2)[i]? = some v → Rp M x v := by
        intro i x v hx hv
        rw [List.getElem?_map, Option.map_eq_some_iff] at hv
        obtain ⟨p, hp, rfl⟩ := hv
        have e1 := congrArg (fun l => l[i]?) hes'
        simp only [List.getElem?_map, hp, hx, Option.map_some, Option.some.injEq] at e1
        have := evT_ok (tab := tab) h.evl (fun _ => rfl) el p.2
        rw [e1] at this
        cases this with | pv _ _ this => exact this
      have hz2 : ∀ cells : Array Value, cells.size = n * j.size → ∃ r, Instr.fill (fun i => some (i * j.size, j.size)) cells (parts.map fun p => (p.1, a.eval p.2)).toList = some r ∧ FlatR M j.size es r.toList := by
        intro cells hc
        obtain ⟨r, h1, _, h3, h4⟩ := fill_lit (M := M) hpos (parts.toList.map fun p => a.eval p.2) es 0 n cells hc (by simp; simpa using hpl) (by simp; rw [hlen]; simpa using hpl) hez hrel
        refine ⟨r, by rw [hzip]; exact h1, ⟨fun e he => (hez e he).2, by simpa [hlen] using h3, ?_⟩⟩
        intro i k e c v hi hk hv
        exact h4 i k e c v hi hk (by rw [Nat.zero_add]; exact hv)
      have hrun : ∃ r : Array Value, (Instr.buildSlice t n (parts.map fun p => (p.1, a.eval p.2))).run P w = .ok (.slice (some ⟨w.heap.size, 0, none⟩) n n) (w.alloc (.cells r el)) ∧ FlatR M j.size es r.toList ∧ r.size = n * j.size := by
        by_cases hn : n = 0
        · obtain ⟨r, h1, h2⟩ := hz2 #[] (by simp [hn])
          refine ⟨r, ?_, h2, by have := h2.len; simpa [hlen] using this⟩
          have e1 : (Array.range (n * inf.size)).map (fun k => (#[] : Array Value)[k % 0]!) = #[] := by simp [hn, Array.range_zero']
          simp [Instr.buildSlice, run_underlying hdt, sizeOf, typeInfo, hi, hn, newRow, hi1, Array.range_zero']
          simp at h1
          rw [h1]
          simp
        · obtain ⟨r, h1, h2⟩ := hz2 ((Array.range (n * j.size)).map (fun k => zv.cells[k % zv.cells.size]!)) (by simp)
          refine ⟨r, ?_, h2, by have := h2.len; simpa [hlen] using this⟩
          have hnz : n * j.size ≠ 0 := by
            have := Nat.mul_pos (Nat.pos_of_ne_zero hn) hpos
            omega
          have hmax' : ¬ (16777216 < n * j.size) := by omega
          have hgt : ¬ (n * j.size > 2 ^ 24) := by omega
          simp only [Instr.buildSlice, Sem.run_bind, run_underlying hdt, Result.andThen_ok, run_sizeOf (hT el j hj), if_neg hgt, if_neg hnz, zeroValue, typeInfo, run_program, hi, hz, Sem.run_pure]
          rw [h1]
          simp [newRow]
      obtain ⟨r, hrun, hfl, hrs⟩ := hrun
      have hi' := h.newRow r.toList #[] el (0 + n * j.size)
      have e1 : r.toList.toArray ++ #[] = r := by simp
      rw [e1] at hi'
      have hle : M.Le ((M.row w.heap.size 0 r.toList).setCap w.heap.size (0 + n * j.size)) :=
        (Mem.row_le (fun o _ _ => h.agree.cellNone (Nat.le_refl _))).trans (Mem.setCap_le (.inl (h.agree.capNone (Nat.le_refl _))))
      refine ⟨_, _, _, _, _, _, hrun, hi'.addTip d (b := w.heap.size) (off := 0) (hw := es.length * j.size) (vs := r) (T := el) (n := 0 + n * j.size) (alloc_new _ _) (by simp [Mem.setCap]) (by omega) ?_ h.size ?_ (fun b' => st.U b' ∨ b' = w.heap.size) ?_, .pv _ _ ?_, hk w.heap.size (fun hu => by have := (h.U _ hu).2.1; omega)⟩
      · intro o ho
        simp only [Mem.setCap, Mem.row]
        rw [if_neg (by rintro ⟨_, _, h3⟩; simp [hrs] at h3; rw [hlen] at ho; omega)]
        exact h.agree.cellNone (Nat.le_refl _)
      · intro s off' hw' hs'
        obtain ⟨_, ⟨vs2, T2, n2, h2, _⟩, _⟩ := h.tips s w.heap.size off' hw' hs'
        have := (Array.getElem?_eq_some_iff.1 h2).1
        omega
      · intro x hx; exact hx
      · have := FlatR.ownOf (s := d) (b := w.heap.size) (off := 0) (cap := n) (hfl.mono hle) (by omega) (by simp [Mem.setCap]) (by
          intro k v hv
          exact Mem.row_cell (M := M) hv)
        rw [hlen] at this
        exact this
    · exact hk.elim
  · exact hk.elim

theorem run_eqGuard_slice {op : BinOp} {t : TypeId} {x y : Operand} {b : Option Addr} {n c : Nat} {vb : Value} : (eqGuard op t x y (.slice b n c) vb).run P w = .ok () w := by
  cases op <;> rfl

theorem run_equalIn_nil (k : Nat) {t e : TypeId} (ht : P.underlying t = some (.slice e)) (b : Option Addr) (n c : Nat) : (Op.equalIn (k + 1) t (.slice b n c) (.slice none 0 0)).run P w = .ok b.isNone w := by
  cases b <;> simp only [Op.equalIn, Sem.run_bind, run_underlying ht, Result.andThen_ok, Sem.run_pure] <;> rfl

theorem run_equal_nil {t e : TypeId} (ht : P.underlying t = some (.slice e)) (b : Option Addr) (n c : Nat) : (Op.equal t (.slice b n c) (.slice none 0 0)).run P w = .ok b.isNone w := by
  exact run_equalIn_nil 9999 ht b n c

theorem nil_sound (h : Inv X M0 w0 M ρ st a w) {o : Oper} {t yt e : TypeId} {x y : Operand} {neg : Bool} (ho : o.op = .binOp (if neg then .neq else .eql) t x y yt) (ht : P.underlying t = some (.slice e)) (hy : isNilC y = true) {K : AV → Tips → (Nat → Prop) → Prop} (hk : nilK (evl st.tmps x) neg st.tips st.U K) :
    ∃ v, Comes1 P X M0 w0 o a w st v ∧ K v st.tips st.U := by
  have hy' : y = .const (.slice none 0 0) := by
    unfold isNilC at hy
    split at hy
    · rfl
    · cases hy
  subst hy'
  unfold nilK at hk
  have hx := h.evl x
  split at hk
  · rename_i x' hxe
    split at hk
    · rename_i sz es hes
      rw [hxe] at hx
      cases hx with
      | pv _ _ hx =>
        obtain ⟨b, cap, hv, hcap, hel⟩ := hx.elemAt hes
        have hkc := hk b.isNone (by
          intro hb
          have hb' : b = none := by simpa using hb
          subst hb'
          cases es with
          | nil => rfl
          | cons e es => obtain ⟨_, _, _, h1, _⟩ := hel 0 _ rfl; cases h1)
        refine ⟨_, ⟨_, w, M, ρ, ?_, h, .pv _ _ (.lit (.bool (if neg = true then !b.isNone else b.isNone)) rfl)⟩, hkc⟩
        obtain ⟨dst, op, type, pos, after, guard⟩ := o
        simp only at ho
        subst ho
        have hc : a.eval (.const (.slice none 0 0)) = .slice none 0 0 := rfl
        simp only [execOp, hv, hc]
        cases neg <;> simp only [if_true, if_false, Sem.run_bind, run_eqGuard_slice, Result.andThen_ok, binOp, run_equal_nil ht, Sem.run_pure, Bool.false_eq_true]
    · exact hk.elim
  · exact hk.elim

end
end Go.Ax
