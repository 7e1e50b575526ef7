/- The abstract layer, part 23: what is computed behind names is what is computed. -/
import Derived.Test.YtbbncbojkkackaaAxZ
set_option linter.unusedSimpArgs false
set_option linter.unusedVariables false
namespace Go.Ax
section
variable {P : Program} {tab : Tab} {ms : List Nat}

theorem O.intBin_std (op : BinOp) (k : IntKind) (x y : Int) : O.intBin Orc.std op k x y = Ax.intBin op k x y := by cases op <;> rfl

theorem O.strBin_std (op : BinOp) (x y : ByteArray) : O.strBin Orc.std op x y = Ax.strBin op x y := by
  cases op <;> try rfl
  simp only [O.strBin, Ax.strBin, Orc.std]
  by_cases h : x.size + y.size ≤ 9223372036854775807 <;> simp [h]

theorem O.binA_std (t : TypeId) (op : BinOp) (a b : AV) : O.binA Orc.std tab t op a b = Ax.binA tab t op a b := by
  unfold O.binA Ax.binA
  simp only [O.intBin_std, O.strBin_std, O.shA]
  rfl

theorem O.unA_std (op : UnOp) (a : AV) : O.unA Orc.std op a = Ax.unA op a := rfl

theorem O.convA_std (s d : TypeId) (x : AV) : O.convA Orc.std tab s d x = Ax.convA tab s d x := by
  unfold O.convA Ax.convA
  simp only [Orc.std, Option.map_map, Function.comp_def]
  rfl

theorem O.idxA_std (t : TypeId) (x i : AV) : O.idxA Orc.std tab t x i = Ax.idxA tab t x i := by
  unfold O.idxA Ax.idxA
  split
  · rename_i ht
    simp only [ht]
    split
    · rename_i j sz es hj hes
      simp only [hj, hes, Orc.std]
      by_cases h1 : j.size = sz
      · rename_i n _ _
        by_cases h2 : 0 ≤ n <;> simp [h1, h2]
      · simp [h1]
    · rename_i h
      split
      · rename_i j sz es hj hes; exact absurd hes (h j sz es hj)
      · rfl
  · rename_i b sz len k n ht
    simp only [ht]
    split
    · rename_i j hj
      simp only [hj, Orc.std]
      by_cases g1 : j.size = sz
      · by_cases g2 : 0 ≤ n ∧ n < (len : Int) <;> simp [g1, g2]
      · simp [g1]
    · rename_i hj
      simp only [hj]
  · rename_i h1 h2
    split
    · exact absurd rfl (h1 _ _ _ _ _ _ _ ‹_› rfl)
    · exact absurd rfl (h2 _ _ _ _ _ _ _ _ _ ‹_› rfl)
    · rfl

theorem O.strIdxA_std (t : TypeId) (x i : AV) : O.strIdxA Orc.std tab t x i = Ax.strIdxA tab t x i := by
  unfold O.strIdxA Ax.strIdxA
  split
  · rename_i n ht
    simp only [ht, Orc.std]
    by_cases h : 0 ≤ n <;> simp [h, Function.comp_def]
  · rename_i h
    split
    · exact absurd rfl (h _ _ _ _ _ _ ‹_› rfl)
    · rfl

theorem O.lenA_std (t : TypeId) (x : AV) : O.lenA Orc.std tab t x = Ax.lenA tab t x := rfl

theorem sub_std (es : List PV) (l h : Int) : Orc.std.sub es l h = if 0 ≤ l ∧ l ≤ h ∧ h ≤ es.length then some ((es.drop l.toNat).take (h.toNat - l.toNat)) else none := rfl

theorem sl_std {j sz : Nat} (es : List PV) (l h : Int) : (if j = sz ∧ 0 < sz then (Orc.std.sub es l h).map fun r => AV.pv (.sl sz r) else none) =
    if j = sz ∧ 0 < sz ∧ 0 ≤ l ∧ l ≤ h ∧ h ≤ es.length then some (AV.pv (.sl sz ((es.drop l.toNat).take (h.toNat - l.toNat)))) else none := by
  rw [sub_std]
  by_cases h1 : j = sz ∧ 0 < sz
  · by_cases h2 : 0 ≤ l ∧ l ≤ h ∧ h ≤ es.length
    · rw [if_pos h1, if_pos h2, if_pos ⟨h1.1, h1.2, h2⟩]; rfl
    · rw [if_pos h1, if_neg h2, if_neg (fun q => h2 q.2.2)]; rfl
  · rw [if_neg h1, if_neg (fun q => h1 ⟨q.1, q.2.1⟩)]

theorem own_std {j sz s : Nat} {ob : Option (Nat × Nat)} (es : List PV) (l h : Int) : (if j = sz ∧ 0 < sz then
          O.ownP s ob sz l (Orc.std.sub es l h) (Orc.std.lt l h) else none) =
    if j = sz ∧ 0 < sz ∧ 0 ≤ l ∧ l ≤ h ∧ h ≤ es.length then
          (if 0 < h.toNat - l.toNat then some (AV.pv (.own s (ob.map fun p => (p.1, p.2 + l.toNat * sz)) sz ((es.drop l.toNat).take (h.toNat - l.toNat))))
           else some (AV.pv (.sl sz []))) else none := by
  rw [sub_std]
  by_cases h1 : j = sz ∧ 0 < sz
  · by_cases h2 : 0 ≤ l ∧ l ≤ h ∧ h ≤ es.length
    · rw [if_pos h1, if_pos h2, if_pos ⟨h1.1, h1.2, h2⟩]
      by_cases h3 : l < h
      · have h4 : 0 < h.toNat - l.toNat := by omega
        have h5 : Orc.std.lt l h = true := by simp [Orc.std, h3]
        rw [if_pos h4, h5]; rfl
      · have h4 : ¬ 0 < h.toNat - l.toNat := by omega
        have h5 : Orc.std.lt l h = false := by simp [Orc.std, h3]
        rw [if_neg h4, h5]; rfl
    · rw [if_pos h1, if_neg h2, if_neg (fun q => h2 q.2.2)]; rfl
  · rw [if_neg h1, if_neg (fun q => h1 ⟨q.1, q.2.1⟩)]

theorem ssub_std (s : ByteArray) (l h : Int) : (Orc.std.ssub s l h).map (fun r => AV.pv (.lit (.string r))) = if 0 ≤ l ∧ l ≤ h ∧ h ≤ s.size then some (AV.pv (.lit (.string (s.extract l.toNat h.toNat)))) else none := by
  show Option.map _ (if 0 ≤ l ∧ l ≤ h ∧ h ≤ s.size then some (s.extract l.toNat h.toNat) else none) = _
  split <;> rfl

theorem O.sliceA_std (t : TypeId) (x : AV) (lo hi mx : Option AV) : O.sliceA Orc.std tab t x lo hi mx = Ax.sliceA tab t x lo hi mx := by
  unfold O.sliceA Ax.sliceA
  simp only [sl_std, own_std, ssub_std]
  rfl

theorem O.dval_std (o : Oper) (e : Operand → AV) (bx : List (Nat × List AV)) : O.dval Orc.std tab o e bx = Ax.dval tab o e bx := by
  unfold O.dval Ax.dval
  simp only [O.binA_std, O.unA_std, O.convA_std, O.idxA_std, O.strIdxA_std, O.sliceA_std, O.lenA_std]
  rfl

theorem O.srcA_std (j : TI) (tx : TypeId) (x : AV) : O.srcA Orc.std tab j tx x = Ax.srcA tab j tx x := by
  unfold O.srcA Ax.srcA
  have : ∀ (sz : Nat) (es : List PV), (if sz = j.size then some es else O.srcE es) = if sz = j.size ∨ es = [] then some es else none := by
    intro sz es
    by_cases h : sz = j.size
    · simp [h]
    · cases es <;> simp [h, O.srcE]
  simp only [this]
  rfl

theorem bindK_mn {α : Type} {o : Option α} {K K' : α → Prop} (h : bindK o K) (g : ∀ x, K x → K' x) : bindK o K' := by
  cases o with
  | none => exact h
  | some v => exact g v h

theorem O.appK_ok {t tx : TypeId} {s x : AV} {d : Option Tmp} {tips : Tips} {U : Nat → Prop} {K K' : AV → Tips → (Nat → Prop) → Prop}
    (h : O.appK Orc.std tab t tx s x d tips U K) (g : ∀ v t U, K v t U → K' v t U) : Ax.appK tab t tx s x d tips U K' := by
  unfold O.appK at h
  unfold Ax.appK
  split at h
  · rename_i ht
    simp only [ht]
    split at h
    · rename_i hj
      simp only [hj]
      rw [O.srcA_std] at h
      refine bindK_mn h ?_
      rintro ys ⟨h1, h2, h3, h4, h5⟩
      exact ⟨h1, h2, h3, h4.1, h4.2, fun ob' q1 q2 => g _ _ _ (h5 ob' q1 q2)⟩
    · exact h.elim
  · exact h.elim

theorem O.litK_ok {t : TypeId} {n : Nat} {e : Operand → AV} {parts : List (Nat × Operand)} {d : Option Tmp} {tips : Tips} {U : Nat → Prop} {K K' : AV → Tips → (Nat → Prop) → Prop}
    (h : O.litK Orc.std tab t n e parts d tips U K) (g : ∀ v t U, K v t U → K' v t U) : Ax.litK tab t n e parts d tips U K' := by
  unfold O.litK at h
  unfold Ax.litK
  split at h
  · rename_i ht
    simp only [ht]
    split at h
    · rename_i hj
      simp only [hj]
      obtain ⟨h1, h2, h3, h4⟩ := h
      refine ⟨by simpa using h1, by simpa using h2, by simpa using h3, bindK_mn h4 ?_⟩
      rintro es ⟨h5, h6⟩
      refine ⟨?_, fun b hb => g _ _ _ (h6 b hb)⟩
      intro x hx
      rw [List.all_eq_true] at h5
      simpa using h5 x hx
    · exact h.elim
  · exact h.elim

theorem O.callK_ok {f : AV} {args : List AV} {d : Option Tmp} {tips : Tips} {U : Nat → Prop} {K K' : AV → Tips → (Nat → Prop) → Prop}
    (h : O.callK Orc.std P f args d tips U K) (g : ∀ v t U, K v t U → K' v t U) : Ax.callK P f args d tips U K' := by
  unfold O.callK at h
  unfold Ax.callK
  split at h
  · obtain ⟨h1, Q, h2, h3⟩ := h
    exact ⟨h1, Q, h2, fun r x q1 q2 => g _ _ _ (h3 r x q1 q2)⟩
  · exact h.elim

theorem nilK_ok {x : AV} {neg : Bool} {tips : Tips} {U : Nat → Prop} {K K' : AV → Tips → (Nat → Prop) → Prop}
    (h : nilK x neg tips U K) (g : ∀ v t U, K v t U → K' v t U) : nilK x neg tips U K' := by
  unfold nilK at h ⊢
  split at h
  · split at h
    · exact fun c hc => g _ _ _ (h c hc)
    · exact h.elim
  · exact h.elim

theorem O.neff_ok {o : Oper} {e : Operand → AV} {tips : Tips} {U : Nat → Prop} {K K' : AV → Tips → (Nat → Prop) → Prop}
    (h : O.neff Orc.std P tab o e tips U K) (g : ∀ v t U, K v t U → K' v t U) : Ax.neff P tab o e tips U K' := by
  unfold O.neff at h
  unfold Ax.neff
  split at h
  · rename_i heq
    simp only [heq]
    split at h
    · rename_i h1 h2
      simp only [h1, h2]
      exact O.appK_ok h g
    · exact h.elim
  · rename_i heq
    simp only [heq]
    exact O.litK_ok h g
  · rename_i heq
    simp only [heq]
    exact ⟨h.1, O.callK_ok h.2 g⟩
  · rename_i heq
    simp only [heq]
    refine ⟨h.1, h.2.1, ?_⟩
    have h := h.2.2
    split at h
    · rename_i h1
      simp only [h1]
      exact nilK_ok h g
    · exact h.elim
  · rename_i heq
    simp only [heq]
    refine ⟨h.1, h.2.1, ?_⟩
    have h := h.2.2
    split at h
    · rename_i h1
      simp only [h1]
      exact nilK_ok h g
    · exact h.elim
  · exact h.elim

theorem O.callX_ok {o : Oper} {f : Operand} {args : Array Operand} {argTypes : Array TypeId} {st : St} {K K' : St → Prop}
    (h : O.callX Orc.std P tab o f args argTypes st K) (g : ∀ st, K st → K' st) : Ax.callX P tab o f args argTypes st K' := by
  unfold O.callX at h
  unfold Ax.callX
  split at h
  · rename_i heq
    simp only [heq]
    obtain ⟨h1, exts, h2, h3, Q, h4, h5⟩ := h
    exact ⟨h1, exts, h2, h3, Q, h4, fun r xs q1 q2 q3 => ⟨(h5 r xs q1 q2 q3).1, g _ (h5 r xs q1 q2 q3).2⟩⟩
  · exact h.elim

theorem beff_ok {o : Oper} {st : St} {K K' : St → Prop} (h : beff tab o st K) (g : ∀ st, K st → K' st) : beff tab o st K' := by
  unfold beff at h ⊢
  split at h
  · split at h
    · exact ⟨h.1, g _ h.2⟩
    · exact h.elim
  · split at h
    · exact ⟨h.1, g _ h.2⟩
    · exact h.elim
  · split at h
    · exact bindK_mn h fun x hx => ⟨hx.1, hx.2.1, g _ hx.2.2⟩
    · exact h.elim
  · split at h
    · split at h
      · exact ⟨h.1, h.2.1, h.2.2.1, h.2.2.2.1, h.2.2.2.2.1, h.2.2.2.2.2.1, h.2.2.2.2.2.2.1, g _ h.2.2.2.2.2.2.2⟩
      · exact h.elim
    · exact h.elim
  · exact h.elim

theorem O.beff_ok {o : Oper} {st : St} {K K' : St → Prop} (h : O.beff Orc.std ms tab o st K) (g : ∀ st, K st → K' st) : Ax.beff tab o st K' := by
  unfold O.beff at h
  unfold Ax.beff
  split at h
  · rename_i q1 q2
    simp only [q1, q2]
    split at h
    · rename_i q
      simp only [q]
      exact ⟨h.1, g _ h.2⟩
    · exact h.elim
  · rename_i q1 q2
    simp only [q1, q2]
    split at h
    · rename_i q
      simp only [q]
      exact ⟨h.1, g _ h.2⟩
    · exact h.elim
  · rename_i q1
    simp only [q1]
    split at h
    · rename_i a1 a2 a3
      simp only [a1, a2, a3]
      refine bindK_mn h fun cs hx => ?_
      have h2 := hx.2
      split at h2
      · exact ⟨hx.1, by rw [hx.1]; exact h2.1, g _ h2.2⟩
      · exact ⟨hx.1, h2.1, g _ h2.2⟩
    · exact h.elim
  · rename_i q1 q2
    simp only [q1, q2]
    split at h
    · rename_i a1 a2 a3
      simp only [a1, a2, a3]
      split at h
      · rename_i a4
        simp only [a4]
        exact ⟨h.1, h.2.1.1, h.2.1.2.1, h.2.1.2.2, h.2.2.1, h.2.2.2.1, h.2.2.2.2.1, g _ h.2.2.2.2.2⟩
      · exact h.elim
    · exact h.elim
  · exact h.elim

theorem O.aop_ok {o : Oper} {st : St} {K K' : St → Prop} (h : O.aop Orc.std ms P tab o K st) (g : ∀ st, K st → K' st) : Ax.aop P tab o K' st := by
  unfold O.aop at h
  unfold Ax.aop
  split at h
  · rename_i hc
    simp only [hc]
    rw [O.dval_std] at h
    exact bindK_mn h fun x hx => g _ hx
  · rename_i hc
    simp only [hc]
    rcases h with h | h
    · exact .inl (O.neff_ok h fun _ _ _ q => g _ q)
    · refine .inr ?_
      split at h
      · rename_i ho
        simp only [ho]
        exact O.callX_ok h g
      · exact h.elim
  · rename_i hc
    simp only [hc]
    exact O.beff_ok h g

theorem O.aopQ_ok {o : Oper} {st : St} {K K' : St → Prop} (h : O.aopQ Orc.std ms P tab o K st) (g : ∀ st, K st → K' st) : Ax.aopQ P tab o K' st := by
  unfold O.aopQ at h
  unfold Ax.aopQ
  split at h
  · rename_i hc
    simp only [hc]
    rw [O.dval_std] at h
    exact bindK_mn h fun x hx => g _ hx
  · rename_i hc
    simp only [hc]
    exact O.neff_ok h fun _ _ _ q => g _ q
  · rename_i hc
    simp only [hc]
    exact O.beff_ok h g

theorem guarded_ok {ops : Array Oper} {o : Oper} {op op' : (St → Prop) → St → Prop} {K K' : St → Prop} {st : St} (h : guarded ops o op K st)
    (g : ∀ st, K st → K' st) (m : ∀ st, op K st → op' K' st) : guarded ops o op' K' st := by
  unfold guarded at h ⊢
  refine bindK_mn h ?_
  intro b hb
  cases b with
  | true => exact m _ hb
  | false => exact g _ hb

theorem O.aops_ok {ops : Array Oper} : ∀ {l : List Oper} {st : St} {K K' : St → Prop}, O.aops Orc.std ms P tab ops l K st → (∀ st, K st → K' st) → Ax.aops P tab ops l K' st
  | [], st, K, K', h, g => g _ h
  | o :: r, st, K, K', h, g => guarded_ok h (fun st h => O.aops_ok h g) (fun st h => O.aop_ok h fun st h => O.aops_ok h g)

theorem O.aopsQ_ok {ops : Array Oper} : ∀ {l : List Nat} {st : St} {K K' : St → Prop}, O.aopsQ Orc.std ms P tab ops l K st → (∀ st, K st → K' st) → Ax.aopsQ P tab ops l K' st
  | [], st, K, K', h, g => g _ h
  | i :: r, st, K, K', h, g => by
    unfold O.aopsQ at h
    unfold Ax.aopsQ
    split at h
    · rename_i ho
      simp only [ho]
      exact guarded_ok h (fun st h => O.aopsQ_ok h g) (fun st h => O.aopQ_ok h fun st h => O.aopsQ_ok h g)
    · exact h.elim

theorem thenK_ok {n n' : St → Prop} {K K' : Exit → St → Prop} (hn : ∀ st, n st → n' st) (g : ∀ e st, K e st → K' e st) : ∀ e st, thenK n K e st → thenK n' K' e st := by
  intro e st h
  cases e <;> first | exact hn _ h | exact g _ _ h

theorem blockK_ok {id : Nat} {K K' : Exit → St → Prop} (g : ∀ e st, K e st → K' e st) : ∀ e st, blockK id K e st → blockK id K' e st := by
  intro e st h
  cases e with
  | exit id' =>
    simp only [blockK] at h ⊢
    split at h <;> (rename_i q; simp only [q, if_true, if_false]; exact g _ _ h)
  | _ => exact g _ _ h

theorem O.awp_ok : ∀ {c : Code} {st : St} {K K' : Exit → St → Prop}, O.awp Orc.std ms P tab c K st → (∀ e st, K e st → K' e st) → Ax.awp P tab c K' st := by
  intro c
  induction c with
  | skip => exact fun h g => g _ _ h
  | region _ ops any =>
    intro st K K' h g
    cases any with
    | false => exact O.aops_ok h (g _)
    | true =>
      obtain ⟨l, h1, h2⟩ := h
      simp only [O.ordOK, Bool.and_eq_true, decide_eq_true_eq] at h1
      obtain ⟨h3, h4⟩ := h1
      subst h3
      exact ⟨h4, O.aopsQ_ok h2 (g _)⟩
  | seq a b iha ihb => exact fun h g => iha h (thenK_ok (fun st h => ihb h g) g)
  | cond c x y ihx ihy =>
    intro st K K' h g
    unfold O.awp at h
    unfold Ax.awp
    split at h
    · rename_i he
      simp only [he]
      split at h
      · exact ihx h g
      · exact ihy h g
    · exact h.elim
  | block id c ih => exact fun h g => ih h (blockK_ok g)
  | loop c ih =>
    rintro st K K' ⟨I, h1, h2⟩ g
    exact ⟨I, h1, fun n st hi => ih (h2 n st hi) (thenK_ok (fun st h => h) g)⟩
  | exit id => exact fun h g => g _ _ h
  | ret => exact fun h g => g _ _ h
  | _ => intro st K K' h; exact h.elim

theorem O.fin_std {fn : Func} {n : Nat} {Q : PV → List (List AV) → Prop} : O.fin Orc.std tab fn n Q = Ax.fin tab fn n Q := rfl

/-- Loops. -/
theorem O.awp_loop {O' : Orc} {c : Code} {K : Exit → St → Prop} {st : St} {ι : Type} (inv : ι → St) (ok : ι → Prop) (μ : ι → Nat) (i0 : ι) (h0 : ok i0) (hle : LeC st (inv i0))
    (round : ∀ i, ok i → ∀ Nx : St → Prop, (∀ st' j, ok j → μ j < μ i → LeC st' (inv j) → Nx st') → O.awp O' ms P tab c (thenK Nx K) (inv i)) : O.awp O' ms P tab (.loop c) K st := by
  refine ⟨fun n st => ∃ i, ok i ∧ μ i = n ∧ st = inv i, ⟨μ i0, inv i0, hle.le, i0, h0, rfl, rfl⟩, ?_⟩
  rintro n _ ⟨i, hi, rfl, rfl⟩
  exact round i hi _ fun st j hj hlt hl => ⟨μ j, hlt, inv j, hl.le, j, hj, rfl, rfl⟩

/-- A function's contract, by evaluation. -/
theorem AC.introO (hT : TabOK P tab) (hm : P.follows .mixedOrders = true) {f : FuncId} {fn : Func} {c : Code} {args : List AV} {exts : List (List AV)} {Q : PV → List (List AV) → Prop} (hf : P.funcs[f]? = some fn) (hb : fn.body = some c) (hname : (fn.name == "runtime.NumGoroutine") = false)
    (ms : List Nat) (h : ∀ O' : Orc, O' = Orc.std → O.awp O' ms P tab c (O.fin O' tab fn exts.length Q) { tmps := args ++ List.replicate (fn.ntmps - args.length) .bot, boxes := (exts.zipIdx 1000).map (fun p => (p.2, p.1)), tips := [], U := fun _ => False }) : AC P f args exts Q :=
  AC.intro hT hm hf hb hname (O.awp_ok (ms := ms) (h _ rfl) fun _ _ h => h)

end
end Go.Ax
