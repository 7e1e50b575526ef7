/- The abstract layer, part 19: a region whose order is drawn. -/
import Derived.Test.YtbbncbojkkackaaAxP
set_option linter.unusedSimpArgs false
namespace Go.Ax
section
variable {P : Program} {tab : Tab}

theorem appK_mono {t tx : TypeId} {s x : AV} {d : Option Tmp} {tips : Tips} {U : Nat → Prop} {K K' : AV → Tips → (Nat → Prop) → Prop} (h : ∀ v t U, K v t U → K' v t U) (hk : appK tab t tx s x d tips U K) : appK tab t tx s x d tips U K' := by
  unfold appK at *
  split at hk
  · split at hk
    · exact bindK_mono (fun ys ⟨a, b, c, d, e, f⟩ => ⟨a, b, c, d, e, fun ob h1 h2 => h _ _ _ (f ob h1 h2)⟩) hk
    · exact hk
  · exact hk

theorem litK_mono {t : TypeId} {n : Nat} {e : Operand → AV} {parts : List (Nat × Operand)} {d : Option Tmp} {tips : Tips} {U : Nat → Prop} {K K' : AV → Tips → (Nat → Prop) → Prop} (h : ∀ v t U, K v t U → K' v t U) (hk : litK tab t n e parts d tips U K) : litK tab t n e parts d tips U K' := by
  unfold litK at *
  split at hk
  · split at hk
    · obtain ⟨a, b, c, hk⟩ := hk
      exact ⟨a, b, c, bindK_mono (fun es ⟨d, f⟩ => ⟨d, fun b hb => h _ _ _ (f b hb)⟩) hk⟩
    · exact hk
  · exact hk

theorem callK_mono {f : AV} {args : List AV} {d : Option Tmp} {tips : Tips} {U : Nat → Prop} {K K' : AV → Tips → (Nat → Prop) → Prop} (h : ∀ v t U, K v t U → K' v t U) (hk : callK P f args d tips U K) : callK P f args d tips U K' := by
  unfold callK at *
  split at hk
  · obtain ⟨a, Q, b, c⟩ := hk
    exact ⟨a, Q, b, fun r x hq hb => h _ _ _ (c r x hq hb)⟩
  · exact hk

theorem nilK_mono {x : AV} {neg : Bool} {tips : Tips} {U : Nat → Prop} {K K' : AV → Tips → (Nat → Prop) → Prop} (h : ∀ v t U, K v t U → K' v t U) (hk : nilK x neg tips U K) : nilK x neg tips U K' := by
  unfold nilK at *
  split at hk
  · split at hk
    · exact fun c hc => h _ _ _ (hk c hc)
    · exact hk
  · exact hk

theorem neff_mono {o : Oper} {e : Operand → AV} {tips : Tips} {U : Nat → Prop} {K K' : AV → Tips → (Nat → Prop) → Prop} (h : ∀ v t U, K v t U → K' v t U) (hk : neff P tab o e tips U K) : neff P tab o e tips U K' := by
  unfold neff at *
  split at hk
  · split at hk
    · exact appK_mono h hk
    · exact hk
  · exact litK_mono h hk
  · exact ⟨hk.1, callK_mono h hk.2⟩
  · obtain ⟨a, b, hk⟩ := hk
    refine ⟨a, b, ?_⟩
    split at hk
    · exact nilK_mono h hk
    · exact hk
  · obtain ⟨a, b, hk⟩ := hk
    refine ⟨a, b, ?_⟩
    split at hk
    · exact nilK_mono h hk
    · exact hk
  · exact hk

theorem neff_congr {o : Oper} {e e' : Operand → AV} {tips : Tips} {U : Nat → Prop} {K : AV → Tips → (Nat → Prop) → Prop} (h : ∀ x ∈ o.op.operands, e x = e' x) : neff P tab o e tips U K = neff P tab o e' tips U K := by
  obtain ⟨dst, op, type, pos, after, guard⟩ := o
  simp only at h
  cases op with
  | call c =>
    obtain ⟨callee, args, argTypes⟩ := c
    cases callee with
    | value f =>
      simp only [Op.operands, Call.operands] at h
      have hf : e f = e' f := h f (by simp)
      have ha : argsT tab e { callee := .value f, args, argTypes } = argsT tab e' { callee := .value f, args, argTypes } := by
        unfold argsT
        apply List.map_congr_left
        intro p hp
        have := (List.of_mem_zip hp).1
        exact evT_congr (h p.1 (by simp; right; simpa using this))
      unfold neff
      simp only [hf, ha]
    | invoke r m => rfl
    | builtin b =>
      cases b <;> try rfl
      simp only [Op.operands, Call.operands] at h
      unfold neff
      simp only []
      cases hargs : args.toList with
      | nil => rfl
      | cons s r =>
        cases r with
        | nil => rfl
        | cons x r =>
          cases r with
          | cons _ _ => rfl
          | nil =>
            have h1 : e s = e' s := h s (by rw [Array.mem_append]; right; rw [← Array.mem_toList_iff, hargs]; simp)
            have h2 : e x = e' x := h x (by rw [Array.mem_append]; right; rw [← Array.mem_toList_iff, hargs]; simp)
            cases htys : argTypes.toList with
            | nil => rfl
            | cons t q =>
              cases q with
              | nil => rfl
              | cons tx q =>
                cases q with
                | nil => simp only [evT_congr h1, evT_congr h2]
                | cons _ _ => rfl
  | buildSlice t n parts =>
    simp only [Op.operands] at h
    have : ∀ el, (parts.toList.map fun p => evT tab e el p.2) = parts.toList.map fun p => evT tab e' el p.2 := by
      intro el
      apply List.map_congr_left
      intro p hp
      exact evT_congr (h p.2 (by simp; exact ⟨p.1, by simpa using hp⟩))
    unfold neff litK
    simp only [this]
  | binOp op t x y yt =>
    have h1 : e x = e' x := h x (by simp [Op.operands])
    unfold neff
    cases op <;> simp only [h1]
  | _ => rfl

theorem evl_set {tmps : List AV} {d : Nat} {v : AV} {x : Operand} (h : x ≠ .tmp d) : evl (tmps.set d v) x = evl tmps x := by
  cases x with
  | tmp t =>
    have : d ≠ t := fun e => h (by rw [e])
    simp [evl, List.getD_eq_getElem?_getD, List.getElem?_set_ne this]
  | _ => rfl

theorem evl_put {st : St} {d : Option Tmp} {v : AV} {x : Operand} (h : ∀ d', d = some d' → x ≠ .tmp d') : evl (st.put d v).tmps x = evl st.tmps x := by
  cases d with
  | none => rfl
  | some d => exact evl_set (h d rfl)

theorem put_boxes (st : St) (d : Option Tmp) (v : AV) : (st.put d v).boxes = st.boxes := by cases d <;> rfl
theorem put_tips (st : St) (d : Option Tmp) (v : AV) : (st.put d v).tips = st.tips := by cases d <;> rfl
theorem put_U (st : St) (d : Option Tmp) (v : AV) : (st.put d v).U = st.U := by cases d <;> rfl

theorem put_comm (st : St) {x y : Option Tmp} (v u : AV) (h : ∀ d, x = some d → y ≠ some d) : (st.put x v).put y u = (st.put y u).put x v := by
  cases x with
  | none => rfl
  | some d =>
    cases y with
    | none => rfl
    | some e =>
      have hne : d ≠ e := fun he => h d rfl (he ▸ rfl)
      simp [St.put, List.set_comm _ _ hne]

theorem operands_put {ops : Array Oper} {st : St} {o : Oper} {d : Option Tmp} {v : AV} (h : ∀ d', d = some d' → d' ∉ o.looksAt ops) : ∀ x ∈ o.op.operands, evl (st.put d v).tmps x = evl st.tmps x := by
  intro x hx
  refine evl_put fun d' hd e => h d' hd ?_
  subst e
  exact List.mem_append_left _ (List.mem_filterMap.2 ⟨.tmp d', by simpa using hx, rfl⟩)

theorem want_put {ops : Array Oper} {st : St} {o : Oper} {d : Option Tmp} {v : AV} (h : ∀ d', d = some d' → d' ∉ o.looksAt ops) : want ops o (st.put d v) = want ops o st := by
  cases d with
  | none => rfl
  | some d =>
    unfold want
    cases hg : o.guard with
    | none => rfl
    | some gw =>
      obtain ⟨g, w⟩ := gw
      simp only []
      cases ht : (ops[g]?).bind (·.dst) with
      | none => rfl
      | some t =>
        have hne : d ≠ t := fun e => h d rfl (by subst e; simp [Oper.looksAt, hg, ht])
        simp only [St.put, List.getElem?_set_ne hne]

theorem want_with {ops : Array Oper} {st : St} {o : Oper} (tips : Tips) (U : Nat → Prop) : want ops o { st with tips := tips, U := U } = want ops o st := rfl

/-- What an operation that computes or reads yields, its guard looked at. -/
def YA (tab : Tab) (ops : Array Oper) (o : Oper) (v : AV) (st : St) : Prop :=
  (want ops o st = some true ∧ dval tab o (evl st.tmps) st.boxes = some v) ∨ (want ops o st = some false ∧ v = .undef)

theorem ya_of {ops : Array Oper} {o : Oper} (hd : cls o = .d) {K : St → Prop} {st : St} (h : guarded ops o (aopQ P tab o) K st) : ∃ v, YA tab ops o v st ∧ K (st.put o.dst v) := by
  unfold guarded at h
  rw [bindK_iff] at h
  obtain ⟨g, hg, h⟩ := h
  cases g with
  | true =>
    have h3 := h
    unfold aopQ at h3
    rw [hd] at h3
    simp only [] at h3
    rw [bindK_iff] at h3
    obtain ⟨v, hv, hk⟩ := h3
    exact ⟨v, .inl ⟨hg, hv⟩, hk⟩
  | false => exact ⟨_, .inr ⟨hg, rfl⟩, h⟩

theorem of_ya {ops : Array Oper} {o : Oper} (hd : cls o = .d) {K : St → Prop} {st : St} {v : AV} (hy : YA tab ops o v st) (hk : K (st.put o.dst v)) : guarded ops o (aopQ P tab o) K st := by
  unfold guarded
  rcases hy with ⟨hg, hv⟩ | ⟨hg, rfl⟩
  · rw [hg]
    show aopQ P tab o K st
    unfold aopQ
    rw [hd]
    simp only []
    rw [hv]; exact hk
  · rw [hg]
    exact hk

theorem ya_put {ops : Array Oper} {o : Oper} {st : St} {d : Option Tmp} {u v : AV} (h : ∀ d', d = some d' → d' ∉ o.looksAt ops) (hy : YA tab ops o v st) : YA tab ops o v (st.put d u) := by
  unfold YA at *
  rw [want_put h, put_boxes, dval_congr o (operands_put (ops := ops) h)]
  exact hy

theorem guarded_mono {ops : Array Oper} {o : Oper} {K K' : St → Prop} (h : ∀ st, K st → K' st) {st : St} (hk : guarded ops o (aopQ P tab o) K st) (hb : cls o ≠ .b) : guarded ops o (aopQ P tab o) K' st := by
  unfold guarded at *
  refine bindK_mono (fun g h3 => ?_) hk
  cases g with
  | false => exact h _ h3
  | true =>
  unfold aopQ at *
  simp only [] at h3 ⊢
  split at h3
  · exact bindK_mono (fun v hv => h _ hv) h3
  · exact neff_mono (fun _ _ _ hv => h _ hv) h3
  · exact absurd ‹_› hb

/-- Two operations of which one computes change places. -/
theorem swap {ops : Array Oper} {ok oi : Oper} (hk : cls ok = .d) (hi : cls oi ≠ .b) (hap : ok.apart ops oi = true) {K : St → Prop} {st : St} (h : guarded ops ok (aopQ P tab ok) (guarded ops oi (aopQ P tab oi) K) st) :
    guarded ops oi (aopQ P tab oi) (guarded ops ok (aopQ P tab ok) K) st := by
  obtain ⟨a1, a2, a3⟩ := Oper.apart_spec hap
  obtain ⟨v, hy, h⟩ := ya_of hk h
  unfold guarded at h
  rw [want_put a1, bindK_iff] at h
  obtain ⟨g, hg, h3⟩ := h
  rw [guarded, hg, bindK_some]
  cases g with
  | true =>
    simp only [] at h3 ⊢
    unfold aopQ at h3 ⊢
    split at h3
    · rename_i hc
      rw [put_boxes, dval_congr oi (operands_put (ops := ops) a1)] at h3
      refine bindK_mono (fun u hu => ?_) h3
      rw [put_comm _ _ _ a2] at hu
      exact of_ya hk (ya_put a3 hy) hu
    · rename_i hc
      rw [put_tips, put_U, neff_congr (operands_put (ops := ops) a1)] at h3
      refine neff_mono (fun u tips U hu => ?_) h3
      have e1 : ({ st.put ok.dst v with tips := tips, U := U } : St) = ({ st with tips := tips, U := U } : St).put ok.dst v := by cases ok.dst <;> rfl
      rw [e1, put_comm _ _ _ a2] at hu
      exact of_ya hk (ya_put a3 (show YA tab ops ok v { st with tips := tips, U := U } from hy)) hu
    · exact absurd ‹_› hi
  | false =>
    simp only [] at h3 ⊢
    rw [put_comm _ _ _ a2] at h3
    exact of_ya hk (ya_put a3 hy) h3

def aOpI (P : Program) (tab : Tab) (ops : Array Oper) (i : Nat) (K : St → Prop) (st : St) : Prop :=
  match ops[i]? with
  | some o => guarded ops o (aopQ P tab o) K st
  | none => False

theorem front {ops : Array Oper} {i : Nat} : ∀ (L : List Nat) (listed : Array Bool), chk ops L listed = true → i ∈ Region.ready .any ops listed →
    ∃ L', chk ops L' (listed.setIfInBounds i true) = true ∧ L'.length + 1 = L.length ∧ ∀ (K : St → Prop) (st : St), aopsQ P tab ops L K st → aOpI P tab ops i (aopsQ P tab ops L' K) st
  | [], listed, h, hi => by
    simp only [chk, List.isEmpty_iff] at h
    rw [h] at hi; cases hi
  | k :: L, listed, h, hi => by
    simp only [chk, Bool.and_eq_true, List.contains_iff_mem] at h
    obtain ⟨⟨hk, hc⟩, hL⟩ := h
    by_cases e : i = k
    · subst e
      refine ⟨L, hL, rfl, fun K st hst => ?_⟩
      simp only [aopsQ] at hst
      exact hst
    · split at hc
      · rename_i o ho
        simp only [Bool.or_eq_true, Bool.and_eq_true] at hc
        rcases hc with hc | ⟨hcd, hall⟩
        · have : Region.ready .any ops listed = [k] := by simpa using hc
          rw [this] at hi
          exact absurd (List.mem_singleton.1 hi) e
        · have hcd' : cls o = .d := by simpa using hcd
          obtain ⟨hiun, oi, hoi, hiall⟩ := mem_ready.1 hi
          obtain ⟨hkun, ok', hok', hkall⟩ := mem_ready.1 hk
          have hisz : i < ops.size := (Array.getElem?_eq_some_iff.1 hoi).1
          rw [List.all_eq_true] at hall
          have hki := hall i (List.mem_range.2 hisz)
          simp only [Bool.or_eq_true, hoi] at hki
          have hap : o.apart ops oi = true ∧ cls oi ≠ .b := by
            rcases hki with (h1 | h1) | h1 | h1
            · exact absurd (by simpa using h1) e
            · rw [h1] at hiun; cases hiun
            · rw [Array.any_eq_true'] at h1
              obtain ⟨ed, hed, h2⟩ := h1
              simp only [Bool.and_eq_true, beq_iff_eq] at h2
              have h3 := hiall ed hed h2.1
              rw [h2.2] at h3
              rcases Nat.lt_or_ge k listed.size with hlt | hge
              · simp [hlt] at hkun h3; rw [hkun] at h3; cases h3
              · simp [Array.getElem?_eq_none hge] at h3
            · simp only [Bool.and_eq_true] at h1
              exact ⟨h1.1, by simpa using h1.2⟩
          obtain ⟨L1, g1, g2, g3⟩ := front L (listed.setIfInBounds k true) hL (ready_mono hi e)
          refine ⟨k :: L1, ?_, by simp [← g2], ?_⟩
          · simp only [chk, Bool.and_eq_true, List.contains_iff_mem, ho]
            refine ⟨⟨ready_mono hk (Ne.symm e), ?_⟩, ?_⟩
            · simp only [Bool.or_eq_true, Bool.and_eq_true]
              refine .inr ⟨hcd, ?_⟩
              rw [List.all_eq_true]
              intro j hj
              have h1 := hall j hj
              simp only [Bool.or_eq_true] at h1 ⊢
              rcases h1 with (h1 | h1) | h1
              · exact .inl (.inl h1)
              · refine .inl (.inr ?_)
                by_cases hij : i = j
                · subst hij; rw [h1] at hiun; cases hiun
                · rw [getD_set_ne true hij]; exact h1
              · exact .inr h1
            · rw [Array.setIfInBounds_comm _ _ e]; exact g1
          · intro K st hst
            simp only [aopsQ, ho] at hst
            have h1 : guarded ops o (aopQ P tab o) (guarded ops oi (aopQ P tab oi) (aopsQ P tab ops L1 K)) st := by
              refine guarded_mono (fun st' hst' => ?_) hst (by rw [hcd']; intro e; cases e)
              have := g3 K st' hst'
              simpa only [aOpI, hoi] using this
            have h2 := swap hcd' hap.2 hap.1 h1
            simp only [aOpI, hoi, aopsQ, ho]
            exact h2
      · cases hc

variable {X : List Nat} {M0 : Mem} {w0 : World}

theorem any_sound (hT : TabOK P tab) {ops : Array Oper} {Q : Exit → Act → World → Prop} {K : St → Prop} (hQ : ∀ a w, Fits X M0 w0 K a w → Q .normal a w) : ∀ (fuel : Nat) (L : List Nat) (listed : Array Bool) (a : Act) (w : World), L.length ≤ fuel → chk ops L listed = true →
    Fits X M0 w0 (aopsQ P tab ops L K) a w → wpAny P .any ops Q fuel listed a w
  | fuel, [], listed, a, w, _, hc, h => by
    simp only [chk, List.isEmpty_iff] at hc
    cases fuel with
    | zero => exact ⟨hc, hQ a w h⟩
    | succ n => exact ⟨fun _ => hQ a w h, fun i hi => by rw [hc] at hi; cases hi⟩
  | 0, k :: L, listed, a, w, hl, _, _ => by simp at hl
  | fuel + 1, k :: L, listed, a, w, hl, hc, h => by
    refine ⟨fun h0 => ?_, fun i hi => ?_⟩
    · have hc' := hc
      simp only [chk, Bool.and_eq_true, List.contains_iff_mem] at hc'
      rw [h0] at hc'
      cases hc'.1.1
    · obtain ⟨L', g1, g2, g3⟩ := front (P := P) (tab := tab) (k :: L) listed hc hi
      obtain ⟨M, ρ, st, hinv, hk⟩ := h
      have h1 := g3 K st hk
      unfold aOpI at h1
      split at h1
      · rename_i o ho
        refine wpOp_mono (fun a w hf => any_sound hT hQ fuel L' _ a w (by simp at hl g2; omega) g1 hf) (guarded_sound ho (fun h hk => aopQ_sound hT h hk) hinv h1)
      · exact h1.elim

theorem Inv.drew' {M : Mem} {ρ : Nat → Option Nat} {st : St} {a : Act} {w : World} (h : Inv X M0 w0 M ρ st a w) : Inv X M0 w0 M ρ st a { w with drawn := w.drawn + 1 } := h.drew

/-- A region whose order is drawn. -/
theorem wp_region_drawn (hT : TabOK P tab) (hm : P.follows .mixedOrders = true) {id : Nat} {ops : Array Oper} {Q : Exit → Act → World → Prop} {K : St → Prop} {a : Act} {w : World} (hQ : ∀ a w, Fits X M0 w0 K a w → Q .normal a w)
    (hc : chk ops (canon ops ops.size (Array.replicate ops.size false)) (Array.replicate ops.size false) = true)
    (h : Fits X M0 w0 (aopsQ P tab ops (canon ops ops.size (Array.replicate ops.size false)) K) a w) : (Code.region id ops true).wp P Q a w := by
  have hlen : ∀ (n : Nat) (l : Array Bool), (canon ops n l).length ≤ n := by
    intro n
    induction n with
    | zero => intro l; simp [canon]
    | succ n ih =>
      intro l
      simp only [canon]
      split
      · simp; exact ih _
      · split
        · simp; exact ih _
        · simp
  refine wp_region_any hm (any_sound hT hQ _ _ _ _ _ (hlen _ _) hc ?_)
  obtain ⟨M, ρ, st, hi, hk⟩ := h
  exact ⟨M, ρ, st, hi.drew', hk⟩

end
end Go.Ax
