/- Typed execution, part 7: what makes memory, and boxes. -/
import Derived.Test.YtbbncbojkkackaaTxF
set_option linter.unusedVariables false
set_option linter.unusedSimpArgs false
namespace Go.Tx
open Go.Ax

section
variable {U : Uni} {tab : Tab} {s : TS U.D} {st : St} {R : Type} {caps : List (Nat × Nat)} {tips : Tips} {ctr : Nat}

theorem lk_delT (k i : Nat) : ∀ l : List (Nat × Nat), lk k (delT i l) = if k = i then none else lk k l
  | [] => by simp [delT, lk]
  | (j, x) :: r => by
    simp only [delT]
    by_cases h : i = j
    · subst h
      simp only [Nat.beq_refl]
      rw [lk_delT k i r]
      by_cases h2 : k = i
      · simp [h2]
      · simp [h2, lk]
    · rw [beqN_false.2 h]
      simp only [lk]
      rw [lk_delT k i r]
      by_cases h2 : k = j
      · have : ¬ k = i := by omega
        simp [h2, this]; omega
      · simp [h2]

theorem tokOK_iff {s ver : Nat} {caps : List (Nat × Nat)} : tokOK s ver caps = true ↔ s = 0 ∨ lk s caps = some ver := by
  unfold tokOK
  rw [lkT_eq, Bool.or_eq_true, beqN]
  constructor
  · rintro (h | h)
    · exact .inl h
    · split at h
      · rename_i v hv
        rw [beqN] at h
        subst h; exact .inr hv
      · cases h
  · rintro (h | h)
    · exact .inl h
    · rw [h]; exact .inr (Nat.beq_refl _)

theorem tdec_ok (hU : U.Ok) {c : Nat} {a : TA U.D} {x : U.D c} {y : AV} (h : tdec U c a = some x) (hy : RA U caps tips ctr a y) : ∃ p, y = .pv p ∧ p.erase = U.pv c x ∧ p.isTup = false ∧ p.cells.length = U.sz c := by
  have fin : ∀ p : PV, p.erase = U.pv c x → p.isTup = false → p.erase = U.pv c x ∧ p.isTup = false ∧ p.cells.length = U.sz c := by
    intro p hp ht
    refine ⟨hp, ht, ?_⟩
    rw [← hU.sz c x, ← hp, PV.cells_erase, List.length_map]
  cases hy with
  | v v p hv =>
    refine ⟨p, rfl, ?_⟩
    have her := hv.erase
    unfold tdec at h
    split at h
    · cases h
    · rename_i cs he
      injection he with he; subst he
      split at h
      · rename_i hst
        have h1 := hU.dec _ _ _ h
        rw [shedL_pv] at h1
        have h2 : p.erase = U.pv c x := by
          rw [her, hU.st1 c x hst, ← h1]; rfl
        refine fin p h2 ?_
        rw [hU.st1 c x hst] at h2
        obtain ⟨ys, rfl, _⟩ := erase_agg h2
        rfl
      · cases h
    · rename_i v' n1 n2 he
      injection he with he; subst he
      split at h
      · cases h
      · rename_i hst
        have h1 := hU.dec _ _ _ h
        rw [hU.st0 c x hst] at h1
        simp only [TV.pvL, shed_pv, List.cons.injEq, and_true] at h1
        refine fin p (by rw [her, h1]) ?_
        cases v <;> first | exact absurd rfl (n1 _) | skip
        all_goals (clear h1; cases p <;> simp [PV.erase, TV.pv, PV.isTup] at her ⊢)
    · cases h
  | _ => simp [tdec] at h

theorem tdecs_ok (hU : U.Ok) {c : Nat} : ∀ {l : List (TA U.D)} {xs : List (U.D c)} {ys : List AV}, tdecs U c l = some xs → ys.length = l.length → (∀ (i : Nat) a y, l[i]? = some a → ys[i]? = some y → RA U caps tips ctr a y) →
    ∃ es, allPV ys = some es ∧ PV.eraseL es = xs.map (U.pv c) ∧ ∀ e ∈ es, e.isTup = false ∧ e.cells.length = U.sz c
  | [], xs, ys, h, hl, hp => by
    simp only [tdecs, Option.some.injEq] at h; subst h
    obtain rfl : ys = [] := List.eq_nil_of_length_eq_zero (by simpa using hl)
    exact ⟨[], rfl, rfl, by simp⟩
  | a :: l, xs, ys, h, hl, hp => by
    simp only [tdecs] at h
    split at h
    · rename_i y' l' h1 h2
      injection h with h; subst h
      cases ys with
      | nil => simp at hl
      | cons y ys =>
        obtain ⟨p, rfl, q1, q2, q3⟩ := tdec_ok hU h1 (hp 0 a y rfl rfl)
        obtain ⟨es, g1, g2, g3⟩ := tdecs_ok hU (ys := ys) h2 (by simpa using hl) (fun i a y r1 r2 => hp (i + 1) a y (by simpa using r1) (by simpa using r2))
        refine ⟨p :: es, by simp [allPV, g1], by simp [PV.eraseL, q1, g2], ?_⟩
        intro e he
        rcases List.mem_cons.1 he with rfl | he
        · exact ⟨q2, q3⟩
        · exact g3 e he
    · cases h

theorem evT_notNil {e : Operand → AV} {t : TypeId} {x : Operand} (h : isNilC x = false) : evT tab e t x = e x := by
  unfold evT
  split
  · simp [isNilC] at h
  · rfl

/-- Marks after a slice was made at d (and st was used up). -/
theorem capLe_app {caps : List (Nat × Nat)} {tips : Tips} {ctr d st : Nat} {x : Option (Nat × Nat) × Nat} : CapLe caps ((d, ctr) :: delT d (delT st caps)) tips (ups d x (del st tips)) ctr := by
  intro s ver hv hk hs
  rw [tokOK_iff] at hk
  rcases hk with hk | hk
  · exact absurd hk hs
  · simp only [lk] at hk
    split at hk
    · injection hk with hk; omega
    · rename_i hsd
      rw [lk_delT, if_neg hsd, lk_delT] at hk
      split at hk
      · cases hk
      · rename_i hst
        refine ⟨tokOK_iff.2 (.inr hk), ?_⟩
        rw [lk_ups, if_neg hsd, lk_del, if_neg hst]

theorem capLe_lit {caps : List (Nat × Nat)} {tips : Tips} {ctr d : Nat} {x : Option (Nat × Nat) × Nat} : CapLe caps ((d, ctr) :: delT d caps) tips (ups d x tips) ctr := by
  intro s ver hv hk hs
  rw [tokOK_iff] at hk
  rcases hk with hk | hk
  · exact absurd hk hs
  · simp only [lk] at hk
    split at hk
    · injection hk with hk; omega
    · rename_i hsd
      rw [lk_delT, if_neg hsd] at hk
      refine ⟨tokOK_iff.2 (.inr hk), ?_⟩
      rw [lk_ups, if_neg hsd]

theorem Rel.recap (hR : Rel U s st) {caps' : List (Nat × Nat)} {tips' : Tips} {U' : Nat → Prop} (hc : CapLe s.caps caps' st.tips tips' s.ctr) (hv : ∀ i ver, lk i caps' = some ver → ver < s.ctr + 1) :
    Rel U ⟨s.tmps, s.boxes, caps', s.ctr + 1⟩ { st with tips := tips', U := U' } := by
  refine { len := hR.len, tmps := ?_, boxes := ?_, dom := hR.dom, caps := hv, ctr := by simp }
  · intro i x y h1 h2
    have h3 := hR.tmps i x y h1 h2
    cases h3 with
    | p a _ h => exact .p a y (h.weak hc (by simp))
    | may t w g a _ q1 q2 q3 => exact .may t w g a y (fun hg => (q1 hg).weak hc (by simp)) q2 q3
  · intro i bc h1
    obtain ⟨cs, h2, h3⟩ := hR.boxes i bc h1
    exact ⟨cs, h2, h3.weak hc (by simp)⟩

theorem own_rv {c d : Nat} {xs : List (U.D c)} {es : List PV} {ob : Option (Nat × Nat)} {caps : List (Nat × Nat)} {tips : Tips} {ctr : Nat} (hd : 1 ≤ d) (he : PV.eraseL es = xs.map (U.pv c)) :
    RA U ((d, ctr) :: caps) (ups d (ob, es.length * U.sz c) tips) (ctr + 1) (.v (.own d ctr c xs)) (.pv (.own d ob (U.sz c) es)) := by
  refine .v _ _ (.own d ctr c xs _ (by omega) (by simp [PV.erase, he]) fun _ => ⟨ob, es, rfl, fun h => by omega, fun _ => .inr ?_⟩)
  rw [lk_ups, if_pos rfl]

theorem tmake_ok {P : Program} {E : Env U R} (hE : EnvOk P U tab E) (hR : Rel U s st) {o : Oper} {K : TS U.D → Option R} {r : R} (h : tmake U E o s K = some r) :
    cls o = .n ∧ neff P tab o (evl st.tmps) st.tips st.U (fun v tips U' => Kr U K r (({ st with tips := tips, U := U' } : St).put o.dst v)) := by
  have he : ∀ x, RA U s.caps st.tips s.ctr (tev [] s.tmps x) (evl st.tmps x) := fun x => tev_ok hR (by simp) x
  unfold tmake at h
  simp only at h
  split at h
  · rename_i args argTypes d hop hd
    refine ⟨by unfold cls; rw [hop], ?_⟩
    unfold neff
    simp only [hop, hd]
    split at h
    · rename_i a x t tx ha hta
      simp only [ha, hta]
      split at h
      · rename_i c' b z n2 c2 b2 z2 stt ver c xs ht htx hev
        have hs := tevT_ok hE.tt hR.ctr he t a
        rw [hev] at hs
        have hx := tevT_ok hE.tt hR.ctr he tx x
        split at h
        · rename_i ys hcond hsrc
          simp only [Bool.and_eq_true, beqN, Nat.ble_eq] at hcond
          obtain ⟨⟨hc, htok⟩, hd1⟩ := hcond
          subst hc
          obtain ⟨m, k, z', el, j, g1, g2, g3, g4, g5, g6⟩ := sliceK hE.tt ht
          obtain ⟨m2, k2, z2', el2, j2, f1, _⟩ := sliceK hE.tt htx
          obtain ⟨p, hp, hpv⟩ := hs.v_
          rw [hp]
          cases hpv with
          | flat _ _ hf _ => simp [TV.flat] at hf
          | own _ _ _ _ _ hv her hk =>
            obtain ⟨ob, es, rfl, q1, q2⟩ := hk htok
            have hes : PV.eraseL es = xs.map (U.pv c) := by simpa [PV.erase] using her
            -- what is appended
            obtain ⟨ysp, hys1, hys2⟩ : ∃ ysp, srcA tab j tx (evT tab (evl st.tmps) tx x) = some ysp ∧ PV.eraseL ysp = ys.map (U.pv c) := by
              have els : ∀ (v : TV U.D) (c' : Nat) (xs' : List (U.D c')), tevT E.tt (tev [] s.tmps) tx x = .v v → v.els = some ⟨c', xs'⟩ → castL c' c xs' = some ys → ∃ ysp, srcA tab j tx (evT tab (evl st.tmps) tx x) = some ysp ∧ PV.eraseL ysp = ys.map (U.pv c) := by
                intro v c' xs' e1 e2 e3
                rw [e1] at hx
                obtain ⟨p2, hp2, hv2⟩ := hx.v_
                obtain ⟨es2, r1, r2⟩ := hv2.els_ e2
                obtain ⟨e4, rfl⟩ := castL_some e3
                subst e4
                refine ⟨es2, ?_, r2⟩
                rw [hp2]
                simp only [srcA, f1, r1]
                rw [if_pos (.inl g3.symm)]
              unfold srcT at hsrc
              split at hsrc
              · rename_i e1; exact els _ _ _ e1 rfl hsrc
              · rename_i e1; exact els _ _ _ e1 rfl hsrc
              · cases hsrc
            have hl1 := eraseL_len hes
            have hl2 := eraseL_len hys2
            simp only [List.length_map] at hl1 hl2
            cases hfit : fitsT xs.length ys.length b with
            | false => rw [hfit] at h; cases h
            | true =>
              rw [hfit] at h
              simp only [cond_true, tput_eq] at h
              unfold fitsT at hfit
              rw [decide_eq_true_eq] at hfit
              unfold appK
              simp only [g1, g2, hys1, bindK]
              have hst : stt = 0 → ob = none := q1
              refine ⟨.inl g3, by omega, ?_, by rw [hl1, hl2, g4]; exact hfit.1, by rw [hl1, hl2]; exact hfit.2, ?_⟩
              · by_cases h0 : stt = 0
                · exact .inl (hst h0)
                · exact q2 h0
              · intro ob' hob hnil
                rw [g3]
                have hcat : PV.eraseL (es ++ ysp) = (xs ++ ys).map (U.pv c) := by
                  rw [PV.eraseL_eq, List.map_append, ← PV.eraseL_eq, ← PV.eraseL_eq, hes, hys2, List.map_append]
                refine ⟨_, (Rel.recap hR (caps' := (d, s.ctr) :: delT d (delT stt s.caps)) (tips' := ups d (ob', (es ++ ysp).length * U.sz c) (del stt st.tips)) (U' := fun b => st.U b ∨ obBlk ob' b) capLe_app ?_).setP (d := some d) (a := .v (.own d s.ctr c (xs ++ ys))) (y := .pv (.own d ob' (U.sz c) (es ++ ysp))) (own_rv hd1 hcat), h⟩
                intro i ver hi
                simp only [lk] at hi
                split at hi
                · injection hi with hi; omega
                · rw [lk_delT] at hi
                  split at hi
                  · cases hi
                  · rw [lk_delT] at hi
                    split at hi
                    · cases hi
                    · have := hR.caps i ver hi; omega
        · cases h
      · cases h
    · cases h
  · rename_i t n parts d hop hd
    refine ⟨by unfold cls; rw [hop], ?_⟩
    unfold neff
    simp only [hop, hd]
    split at h
    · rename_i sz0 c b z ht
      split at h
      · rename_i xs hcond hdec
        simp only [Bool.and_eq_true, Nat.ble_eq, beq_iff_eq, List.all_eq_true, Bool.not_eq_true'] at hcond
        obtain ⟨⟨⟨c1, c2⟩, c3⟩, c4⟩ := hcond
        obtain ⟨m, k, z', el, j, g1, g2, g3, g4, g5, g6⟩ := sliceK hE.tt ht
        have hmap : (parts.toList.map fun p => evT tab (evl st.tmps) el p.2) = parts.toList.map fun p => evl st.tmps p.2 := by
          apply List.map_congr_left
          intro p hp
          exact evT_notNil (c4 p hp)
        obtain ⟨es, q1, q2, q3⟩ := tdecs_ok (caps := s.caps) (tips := st.tips) (ctr := s.ctr) (ys := parts.toList.map fun p => evl st.tmps p.2) hE.uni hdec (by simp) (by
          intro i a y h1 h2
          rw [List.getElem?_map, Option.map_eq_some_iff] at h1 h2
          obtain ⟨p, hp, rfl⟩ := h1
          obtain ⟨q, hq, rfl⟩ := h2
          rw [hp] at hq; injection hq with hq; subst hq
          exact he _)
        unfold litK
        simp only [g1, g2]
        refine ⟨c1, by rw [g3]; exact c2, by omega, ?_⟩
        rw [hmap, q1]
        simp only [bindK]
        refine ⟨fun e he => by rw [g3]; exact q3 e he, fun bk hbk => ?_⟩
        rw [g3]
        rw [tput_eq] at h
        refine ⟨_, (Rel.recap hR (caps' := (d, s.ctr) :: delT d s.caps) (tips' := ups d (some (bk, 0), es.length * U.sz c) st.tips) (U' := fun b' => st.U b' ∨ b' = bk) capLe_lit ?_).setP (d := some d) (own_rv c3 q2), h⟩
        intro i ver hi
        simp only [lk] at hi
        split at hi
        · injection hi with hi; omega
        · rw [lk_delT] at hi
          split at hi
          · cases hi
          · have := hR.caps i ver hi; omega
      · cases h
    · cases h
  · cases h

theorem tcells_ok {a : TA U.D} {cs : List (TA U.D)} {y : AV} (hy : RA U caps tips ctr a y) (h : toCells U a = some cs) : ∃ ys, boxCells y = some ys ∧ ys.length = cs.length ∧ ∀ (i : Nat) c z, cs[i]? = some c → ys[i]? = some z → RA U caps tips ctr c z := by
  have one : ∀ (a : TA U.D) (y : AV), RA U caps tips ctr a y → ([y] : List AV).length = [a].length ∧ ∀ (i : Nat) c z, [a][i]? = some c → [y][i]? = some z → RA U caps tips ctr c z := by
    intro a y h
    refine ⟨rfl, ?_⟩
    intro i c z h1 h2
    cases i with
    | zero => simp at h1 h2; subst h1; subst h2; exact h
    | succ i => simp at h1
  cases hy with
  | v x p hv =>
    by_cases ha : ∃ l, x = .agg l
    · obtain ⟨l, rfl⟩ := ha
      simp only [toCells, Option.some.injEq] at h
      subst h
      cases hv with
      | flat _ _ hf _ => simp [TV.flat] at hf
      | agg _ ys hl hp =>
        refine ⟨ys.map .pv, rfl, by simp [hl], ?_⟩
        intro i c z h1 h2
        rw [List.getElem?_map, Option.map_eq_some_iff] at h1 h2
        obtain ⟨v, hv, rfl⟩ := h1
        obtain ⟨w, hw, rfl⟩ := h2
        exact .v _ _ (hp i v w hv hw)
    · have hnt : ∀ vs, x ≠ .tup vs := by rintro vs rfl; simp [toCells] at h
      have hc : cs = [.v x] := by
        cases x <;> first | exact absurd ⟨_, rfl⟩ ha | exact absurd rfl (hnt _) | (simp only [toCells, Option.some.injEq] at h; exact h.symm)
      subst hc
      refine ⟨[.pv p], ?_, one _ _ (.v x p hv)⟩
      have := hv.erase
      cases x <;> first | exact absurd ⟨_, rfl⟩ ha | exact absurd rfl (hnt _) | (cases p <;> simp_all [PV.erase, TV.pv, boxCells])
  | box i off => simp only [toCells, Option.some.injEq] at h; subst h; exact ⟨_, rfl, one _ _ (.box i off)⟩
  | ro l ys hl hp => simp only [toCells, Option.some.injEq] at h; subst h; exact ⟨_, rfl, one _ _ (.ro l ys hl hp)⟩
  | fn f l ys hl hp => simp only [toCells, Option.some.injEq] at h; subst h; exact ⟨_, rfl, one _ _ (.fn f l ys hl hp)⟩
  | msl i c n => simp only [toCells, Option.some.injEq] at h; subst h; exact ⟨_, rfl, one _ _ (.msl i c n)⟩
  | _ => simp [toCells] at h

/-- A new box. -/
theorem Rel.newBox (hR : Rel U s st) {d : Nat} {bc : BC U.D} {cs : List AV} (h : RB U s.caps st.tips s.ctr bc cs) : Rel U ⟨s.tmps, (d, bc) :: s.boxes, s.caps, s.ctr⟩ { st with boxes := ups d cs st.boxes } := by
  refine { len := hR.len, tmps := hR.tmps, boxes := ?_, dom := ?_, caps := hR.caps, ctr := hR.ctr }
  · intro i bc' hi
    simp only [lk] at hi
    show ∃ cs', lk i (ups d cs st.boxes) = some cs' ∧ _
    rw [lk_ups]
    split at hi
    · rename_i e
      injection hi with hi; subst hi
      exact ⟨cs, by rw [if_pos e], h⟩
    · rename_i e
      rw [if_neg e]
      exact hR.boxes i bc' hi
  · intro i hi
    simp only [lk] at hi
    show lk i (ups d cs st.boxes) = none
    rw [lk_ups]
    split at hi
    · cases hi
    · rename_i e
      rw [if_neg e]
      exact hR.dom i hi

theorem Rel.setBox (hR : Rel U s st) {d : Nat} {bc : BC U.D} {cs : List AV} (h : RB U s.caps st.tips s.ctr bc cs) : Rel U ⟨s.tmps, ups d bc s.boxes, s.caps, s.ctr⟩ { st with boxes := ups d cs st.boxes } := by
  refine { len := hR.len, tmps := hR.tmps, boxes := ?_, dom := ?_, caps := hR.caps, ctr := hR.ctr }
  · intro i bc' hi
    show ∃ cs', lk i (ups d cs st.boxes) = some cs' ∧ _
    have hi : lk i (ups d bc s.boxes) = some bc' := hi
    rw [lk_ups] at hi ⊢
    split at hi
    · rename_i e
      injection hi with hi; subst hi
      exact ⟨cs, by rw [if_pos e], h⟩
    · rename_i e
      rw [if_neg e]
      exact hR.boxes i bc' hi
  · intro i hi
    show lk i (ups d cs st.boxes) = none
    have hi : lk i (ups d bc s.boxes) = none := hi
    rw [lk_ups] at hi ⊢
    split at hi
    · cases hi
    · rename_i e
      rw [if_neg e]
      exact hR.dom i hi

theorem flat_len {sz : Nat} : ∀ {es : List PV}, (∀ e ∈ es, e.cells.length = sz) → (es.flatMap PV.cells).length = es.length * sz
  | [], _ => by simp
  | e :: es, h => by
    have h1 := h e (by simp)
    have h2 := flat_len (es := es) fun e he => h e (by simp [he])
    simp only [List.flatMap_cons, List.length_append, List.length_cons, h1, h2]
    rw [Nat.add_mul]; omega

theorem flat_lay {sz : Nat} {e' : PV} (he' : e'.cells.length = sz) : ∀ {es : List PV} {n : Nat}, (∀ e ∈ es, e.cells.length = sz) → n < es.length →
    lay (es.flatMap PV.cells) (n * sz) e'.cells = (es.set n e').flatMap PV.cells
  | [], n, _, hn => by simp at hn
  | e :: es, 0, h, hn => by
    have h1 := h e (by simp)
    simp only [lay, Nat.zero_mul, List.take_zero, List.nil_append, List.set_cons_zero, List.flatMap_cons, Nat.zero_add]
    rw [he', ← h1, List.drop_left]
  | e :: es, n + 1, h, hn => by
    have h1 := h e (by simp)
    have ih := flat_lay he' (es := es) (n := n) (fun e he => h e (by simp [he])) (by simpa using hn)
    simp only [List.set_cons_succ, List.flatMap_cons]
    rw [← ih]
    unfold lay
    have e1 : (n + 1) * sz = e.cells.length + n * sz := by rw [h1, Nat.add_mul]; omega
    rw [e1, Nat.add_assoc, List.take_length_add_append, List.drop_length_add_append]
    simp [List.append_assoc]

theorem eraseL_set {es l : List PV} (h : PV.eraseL es = l) (n : Nat) (e : PV) : PV.eraseL (es.set n e) = l.set n e.erase := by
  rw [← h, PV.eraseL_eq, PV.eraseL_eq, List.map_set]

theorem elems_sz (hU : U.Ok) {c : Nat} {xs : List (U.D c)} {es : List PV} (h : PV.eraseL es = xs.map (U.pv c)) : ∀ e ∈ es, e.cells.length = U.sz c := by
  intro e he
  have : e.erase ∈ PV.eraseL es := by rw [PV.eraseL_eq]; exact List.mem_map_of_mem he
  rw [h, List.mem_map] at this
  obtain ⟨x, _, hx⟩ := this
  rw [← hU.sz c x, hx, PV.cells_erase, List.length_map]

theorem zero_elem (hU : U.Ok) {c : Nat} {z : List PV} (h : PV.eraseL z = (U.pv c (U.dflt c)).cells) : ∃ e : PV, e.cells = z ∧ e.erase = U.pv c (U.dflt c) := by
  cases hs : U.st c with
  | true =>
    refine ⟨.agg z, rfl, ?_⟩
    simp only [PV.erase]
    rw [h, ← hU.st1 c _ hs]
  | false =>
    rw [hU.st0 c _ hs] at h
    have hl := congrArg List.length h
    rw [PV.eraseL_eq, List.length_map] at hl
    match z, hl with
    | [w], _ =>
      simp only [PV.eraseL, List.cons.injEq, and_true] at h
      refine ⟨w, ?_, h⟩
      have hc := hU.st0 c (U.dflt c) hs
      rw [← h, PV.cells_erase] at hc
      cases w with
      | agg cs =>
        simp only [PV.cells, PV.erase, PV.eraseL_eq] at hc
        -- a struct is not its own only cell
        exfalso
        have hsz : ∀ (l : List PV), l ≠ [.agg l] := by
          intro l hl
          have := congrArg (fun q : List PV => SizeOf.sizeOf q) hl
          simp at this; omega
        exact hsz _ hc
      | _ => rfl

theorem tbox_ok {P : Program} {E : Env U R} (hE : EnvOk P U tab E) (hR : Rel U s st) {o : Oper} {K : TS U.D → Option R} {r : R} (h : tbox U E o s K = some r) : cls o = .b ∧ beff tab o st (Kr U K r) := by
  have he : ∀ x, RA U s.caps st.tips s.ctr (tev [] s.tmps x) (evl st.tmps x) := fun x => tev_ok hR (by simp) x
  unfold tbox at h
  simp only at h
  split at h
  · rename_i t d hop hd
    refine ⟨by unfold cls; rw [hop], ?_⟩
    unfold beff
    simp only [hop, hd]
    split at h
    · rename_i i hi hb
      obtain ⟨j, g1, g2, g3, g4, g5, g6⟩ := hE.tt.row _ _ hi
      rw [lkT_eq] at hb
      rw [g1]
      simp only
      refine ⟨hR.dom d hb, ?_⟩
      rw [tput_eq] at h
      refine ⟨_, (hR.newBox (d := d) (bc := .cells (i.zero.map .v)) (cs := j.zero.map .pv) (.cells _ _ (by simp [g4]) ?_)).setP (d := some d) (.box d 0), h⟩
      intro k c y h1 h2
      rw [List.getElem?_map, Option.map_eq_some_iff] at h1 h2
      obtain ⟨v, hv, rfl⟩ := h1
      obtain ⟨w, hw, rfl⟩ := h2
      exact .v _ _ ((g6 k v w hv hw).rv hR.ctr)
    · cases h
  · rename_i t x d hop hd
    refine ⟨by unfold cls; rw [hop], ?_⟩
    unfold beff
    simp only [hop, hd]
    split at h
    · rename_i cs hcs hb
      rw [lkT_eq] at hb
      obtain ⟨ys, g1, g2, g3⟩ := tcells_ok (tevT_ok hE.tt hR.ctr he t x) hcs
      rw [g1]
      simp only
      refine ⟨hR.dom d hb, ?_⟩
      rw [whAL_eq, tput_eq] at h
      exact ⟨_, (hR.newBox (d := d) (.cells cs ys g2 g3)).setP (d := some d) (.box d 0), h⟩
    · cases h
  · rename_i t a x hop
    refine ⟨by unfold cls; rw [hop], ?_⟩
    unfold beff
    simp only [hop]
    split at h
    · rename_i i b off hi ha
      obtain ⟨j, g1, g2, g3⟩ := aggK hE.tt hi
      have hra := he a
      rw [ha] at hra
      have hya : evl st.tmps a = .box b off := by generalize evl st.tmps a = y at hra; cases hra; rfl
      split at h
      · rename_i vs cs hvs hbx
        rw [lkT_eq] at hbx
        split at h
        · rename_i hcond
          simp only [Bool.and_eq_true, beqN, Nat.ble_eq] at hcond
          obtain ⟨ys, q1, q2, q3⟩ := tcells_ok (tevT_ok hE.tt hR.ctr he t x) hvs
          obtain ⟨cs', q4, q5⟩ := hR.boxes b _ hbx
          cases q5 with
          | cells _ _ hl hp =>
            rw [g1, hya, q1]
            simp only [q4, bindK]
            refine ⟨by omega, by omega, ?_⟩
            rw [whAL_eq, upsT_eq, tput_eq] at h
            obtain ⟨l1, l2⟩ := lay_pt (off := off) hl hp q2 q3 (by omega)
            exact ⟨_, (hR.setBox (d := b) (.cells _ _ l1 l2)).setP .undef, h⟩
        · cases h
      · cases h
    · rename_i i b c n hi ha
      obtain ⟨j, g1, g2, g3⟩ := aggK hE.tt hi
      have hra := he a
      rw [ha] at hra
      obtain ⟨hn0, hya⟩ : 0 ≤ n ∧ evl st.tmps a = .box b (n.toNat * U.sz c) := by generalize evl st.tmps a = y at hra; cases hra with | elt _ _ _ hn => exact ⟨hn, rfl⟩
      split at h
      · rename_i y c' xs hdec hbx
        rw [lkT_eq] at hbx
        split at h
        · rename_i xs' hsz hcast
          rw [beqN] at hsz
          obtain ⟨e, rfl⟩ := castL_some hcast
          subst e
          cases hin : inT n xs.length with
          | false => simp only [hin, cond_false] at h; cases h
          | true =>
            simp only [hin, cond_true] at h
            unfold inT at hin
            rw [decide_eq_true_eq] at hin
            obtain ⟨p, hp, r1, r2, r3⟩ := tdec_ok hE.uni hdec (tevT_ok hE.tt hR.ctr he t x)
            obtain ⟨cs', q4, q5⟩ := hR.boxes b _ hbx
            cases q5 with
            | arr _ _ es hes =>
              have hbc : boxCells (.pv p) = some (p.cells.map .pv) := by
                cases p <;> first | rfl | simp [PV.isTup] at r2
              rw [g1, hya, hp, hbc]
              simp only [q4, bindK]
              have hsz2 := elems_sz hE.uni hes
              have hl := eraseL_len hes
              simp only [List.length_map] at hl
              have hfl := flat_len hsz2
              have hlt : n.toNat < es.length := by omega
              have hle : n.toNat * U.sz c' + U.sz c' ≤ es.length * U.sz c' := by
                have : (n.toNat + 1) * U.sz c' ≤ es.length * U.sz c' := Nat.mul_le_mul_right _ (by omega)
                rw [Nat.add_mul] at this; omega
              refine ⟨by rw [List.length_map]; omega, by rw [List.length_map, List.length_map, hfl]; omega, ?_⟩
              rw [upsT_eq, tput_eq] at h
              have hlay : lay ((es.flatMap PV.cells).map AV.pv) (n.toNat * U.sz c') (p.cells.map AV.pv) = ((es.set n.toNat p).flatMap PV.cells).map .pv := by
                rw [← flat_lay r3 hsz2 hlt]
                simp [lay, List.map_take, List.map_drop]
              rw [hlay]
              refine ⟨_, (hR.setBox (d := b) (.arr c' (xs.set n.toNat y) (es.set n.toNat p) ?_)).setP .undef, h⟩
              rw [eraseL_set hes, r1, List.map_set]
        · cases h
      · cases h
    · cases h
  · rename_i t l m d hop hd
    refine ⟨by unfold cls; rw [hop], ?_⟩
    unfold beff
    simp only [hop, hd]
    split at h
    · rename_i sz0 c b z t1 t2 k n ht h1 h2 hel hb
      rw [lkT_eq] at hb
      split at h
      · rename_i heq
        rw [beqN] at heq
        subst heq
        obtain rfl := isTmp_ok h1
        obtain rfl := isTmp_ok h2
        obtain ⟨m', k', z', el, j, g1, g2, g3, g4, g5, g6⟩ := sliceK hE.tt ht
        have hr := he (.tmp t1)
        rw [hel] at hr
        have hv := hr.int_
        cases hmk : makeT n b with
        | false => rw [hmk] at h; cases h
        | true =>
          rw [hmk] at h
          simp only [cond_true, tput_eq] at h
          unfold makeT at hmk
          rw [decide_eq_true_eq] at hmk
          rw [g1, hv]
          simp only [g2]
          have hzl : j.zero.length = U.sz c := by
            have := congrArg List.length g6
            rw [hE.uni.sz, PV.eraseL_eq, List.length_map] at this
            exact this
          refine ⟨trivial, hmk.1, by rw [g4]; exact hmk.2.1, hmk.2.2, by omega, by rw [hzl, g3], hR.dom d hb, ?_⟩
          obtain ⟨e0, r1, r2⟩ := zero_elem hE.uni g6
          have hrep : (List.replicate n.toNat (j.zero.map AV.pv)).flatten = ((List.replicate n.toNat e0).flatMap PV.cells).map .pv := by
            rw [← r1]
            generalize n.toNat = q
            induction q with
            | zero => rfl
            | succ q ih => simp [List.replicate_succ, ih]
          rw [hrep, g3]
          refine ⟨_, (hR.newBox (d := d) (.arr c (List.replicate n.toNat (U.dflt c)) (List.replicate n.toNat e0) ?_)).setP (d := some d) (.msl d c n), h⟩
          rw [PV.eraseL_eq, List.map_replicate, List.map_replicate, r2]
      · cases h
    · cases h
  · cases h

end
end Go.Tx
