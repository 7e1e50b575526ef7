/- Typed execution, part 8: calls to which boxes are lent. -/
import Derived.Test.YtbbncbojkkackaaTxG
set_option linter.unusedVariables false
set_option linter.unusedSimpArgs false
namespace Go.Tx
open Go.Ax

section
variable {U : Uni} {tab : Tab} {s : TS U.D} {st : St} {R : Type} {caps : List (Nat × Nat)} {tips : Tips} {ctr : Nat}

def BC.av (U : Uni) : BC U.D → List AV
  | .cells cs => cs.map (TA.av U)
  | .arr c xs => ((xs.map (U.pv c)).flatMap PV.cells).map .pv

def cleanB : BK → Bool
  | .cells ks => ks.all cleanK
  | .obj _ => true
  | .arr _ => true
  | .bot _ => false

theorem dec0_ids {k : K0} {a : TA U.D} {z : den0 U k} (hk : cleanK k = true) (h : dec0 U k a = some z) : ∃ x, a = .v x := by
  cases k <;> simp [cleanK] at hk <;> cases a <;> first | exact ⟨_, rfl⟩ | simp [dec0] at h

theorem decs0_ids : ∀ {ks : List K0} {as_ : List (TA U.D)} {z : dens0 U ks}, ks.all cleanK = true → decs0 U ks as_ = some z → idsAL as_ = []
  | [], [], _, _, _ => rfl
  | k :: ks, a :: as_, z, hk, h => by
    simp only [List.all_cons, Bool.and_eq_true] at hk
    simp only [decs0] at h
    split at h
    · rename_i x r h1 h2
      obtain ⟨v, rfl⟩ := dec0_ids hk.1 h1
      simp [idsAL, idsA, decs0_ids hk.2 h2]
    · cases h
  | [], _ :: _, _, _, h => by simp [decs0] at h
  | _ :: _, [], _, _, h => by simp [decs0] at h

theorem tallv_eq : ∀ {l : List (TA U.D)} {cs : List (TV U.D)}, tallv l = some cs → l = cs.map .v
  | [], cs, h => by simp only [tallv, Option.some.injEq] at h; subst h; rfl
  | .v x :: l, cs, h => by
    simp only [tallv] at h
    split at h
    · rename_i l' h1
      injection h with h; subst h
      rw [tallv_eq h1]; rfl
    · cases h
  | .bot :: _, _, h => by simp [tallv] at h
  | .undef :: _, _, h => by simp [tallv] at h
  | .box _ _ :: _, _, h => by simp [tallv] at h
  | .ro _ :: _, _, h => by simp [tallv] at h
  | .fn _ _ :: _, _, h => by simp [tallv] at h
  | .msl _ _ _ :: _, _, h => by simp [tallv] at h
  | .elt _ _ _ :: _, _, h => by simp [tallv] at h

theorem flat_erase (es : List PV) : (es.flatMap PV.cells).map PV.erase = (PV.eraseL es).flatMap PV.cells := by
  induction es with
  | nil => rfl
  | cons e es ih => simp only [List.flatMap_cons, List.map_append, PV.eraseL, ih, PV.cells_erase]

theorem noBox_pv : ∀ (l : List PV), AV.noBoxL (l.map .pv) = true
  | [] => rfl
  | x :: l => by simp [AV.noBoxL, AV.noBox, noBox_pv l]

theorem decB_wk (hU : U.Ok) {k : BK} {bc : BC U.D} {z : denB U k} {ys : List AV} (h : decB U k bc = some z) (hy : RB U caps tips ctr bc ys) :
    PtW ys (BC.av U (encB U k z)) ∧ (cleanB k = true → AV.noBoxL ys = true) := by
  cases hy with
  | cells cs _ hl hp =>
    cases k with
    | cells ks =>
      simp only [decB] at h
      have := decs0_wk hU h hl hp
      exact ⟨this.1, fun hk => this.2 (decs0_ids hk h)⟩
    | obj c =>
      simp only [decB] at h
      split at h
      · rename_i l hl2
        have h1 := hU.dec _ _ _ h
        rw [shedL_pv] at h1
        obtain rfl := tallv_eq hl2
        have key : ∀ (i : Nat) v y, l[i]? = some v → ys[i]? = some y → ∃ p, y = .pv p ∧ p.erase = TV.pv U v := by
          intro i v y h2 h3
          obtain ⟨p, rfl, hv⟩ := (hp i (.v v) y (by rw [List.getElem?_map, h2]; rfl) h3).v_
          exact ⟨p, rfl, hv.erase⟩
        have hc : BC.av U (encB U (.obj c) z) = (TV.pvL U l).map .pv := by
          show (((U.enc c z).map TA.v).map (TA.av U)) = _
          rw [h1, ← hU.enc, pvL_eq, List.map_map, List.map_map]
          rfl
        refine ⟨⟨?_, ?_⟩, fun _ => ?_⟩
        · rw [hc]; simp [hl, pvL_len]
        · intro i x y h2 h3
          rw [hc, pvL_eq, List.map_map, List.getElem?_map, Option.map_eq_some_iff] at h2
          obtain ⟨v, hv, rfl⟩ := h2
          obtain ⟨p, rfl, hpe⟩ := key i v y hv h3
          intro M ρ w hw
          cases hw with
          | pv _ _ hw =>
            refine .pv _ _ ?_
            rw [← hpe]; exact hw.erase
        · have : ∀ (l : List (TV U.D)) (ys : List AV), ys.length = l.length → (∀ (i : Nat) v y, l[i]? = some v → ys[i]? = some y → ∃ p, y = .pv p ∧ p.erase = TV.pv U v) → AV.noBoxL ys = true := by
            intro l
            induction l with
            | nil => intro ys hl _; obtain rfl : ys = [] := List.eq_nil_of_length_eq_zero (by simpa using hl); rfl
            | cons v l ih =>
              intro ys hl hk
              cases ys with
              | nil => simp at hl
              | cons y ys =>
                obtain ⟨p, rfl, _⟩ := hk 0 v y rfl rfl
                simp [AV.noBoxL, AV.noBox, ih ys (by simpa using hl) fun i v y h1 h2 => hk (i + 1) v y (by simpa using h1) (by simpa using h2)]
          exact this l ys (by simpa using hl) key
      · cases h
    | arr c => simp [decB] at h
    | bot n =>
      simp only [decB] at h
      split at h
      · rename_i hn
        rw [beqN] at hn
        refine ⟨⟨by simp [BC.av, encB, hl, hn], ?_⟩, fun hk => by simp [cleanB] at hk⟩
        intro i x y h2 h3
        simp only [BC.av, encB, List.map_replicate, List.getElem?_replicate] at h2
        split at h2
        · injection h2 with h2; subst h2
          intro M ρ w _
          exact .bot _
        · cases h2
      · cases h
  | arr c xs es he =>
    cases k with
    | arr c' =>
      simp only [decB] at h
      obtain ⟨e, rfl⟩ := castL_some h
      subst e
      refine ⟨⟨?_, ?_⟩, fun _ => noBox_pv _⟩
      · simp only [BC.av, encB, List.length_map]
        rw [← he, ← flat_erase, List.length_map]
      · intro i x y h2 h3
        simp only [BC.av, encB] at h2
        rw [← he, ← flat_erase, List.map_map, List.getElem?_map, Option.map_eq_some_iff] at h2
        obtain ⟨p, hp, rfl⟩ := h2
        rw [List.getElem?_map, hp] at h3
        injection h3 with h3; subst h3
        intro M ρ w hw
        cases hw with
        | pv _ _ hw => exact .pv _ _ hw.erase
    | _ => simp [decB] at h

theorem enc0_ra (hU : U.Ok) {k : K0} (hk : cleanK k = true) (x : den0 U k) : RA U caps tips ctr (enc0 U k x) (TA.av U (enc0 U k x)) := by
  have := enc0_rv (caps := caps) (tips := tips) (ctr := ctr) hU hk x
  cases k <;> simp [cleanK] at hk <;> exact .v _ _ this

theorem encs0_ra (hU : U.Ok) : ∀ {ks : List K0} (hk : ks.all cleanK = true) (x : dens0 U ks) (i : Nat) a y, (encs0 U ks x)[i]? = some a → ((encs0 U ks x).map (TA.av U))[i]? = some y → RA U caps tips ctr a y
  | [], _, _, i, v, y, h1, _ => by simp [encs0] at h1
  | k :: ks, hk, (x, r), i, v, y, h1, h2 => by
    simp only [List.all_cons, Bool.and_eq_true] at hk
    cases i with
    | zero => simp [encs0] at h1 h2; subst h1; subst h2; exact enc0_ra hU hk.1 x
    | succ i =>
      simp only [encs0, List.map_cons, List.getElem?_cons_succ] at h1 h2
      exact encs0_ra hU hk.2 r i v y h1 h2

theorem encB_rb (hU : U.Ok) {k : BK} (hk : cleanB k = true) (x : denB U k) : RB U caps tips ctr (encB U k x) (BC.av U (encB U k x)) := by
  cases k with
  | cells ks => exact .cells _ _ (List.length_map _) (encs0_ra hU hk x)
  | obj c =>
    refine .cells _ _ (List.length_map _) ?_
    intro i a y h1 h2
    have h2 : (((U.enc c x).map TA.v).map (TA.av U))[i]? = some y := h2
    rw [List.getElem?_map, h1] at h2
    injection h2 with h2; subst h2
    rw [List.getElem?_map, Option.map_eq_some_iff] at h1
    obtain ⟨v, hv, rfl⟩ := h1
    exact .v _ _ (enc_flat_rv hU i v _ hv (by rw [pvL_eq, List.getElem?_map, hv]; rfl))
  | arr c => exact .arr c _ _ (eraseL_map_pv hU _)
  | bot n => simp [cleanB] at hk

theorem encs0_noBox : ∀ {ks : List K0} (hk : ks.all cleanK = true) (x : dens0 U ks), AV.noBoxL ((encs0 U ks x).map (TA.av U)) = true
  | [], _, _ => rfl
  | k :: ks, hk, (x, r) => by
    simp only [List.all_cons, Bool.and_eq_true] at hk
    have : AV.noBox (TA.av U (enc0 U k x)) = true := by
      have := hk.1
      cases k <;> simp [cleanK] at this <;> rfl
    simp [encs0, AV.noBoxL, this, encs0_noBox hk.2 r]

theorem encB_noBox {k : BK} (hk : cleanB k = true) (x : denB U k) : AV.noBoxL (BC.av U (encB U k x)) = true := by
  cases k with
  | cells ks => exact encs0_noBox hk x
  | obj c =>
    have : BC.av U (encB U (.obj c) x) = ((U.enc c x).map (TV.pv U)).map .pv := by
      simp only [BC.av, encB, List.map_map]; rfl
    rw [this]
    exact noBox_pv _
  | arr c => exact noBox_pv _
  | bot n => simp [cleanB] at hk

/-- A function's entry, with boxes, is true. -/
def EntX.Ok (P : Program) (e : EntX U) : Prop := e.rs.all cleanK = true ∧ e.xs.all cleanB = true ∧ ∀ a x r, e.F a x = some r →
  AC P e.f ((encs U e.ps a).map (TA.av U)) ((encsB U e.xs x).map (BC.av U)) (fun r' xs' => r' = TV.pv U (encR U e.rs r.1) ∧ xs' = (encsB U e.xs r.2).map (BC.av U))

theorem RA.ren_ {ids : List Nat} {a : TA U.D} {y : AV} (h : RA U caps tips ctr a y) : RA U caps tips ctr (renA ids a) (AV.ren ids y) := by
  have lst : ∀ (cs : List (TA U.D)), renAL ids cs = cs.map (renA ids) := by
    intro cs; induction cs with
    | nil => rfl
    | cons x r ih => simp [renAL, ih]
  induction h with
  | bot y => simp only [renA]; exact .bot _
  | undef => exact .undef
  | v x y h => exact .v x y h
  | box i off => exact .box _ _
  | ro cs ys hl h => exact .ro cs ys hl h
  | fn f cs ys hl h ih =>
    simp only [renA, AV.ren, lst, renL_eq]
    refine .fn f _ _ (by simp [hl]) ?_
    intro i c y h1 h2
    rw [List.getElem?_map, Option.map_eq_some_iff] at h1 h2
    obtain ⟨c', hc, rfl⟩ := h1
    obtain ⟨y', hy, rfl⟩ := h2
    exact ih i c' y' hc hy
  | msl i c n => simp only [renA]; exact .bot _
  | elt i c n hn => simp only [renA]; exact .bot _

theorem renAL_eq (ids : List Nat) (cs : List (TA U.D)) : renAL ids cs = cs.map (renA ids) := by
  induction cs with
  | nil => rfl
  | cons x r ih => simp [renAL, ih]

theorem dec0_idsEq {k : K0} {ids : List Nat} {a : TA U.D} {z : den0 U k} {y : AV} (h : dec0 U k (renA ids a) = some z) (hy : RA U caps tips ctr a y) : AV.ids y = idsA a := by
  cases hy with
  | bot => cases k <;> simp [renA, dec0] at h
  | undef => cases k <;> simp [renA, dec0] at h
  | v => rfl
  | box => rfl
  | ro => rfl
  | fn => cases k <;> simp [renA, dec0] at h
  | msl => cases k <;> simp [renA, dec0] at h
  | elt => cases k <;> simp [renA, dec0] at h

theorem decs0_idsEq {ids : List Nat} : ∀ {ks : List K0} {as_ : List (TA U.D)} {z : dens0 U ks} {ys : List AV}, decs0 U ks (as_.map (renA ids)) = some z → ys.length = as_.length → (∀ (i : Nat) c y, as_[i]? = some c → ys[i]? = some y → RA U caps tips ctr c y) → AV.idsL ys = idsAL as_
  | [], [], _, ys, _, hl, _ => by
    obtain rfl : ys = [] := List.eq_nil_of_length_eq_zero (by simpa using hl)
    rfl
  | k :: ks, a :: as_, z, ys, h, hl, hp => by
    simp only [List.map_cons, decs0] at h
    split at h
    · rename_i x r h1 h2
      cases ys with
      | nil => simp at hl
      | cons y ys =>
        simp only [AV.idsL, idsAL]
        rw [dec0_idsEq h1 (hp 0 a y rfl rfl), decs0_idsEq (ys := ys) h2 (by simpa using hl) fun i c y q1 q2 => hp (i + 1) c y (by simpa using q1) (by simpa using q2)]
    · cases h
  | [], _ :: _, _, _, h, _, _ => by simp [decs0] at h
  | _ :: _, [], _, _, h, _, _ => by simp [decs0] at h

theorem decK_idsEq {k : Kd} {ids : List Nat} {a : TA U.D} {z : den U k} {y : AV} (h : decK U k (renA ids a) = some z) (hy : RA U caps tips ctr a y) : AV.ids y = idsA a := by
  cases k with
  | s k => exact dec0_idsEq (k := k) (by simpa [decK] using h) hy
  | fn f cs =>
    cases hy with
    | fn f' as_ ys hl hp =>
      simp only [renA, decK] at h
      split at h
      · rw [renAL_eq] at h
        simp only [AV.ids, idsA]
        exact decs0_idsEq h hl hp
      · cases h
    | _ => simp [renA, decK] at h

theorem decs_idsEq {ids : List Nat} : ∀ {ks : List Kd} {as_ : List (TA U.D)} {z : dens U ks} {ys : List AV}, decs U ks (as_.map (renA ids)) = some z → ys.length = as_.length → (∀ (i : Nat) c y, as_[i]? = some c → ys[i]? = some y → RA U caps tips ctr c y) → AV.idsL ys = idsAL as_
  | [], [], _, ys, _, hl, _ => by
    obtain rfl : ys = [] := List.eq_nil_of_length_eq_zero (by simpa using hl)
    rfl
  | k :: ks, a :: as_, z, ys, h, hl, hp => by
    simp only [List.map_cons, decs] at h
    split at h
    · rename_i x r h1 h2
      cases ys with
      | nil => simp at hl
      | cons y ys =>
        simp only [AV.idsL, idsAL]
        rw [decK_idsEq h1 (hp 0 a y rfl rfl), decs_idsEq (ys := ys) h2 (by simpa using hl) fun i c y q1 q2 => hp (i + 1) c y (by simpa using q1) (by simpa using q2)]
    · cases h
  | [], _ :: _, _, _, h, _, _ => by simp [decs] at h
  | _ :: _, [], _, _, h, _, _ => by simp [decs] at h

theorem lksB_ok (hR : Rel U s st) : ∀ {ids : List Nat} {bs : List (BC U.D)}, lksB U s.boxes ids = some bs → ∃ exts : List (List AV), ids.map (fun i => lk i st.boxes) = exts.map some ∧ exts.length = bs.length ∧
    ∀ (j : Nat) bc cs, bs[j]? = some bc → exts[j]? = some cs → RB U s.caps st.tips s.ctr bc cs
  | [], bs, h => by
    simp only [lksB, Option.some.injEq] at h; subst h
    exact ⟨[], rfl, rfl, by simp⟩
  | i :: ids, bs, h => by
    simp only [lksB] at h
    split at h
    · rename_i x l h1 h2
      injection h with h; subst h
      rw [lkT_eq] at h1
      obtain ⟨cs, g1, g2⟩ := hR.boxes i x h1
      obtain ⟨exts, e1, e2, e3⟩ := lksB_ok hR h2
      refine ⟨cs :: exts, by simp [g1, e1], by simp [e2], ?_⟩
      intro j bc cs' q1 q2
      cases j with
      | zero => simp at q1 q2; subst q1; subst q2; exact g2
      | succ j => exact e3 j bc cs' (by simpa using q1) (by simpa using q2)
    · cases h

theorem decsB_wk (hU : U.Ok) : ∀ {ks : List BK} {bs : List (BC U.D)} {z : densB U ks} {exts : List (List AV)}, decsB U ks bs = some z → exts.length = bs.length → (∀ (j : Nat) bc cs, bs[j]? = some bc → exts[j]? = some cs → RB U caps tips ctr bc cs) →
    exts.length = ((encsB U ks z).map (BC.av U)).length ∧ (∀ (j : Nat) cs cs', ((encsB U ks z).map (BC.av U))[j]? = some cs → exts[j]? = some cs' → PtW cs' cs) ∧ (ks.all cleanB = true → ∀ l ∈ exts, AV.noBoxL l = true)
  | [], [], z, exts, h, hl, hp => by
    obtain rfl : exts = [] := List.eq_nil_of_length_eq_zero (by simpa using hl)
    exact ⟨rfl, by simp [encsB], by simp⟩
  | k :: ks, b :: bs, z, exts, h, hl, hp => by
    simp only [decsB] at h
    split at h
    · rename_i x r h1 h2
      injection h with h; subst h
      cases exts with
      | nil => simp at hl
      | cons e exts =>
        obtain ⟨g1, g2⟩ := decB_wk hU h1 (hp 0 b e rfl rfl)
        obtain ⟨f1, f2, f3⟩ := decsB_wk hU (exts := exts) h2 (by simpa using hl) fun j bc cs q1 q2 => hp (j + 1) bc cs (by simpa using q1) (by simpa using q2)
        refine ⟨by simpa [encsB] using f1, ?_, ?_⟩
        · intro j cs cs' q1 q2
          cases j with
          | zero => simp [encsB] at q1 q2; subst q1; subst q2; exact g1
          | succ j => exact f2 j cs cs' (by simpa [encsB] using q1) (by simpa using q2)
        · intro hk l hl
          simp only [List.all_cons, Bool.and_eq_true] at hk
          rcases List.mem_cons.1 hl with rfl | hl
          · exact g2 hk.1
          · exact f3 hk.2 l hl
    · cases h
  | [], _ :: _, _, _, h, _, _ => by simp [decsB] at h
  | _ :: _, [], _, _, h, _, _ => by simp [decsB] at h

theorem setBT_rel (hU : U.Ok) : ∀ {ks : List BK} (hk : ks.all cleanB = true) (z : densB U ks) (ids : List Nat) {s : TS U.D} {st : St} (hR : Rel U s st) {α : Type} (k : List (Nat × BC U.D) → α),
    ∃ bx, setBT U ids (encsB U ks z) s.boxes k = k bx ∧ Rel U ⟨s.tmps, bx, s.caps, s.ctr⟩ { st with boxes := setBoxes ids ((encsB U ks z).map (BC.av U)) st.boxes }
  | [], _, z, ids, s, st, hR, α, k => by
    refine ⟨s.boxes, ?_, ?_⟩
    · cases ids <;> simp [encsB, setBT]
    · have : setBoxes ids (([] : List (BC U.D)).map (BC.av U)) st.boxes = st.boxes := by cases ids <;> simp [setBoxes]
      simp only [encsB, this]
      exact hR
  | b :: ks, hk, (x, r), [], s, st, hR, α, k => by
    refine ⟨s.boxes, by simp [encsB, setBT], ?_⟩
    simp only [encsB, List.map_cons, setBoxes]
    exact hR
  | b :: ks, hk, (x, r), i :: ids, s, st, hR, α, k => by
    simp only [List.all_cons, Bool.and_eq_true] at hk
    have h1 := hR.setBox (d := i) (encB_rb (caps := s.caps) (tips := st.tips) (ctr := s.ctr) hU hk.1 x)
    obtain ⟨bx, h2, h3⟩ := setBT_rel hU hk.2 r ids h1 k
    refine ⟨bx, ?_, h3⟩
    simp only [encsB, setBT, upsT_eq]
    exact h2

theorem encsB_noBox : ∀ {ks : List BK} (hk : ks.all cleanB = true) (z : densB U ks), ∀ l ∈ (encsB U ks z).map (BC.av U), AV.noBoxL l = true
  | [], _, _, l, hl => by simp [encsB] at hl
  | k :: ks, hk, (x, r), l, hl => by
    simp only [List.all_cons, Bool.and_eq_true] at hk
    simp only [encsB, List.map_cons, List.mem_cons] at hl
    rcases hl with rfl | hl
    · exact encB_noBox hk.1 x
    · exact encsB_noBox hk.2 r l hl

theorem tcallX_ok {P : Program} (hU : U.Ok) {g : FuncId} {as_ : List (TA U.D)} {bs : List (BC U.D)} {ids : List Nat} {ys : List AV} {exts : List (List AV)} (hl : ys.length = as_.length) (hy : ∀ (i : Nat) c y, as_[i]? = some c → ys[i]? = some y → RA U caps tips ctr c y)
    (hxl : exts.length = bs.length) (hx : ∀ (j : Nat) bc cs, bs[j]? = some bc → exts[j]? = some cs → RB U caps tips ctr bc cs) :
    ∀ {l : List (EntX U)} {xs : List BK} {rs : List K0} {o : Option (denR U rs × densB U xs)}, (∀ e ∈ l, e.Ok P) → tcallX U g (as_.map (renA ids)) bs l = some ⟨xs, rs, o⟩ →
      rs.all cleanK = true ∧ xs.all cleanB = true ∧ AV.idsL ys = idsAL as_ ∧ (∀ l ∈ exts, AV.noBoxL l = true) ∧ ∀ r, o = some r → AC P g (ys.map (AV.ren ids)) exts (fun r' xs' => r' = TV.pv U (encR U rs r.1) ∧ xs' = (encsB U xs r.2).map (BC.av U))
  | [], xs, rs, o, hE, h => by simp [tcallX] at h
  | e :: l, xs, rs, o, hE, h => by
    have hr : ∀ e ∈ l, e.Ok P := fun e he => hE e (List.mem_cons_of_mem _ he)
    simp only [tcallX] at h
    split at h
    · rename_i hg
      rw [beqN] at hg
      split at h
      · rename_i a x ha hxd
        injection h with h
        obtain ⟨ef, eps, exs, ers, eF⟩ := e
        simp only at h hg ha hxd
        injection h with h1 h2
        subst h1
        have h2 := eq_of_heq h2
        injection h2 with h3 h4
        subst h3
        have h4 := eq_of_heq h4
        subst h4
        obtain ⟨k1, k2, k3⟩ := hE _ (List.mem_cons_self)
        have hra : ∀ (i : Nat) c y, (as_.map (renA ids))[i]? = some c → (ys.map (AV.ren ids))[i]? = some y → RA U caps tips ctr c y := by
          intro i c y q1 q2
          rw [List.getElem?_map, Option.map_eq_some_iff] at q1 q2
          obtain ⟨c', hc, rfl⟩ := q1
          obtain ⟨y', hy', rfl⟩ := q2
          exact (hy i c' y' hc hy').ren_
        have hw := decs_wk hU ha (ys := ys.map (AV.ren ids)) (by simp [hl]) hra
        obtain ⟨f1, f2, f3⟩ := decsB_wk hU hxd hxl hx
        refine ⟨k1, k2, decs_idsEq ha hl hy, f3 k2, ?_⟩
        intro r hr
        have := k3 a x r hr
        simp only at this
        rw [hg] at this
        exact AC.weak this hw.1 ⟨f1, f2⟩
      · exact tcallX_ok hU hl hy hxl hx hr h
    · exact tcallX_ok hU hl hy hxl hx hr h

theorem tlend_ok {P : Program} {E : Env U R} (hE : EnvOk P U tab E) (hX : ∀ e ∈ E.ex, e.Ok P) (hR : Rel U s st) {o : Oper} {K : TS U.D → Option R} {r : R} (h : tlend U E o s K = some r) :
    cls o = .n ∧ ∃ f args argTypes, o.op = .call { callee := .value f, args, argTypes } ∧ callX P tab o f args argTypes st (Kr U K r) := by
  have he : ∀ x, RA U s.caps st.tips s.ctr (tev [] s.tmps x) (evl st.tmps x) := fun x => tev_ok hR (by simp) x
  unfold tlend at h
  simp only at h
  split at h
  · rename_i f args argTypes hop
    refine ⟨by unfold cls; rw [hop], f, args, argTypes, hop, ?_⟩
    split at h
    · rename_i h0 caps' hsz hf
      have hfr := he f
      rw [hf] at hfr
      unfold callX
      generalize hfy : evl st.tmps f = fy at hfr ⊢
      cases hfr with
      | fn _ _ ys hl hp =>
        obtain ⟨a1, a2⟩ := targs_ok hE hR.ctr he f args argTypes
        obtain ⟨b1, b2⟩ := append_pt a1 a2 hl hp
        split at h
        · rename_i bs hbs
          split at h
          · rename_i xs rs o' hcall
            rw [Option.bind_eq_some_iff] at h
            obtain ⟨q, hq, hk⟩ := h
            obtain ⟨exts, e1, e2, e3⟩ := lksB_ok hR hbs
            rw [renAL_eq] at hcall
            obtain ⟨k1, k2, k3, k4, k5⟩ := tcallX_ok hE.uni b1 b2 e2 e3 hX hcall
            refine ⟨?_, exts, ?_, k4, (fun r' xs' => r' = TV.pv U (encR U rs q.1) ∧ xs' = (encsB U xs q.2).map (BC.av U)), ?_, ?_⟩
            · unfold sizesEq at hsz
              rw [beqN] at hsz
              simpa using hsz
            · rw [k3]; exact e1
            · rw [k3, renL_eq]; exact k5 q hq
            · rintro r' xs' ⟨rfl, rfl⟩ hlen _
              refine ⟨encsB_noBox k2 q.2, ?_⟩
              rw [k3]
              obtain ⟨bx, q1, q2⟩ := setBT_rel hE.uni k2 q.2 (dedup (idsAL (targs U E.tt (tev [] s.tmps) args argTypes ++ caps'))) hR (fun bx => tput ⟨s.tmps, bx, s.caps, s.ctr⟩ o.dst (.p (.v (encR U rs q.1))) K)
              rw [q1, tput_eq] at hk
              have hrv := encR_rv (caps := s.caps) (tips := st.tips) (ctr := s.ctr) hE.uni k1 q.1
              have f1 : regP o.dst (TV.pv U (encR U rs q.1)) = TV.pv U (encR U rs q.1) := by
                unfold regP
                split
                · rename_i heq; exact absurd heq (notOwn _ _ _ _ _)
                · rfl
              have f2 : regT o.dst (TV.pv U (encR U rs q.1)) st.tips = st.tips := by
                unfold regT
                split
                · rename_i heq; exact absurd heq (notOwn _ _ _ _ _)
                · rfl
              rw [f1, f2]
              exact ⟨_, (q2.noU _).setP (.v _ _ hrv), hk⟩
          · cases h
        · cases h
    · cases h
  · cases h

end
end Go.Tx
