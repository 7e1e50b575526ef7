/- Typed execution, part 10: at a loop's head a state is forgotten but for what the loop's form keeps. -/
import Derived.Test.YtbbncbojkkackaaTxI
set_option linter.unusedVariables false
set_option linter.unusedSimpArgs false
namespace Go.Tx
open Go.Ax

section
variable {X : List Nat} {M0 : Mem} {w0 : World} {M : Mem} {ρ : Nat → Option Nat} {st : St} {a : Act} {w : World}

theorem Inv.weak2 (h : Inv X M0 w0 M ρ st a w) {st2 : St} (hl : st2.tmps.length = st.tmps.length)
    (ht : ∀ (t : Nat) y2, st2.tmps[t]? = some y2 → ∃ y, st.tmps[t]? = some y ∧ Wk y y2)
    (htk : ∀ y2 ∈ st2.tmps, ∀ i ∈ AV.ids y2, (lk i st2.boxes).isSome = true)
    (hb : ∀ i cs2, lk i st2.boxes = some cs2 → ∃ cs, lk i st.boxes = some cs ∧ PtW cs cs2)
    (hbk : ∀ i cs2, lk i st2.boxes = some cs2 → ∀ x ∈ cs2, ∀ j ∈ AV.ids x, (lk j st2.boxes).isSome = true)
    (pr : Nat → Nat → Prop) (hpr : ∀ s s' t, pr s t → pr s' t → s = s')
    (htip : ∀ s b off hw, lk s st2.tips = some (some (b, off), hw) → ∃ t, pr s t ∧ lk t st.tips = some (some (b, off), hw))
    (hU : ∀ b, st2.U b → st.U b) (hk : ∀ i, 1000 ≤ i → (lk i st.boxes).isSome = true → (lk i st2.boxes).isSome = true) : ∃ ρ', Inv X M0 w0 M ρ' st2 a w := by
  refine ⟨fun i => if (lk i st2.boxes).isSome then ρ i else none, ?_⟩
  have hsub : ∀ i b, (if (lk i st2.boxes).isSome then ρ i else none) = some b → ρ i = some b := by
    intro i b hi
    split at hi
    · exact hi
    · cases hi
  refine { h with len := h.len.trans hl.symm, tmps := ?_, boxes := ?_, dom := ?_, inj := fun i j b hi hj => h.inj i j b (hsub i b hi) (hsub j b hj), tips := ?_, tipinj := ?_, U := fun b hb => h.U b (hU b hb), ext := ?_ }
  · intro t x hx
    obtain ⟨y, h1, h2⟩ := ht t x hx
    refine (h2 _ _ _ (h.tmps t y h1)).restrict fun i hi => ?_
    rw [htk x (List.mem_of_getElem? hx) i hi]; rfl
  · intro i cs2 hi
    obtain ⟨cs, h1, h2, h3⟩ := hb i cs2 hi
    obtain ⟨b, g0, ⟨⟨vs, T, g1, g2, g3⟩, g4, g5⟩, g6⟩ := h.boxes i cs h1
    refine ⟨b, by rw [hi]; exact g0, ⟨⟨vs, T, g1, by rw [g2, h2], ?_⟩, g4, g5⟩, g6⟩
    intro j c hj
    have hjl := (List.getElem?_eq_some_iff.1 hj).1
    have h4 : cs[j]? = some (cs[j]'(by omega)) := List.getElem?_eq_getElem _
    obtain ⟨g7, g8⟩ := g3 j _ h4
    refine ⟨(h3 j c _ hj h4 _ _ _ g7).restrict fun k hk => ?_, g8⟩
    rw [hbk i cs2 hi c (List.mem_of_getElem? hj) k hk]; rfl
  · intro i b hi
    split at hi
    · assumption
    · cases hi
  · intro s b off hw hs
    obtain ⟨t, _, h2⟩ := htip s b off hw hs
    exact h.tips t b off hw h2
  · intro s s' b off off' hw hw' h1 h2
    obtain ⟨t, p1, q1⟩ := htip s b off hw h1
    obtain ⟨t', p2, q2⟩ := htip s' b off' hw' h2
    have := h.tipinj t t' b off off' hw hw' q1 q2
    subst this
    exact hpr _ _ _ p1 p2
  · intro j b hb
    have h1 := h.ext j b hb
    have h2 := hk (1000 + j) (by omega) (h.dom _ _ h1)
    rw [h2]; exact h1
end

section
variable {U : Uni} {caps : List (Nat × Nat)} {tips : Tips} {ctr : Nat} {s : TS U.D} {st : St}

/-- A slice that was made gets another mark. -/
def resite (σ : Nat) : AV → AV
  | .pv (.own _ ob sz es) => .pv (.own σ ob sz es)
  | _ => .bot

variable (U) in
def avK0 : (k : K0) → den0 U k → AV → AV
  | .own σ _, _, y => resite σ y
  | .int k, z, _ => TA.av U (enc0 U (.int k) z)
  | .bool, z, _ => TA.av U (enc0 U .bool z)
  | .str, z, _ => TA.av U (enc0 U .str z)
  | .sl c, z, _ => TA.av U (enc0 U (.sl c) z)
  | .obj c, z, _ => TA.av U (enc0 U (.obj c) z)
  | .box i off, z, _ => TA.av U (enc0 U (.box i off) z)
  | .msl i c, z, _ => TA.av U (enc0 U (.msl i c) z)

theorem avK0_eq {k : K0} (h : noOwnK k = true) (z : den0 U k) (y : AV) : avK0 U k z y = TA.av U (enc0 U k z) := by
  cases k <;> first | rfl | simp [noOwnK] at h

def tipOf : AV → Option (Nat × Nat) × Nat
  | .pv (.own _ ob sz es) => (ob, es.length * sz)
  | _ => (none, 0)

/-- A slice that a loop keeps: its new mark, its old one, what is known of its end. -/
structure OS where
  σ : Nat
  s : Nat
  ver : Nat
  tip : Option (Nat × Nat) × Nat

def osOf (k : K0) (a : TA U.D) (y : AV) : List OS :=
  match k, a with
  | .own σ _, .v (.own s ver _ _) => [⟨σ, s, ver, tipOf y⟩]
  | _, _ => []

/-- What is known of the new marks. -/
structure Marks (caps : List (Nat × Nat)) (tips tips2 : Tips) (O : List OS) : Prop where
  lk : ∀ o ∈ O, lk o.σ tips2 = some o.tip
  pos : ∀ o ∈ O, o.σ ≠ 0
  tok : ∀ o ∈ O, tokOK o.s o.ver caps = true

theorem slot_ok (hU : U.Ok) {k : K0} {a : TA U.D} {z : den0 U k} {y : AV} (h : dec0 U k a = some z) (hy : RA U caps tips ctr a y) (ht : ∀ o ∈ osOf k a y, tokOK o.s o.ver caps = true) :
    Wk y (avK0 U k z y) ∧ AV.ids (avK0 U k z y) = idsK k ∧
    (∀ o ∈ osOf k a y, ∀ b off hw, o.tip = (some (b, off), hw) → o.s ≠ 0 ∧ lk o.s tips = some (some (b, off), hw)) ∧
    ∀ caps2 tips2, (∀ o ∈ osOf k a y, lk o.σ tips2 = some o.tip ∧ o.σ ≠ 0) → RA U caps2 tips2 1 (enc0 U k z) (avK0 U k z y) := by
  by_cases hk : noOwnK k = true
  · have hos : osOf k a y = [] := by cases k <;> first | rfl | simp [noOwnK] at hk
    rw [avK0_eq hk, hos]
    refine ⟨(dec0_wk hU h hy).1, ?_, by simp, ?_⟩
    · cases k <;> first | rfl | simp [noOwnK] at hk
    · intro caps2 tips2 _
      by_cases hc : cleanK k = true
      · exact enc0_ra hU hc z
      · cases k <;> simp [noOwnK, cleanK] at hk hc
        · exact .box _ _
        · exact .msl _ _ _
  · obtain ⟨σ, c, rfl⟩ : ∃ σ c, k = .own σ c := by
      cases k <;> first | exact ⟨_, _, rfl⟩ | simp [noOwnK] at hk
    cases hy with
    | v x p hv =>
      cases x <;> simp only [dec0, reduceCtorEq] at h
      rename_i s0 ver c' xs
      obtain ⟨e, rfl⟩ := castL_some h
      subst e
      cases hv with
      | flat _ _ hf _ => simp [TV.flat] at hf
      | own _ _ _ _ _ hver her hk2 =>
        have htok := ht ⟨σ, s0, ver, tipOf (.pv p)⟩ (by simp [osOf])
        obtain ⟨ob, es, rfl, q1, q2⟩ := hk2 htok
        refine ⟨?_, rfl, ?_, ?_⟩
        · intro M ρ v hv
          cases hv with
          | pv _ _ hv => exact .pv _ _ hv.resite
        · intro o ho b off hw hob
          simp only [osOf, List.mem_singleton] at ho
          subst ho
          simp only [tipOf, Prod.mk.injEq] at hob
          obtain ⟨h1, h2⟩ := hob
          have hs0 : s0 ≠ 0 := by intro e; rw [q1 e] at h1; cases h1
          refine ⟨hs0, ?_⟩
          rcases q2 hs0 with h3 | h3
          · rw [h3] at h1; cases h1
          · rw [h3, h1, ← h2]
        · intro caps2 tips2 hm
          obtain ⟨m1, m2⟩ := hm ⟨σ, s0, ver, tipOf (.pv (.own s0 ob (U.sz c') es))⟩ (by simp [osOf])
          simp only [enc0, avK0, resite]
          refine .v _ _ (.own σ 0 c' xs _ (by omega) (by simpa [PV.erase] using her) fun _ => ⟨ob, es, rfl, fun e => absurd e m2, fun _ => .inr ?_⟩)
          exact m1
    | _ => simp [dec0] at h

theorem osOf_site {k : K0} {a : TA U.D} {z : den0 U k} {y : AV} (h : dec0 U k a = some z) : (osOf k a y).map (·.σ) = match (motive := K0 → List Nat) k with | .own s _ => [s] | _ => [] := by
  by_cases hk : noOwnK k = true
  · cases k <;> first | rfl | simp [noOwnK] at hk
  · obtain ⟨σ, c, rfl⟩ : ∃ σ c, k = .own σ c := by
      cases k <;> first | exact ⟨_, _, rfl⟩ | simp [noOwnK] at hk
    cases a with
    | v x => cases x <;> first | rfl | simp [dec0] at h
    | _ => simp [dec0] at h

def os0 : List K0 → List (TA U.D) → List AV → List OS
  | k :: ks, a :: as_, y :: ys => osOf k a y ++ os0 ks as_ ys
  | _, _, _ => []

variable (U) in
def avs0 : (ks : List K0) → dens0 U ks → List AV → List AV
  | k :: ks, (z, r), y :: ys => avK0 U k z y :: avs0 ks r ys
  | [], _, _ => []
  | _ :: _, _, [] => []

theorem slots0_ok (hU : U.Ok) : ∀ {ks : List K0} {as_ : List (TA U.D)} {z : dens0 U ks} {ys : List AV}, decs0 U ks as_ = some z → ys.length = as_.length → (∀ (i : Nat) c y, as_[i]? = some c → ys[i]? = some y → RA U caps tips ctr c y) →
    (∀ o ∈ os0 ks as_ ys, tokOK o.s o.ver caps = true) →
    PtW ys (avs0 U ks z ys) ∧ (∀ x ∈ avs0 U ks z ys, ∀ i ∈ AV.ids x, i ∈ ks.flatMap idsK) ∧
    (∀ o ∈ os0 ks as_ ys, ∀ b off hw, o.tip = (some (b, off), hw) → o.s ≠ 0 ∧ lk o.s tips = some (some (b, off), hw)) ∧
    (∀ caps2 tips2, (∀ o ∈ os0 ks as_ ys, lk o.σ tips2 = some o.tip ∧ o.σ ≠ 0) → (avs0 U ks z ys).length = (encs0 U ks z).length ∧ ∀ (i : Nat) c y, (encs0 U ks z)[i]? = some c → (avs0 U ks z ys)[i]? = some y → RA U caps2 tips2 1 c y) ∧
    (os0 ks as_ ys).map (fun o => (o.s, o.ver)) = ownToks U ks as_ ∧ (os0 ks as_ ys).map (·.σ) = ks.flatMap fun k => match k with | .own s _ => [s] | _ => []
  | [], [], z, ys, h, hl, hy, ht => by
    obtain rfl : ys = [] := List.eq_nil_of_length_eq_zero (by simpa using hl)
    exact ⟨⟨rfl, by simp [avs0]⟩, by simp [avs0], by simp [os0], by simp [avs0, encs0], rfl, rfl⟩
  | k :: ks, a :: as_, z, [], h, hl, hy, ht => by simp at hl
  | k :: ks, a :: as_, z, y :: ys, h, hl, hy, ht => by
    simp only [decs0] at h
    split at h
    · rename_i x r h1 h2
      injection h with h; subst h
      simp only [os0, List.mem_append] at ht ⊢
      obtain ⟨a1, a2, a3, a4⟩ := slot_ok hU h1 (hy 0 a y rfl rfl) fun o ho => ht o (.inl ho)
      obtain ⟨b1, b2, b3, b4, b5, b6⟩ := slots0_ok hU (ys := ys) h2 (by simpa using hl) (fun i c y p q => hy (i + 1) c y (by simpa using p) (by simpa using q)) fun o ho => ht o (.inr ho)
      refine ⟨⟨by simp [avs0, b1.1], ?_⟩, ?_, ?_, ?_, ?_, ?_⟩
      · intro i x' y' p q
        cases i with
        | zero => simp [avs0] at p q; subst p; subst q; exact a1
        | succ i => exact b1.2 i x' y' (by simpa [avs0] using p) (by simpa using q)
      · intro x' hx' i hi
        simp only [avs0, List.mem_cons] at hx'
        simp only [List.flatMap_cons, List.mem_append]
        rcases hx' with rfl | hx'
        · rw [a2] at hi; exact .inl hi
        · exact .inr (b2 x' hx' i hi)
      · rintro o (ho | ho)
        · exact a3 o ho
        · exact b3 o ho
      · intro caps2 tips2 hm
        obtain ⟨c1, c2⟩ := b4 caps2 tips2 fun o ho => hm o (.inr ho)
        refine ⟨by simp [avs0, encs0, c1], ?_⟩
        intro i c' y' p q
        cases i with
        | zero => simp [avs0, encs0] at p q; subst p; subst q; exact a4 caps2 tips2 fun o ho => hm o (.inl ho)
        | succ i => exact c2 i c' y' (by simpa [encs0] using p) (by simpa [avs0] using q)
      · simp only [List.map_append, ownToks, b5]
        congr 1
        unfold osOf ownTok
        split <;> simp_all
      · simp only [List.map_append, List.flatMap_cons, b6]
        congr 1
        exact osOf_site h1
    · cases h
  | [], _ :: _, _, _, h, _, _, _ => by simp [decs0] at h
  | _ :: _, [], _, _, h, _, _, _ => by simp [decs0] at h

variable (U) in
def avKd : (k : Kd) → den U k → AV → AV
  | .s k, z, y => avK0 U k z y
  | .fn f cs, z, _ => TA.av U (encK U (.fn f cs) z)
def osKd : Kd → TA U.D → AV → List OS
  | .s k, a, y => osOf k a y
  | .fn _ _, _, _ => []

theorem idsAL_enc {ks : List K0} (h : ks.all noOwnK = true) (z : dens0 U ks) : AV.idsL ((encs0 U ks z).map (TA.av U)) = ks.flatMap idsK := by
  induction ks with
  | nil => rfl
  | cons k ks ih =>
    simp only [List.all_cons, Bool.and_eq_true] at h
    obtain ⟨z, r⟩ := z
    simp only [encs0, List.map_cons, AV.idsL, List.flatMap_cons, ih h.2]
    congr 1
    have := h.1
    cases k <;> first | rfl | simp [noOwnK] at this

theorem encs0_ra' (hU : U.Ok) {caps2 : List (Nat × Nat)} {tips2 : Tips} : ∀ {ks : List K0} (hk : ks.all noOwnK = true) (x : dens0 U ks) (i : Nat) a y, (encs0 U ks x)[i]? = some a → ((encs0 U ks x).map (TA.av U))[i]? = some y → RA U caps2 tips2 1 a y
  | [], _, _, i, v, y, h1, _ => by simp [encs0] at h1
  | k :: ks, hk, (x, r), i, v, y, h1, h2 => by
    simp only [List.all_cons, Bool.and_eq_true] at hk
    cases i with
    | zero =>
      simp [encs0] at h1 h2; subst h1; subst h2
      by_cases hc : cleanK k = true
      · exact enc0_ra hU hc x
      · have := hk.1
        cases k <;> simp [noOwnK, cleanK] at this hc
        · exact .box _ _
        · exact .msl _ _ _
    | succ i =>
      simp only [encs0, List.map_cons, List.getElem?_cons_succ] at h1 h2
      exact encs0_ra' hU hk.2 r i v y h1 h2

theorem slotK_ok (hU : U.Ok) {k : Kd} (hn : noOwnKd k = true) {a : TA U.D} {z : den U k} {y : AV} (h : decK U k a = some z) (hy : RA U caps tips ctr a y) (ht : ∀ o ∈ osKd k a y, tokOK o.s o.ver caps = true) :
    Wk y (avKd U k z y) ∧ (∀ i ∈ AV.ids (avKd U k z y), i ∈ idsKd k) ∧
    (∀ o ∈ osKd k a y, ∀ b off hw, o.tip = (some (b, off), hw) → o.s ≠ 0 ∧ lk o.s tips = some (some (b, off), hw)) ∧
    (∀ caps2 tips2, (∀ o ∈ osKd k a y, lk o.σ tips2 = some o.tip ∧ o.σ ≠ 0) → RA U caps2 tips2 1 (encK U k z) (avKd U k z y)) ∧
    (osKd k a y).map (fun o => (o.s, o.ver)) = ownKd U k a ∧ (osKd k a y).map (·.σ) = sitesK k := by
  cases k with
  | s k =>
    have h : dec0 U k a = some z := by simpa [decK] using h
    obtain ⟨a1, a2, a3, a4⟩ := slot_ok hU h hy ht
    refine ⟨a1, fun i hi => by rw [show avKd U (.s k) z y = avK0 U k z y from rfl, a2] at hi; exact hi, a3, a4, ?_, ?_⟩
    · show (osOf k a y).map _ = ownTok U k a
      unfold osOf ownTok
      split <;> simp_all
    · show (osOf k a y).map _ = _
      rw [osOf_site h]
      cases k <;> rfl
  | fn f cs =>
    have hw := (decK_wk hU h hy).1
    refine ⟨hw, ?_, by simp [osKd], ?_, rfl, rfl⟩
    · intro i hi
      simp only [avKd, encK, TA.av, avL_eq, AV.ids] at hi
      rw [idsAL_enc hn] at hi
      exact hi
    · intro caps2 tips2 _
      simp only [avKd, encK, TA.av, avL_eq]
      exact .fn _ _ _ (List.length_map _) (encs0_ra' hU hn z)

def osT : List Kd → List (TA U.D) → List AV → List OS
  | k :: ks, a :: as_, y :: ys => osKd k a y ++ osT ks as_ ys
  | _, _, _ => []
variable (U) in
def avsK : (ks : List Kd) → dens U ks → List AV → List AV
  | k :: ks, (z, r), y :: ys => avKd U k z y :: avsK ks r ys
  | [], _, _ => []
  | _ :: _, _, [] => []

theorem slotsT_ok (hU : U.Ok) : ∀ {ks : List Kd} {as_ : List (TA U.D)} {z : dens U ks} {ys : List AV}, ks.all noOwnKd = true → decs U ks as_ = some z → ys.length = as_.length → (∀ (i : Nat) c y, as_[i]? = some c → ys[i]? = some y → RA U caps tips ctr c y) →
    (∀ o ∈ osT ks as_ ys, tokOK o.s o.ver caps = true) →
    PtW ys (avsK U ks z ys) ∧ (∀ x ∈ avsK U ks z ys, ∀ i ∈ AV.ids x, i ∈ ks.flatMap idsKd) ∧
    (∀ o ∈ osT ks as_ ys, ∀ b off hw, o.tip = (some (b, off), hw) → o.s ≠ 0 ∧ lk o.s tips = some (some (b, off), hw)) ∧
    (∀ caps2 tips2, (∀ o ∈ osT ks as_ ys, lk o.σ tips2 = some o.tip ∧ o.σ ≠ 0) → (avsK U ks z ys).length = (encs U ks z).length ∧ ∀ (i : Nat) c y, (encs U ks z)[i]? = some c → (avsK U ks z ys)[i]? = some y → RA U caps2 tips2 1 c y) ∧
    (osT ks as_ ys).map (fun o => (o.s, o.ver)) = (ks.zip as_).flatMap (fun p => ownKd U p.1 p.2) ∧ (osT ks as_ ys).map (·.σ) = ks.flatMap sitesK
  | [], [], z, ys, hn, h, hl, hy, ht => by
    obtain rfl : ys = [] := List.eq_nil_of_length_eq_zero (by simpa using hl)
    exact ⟨⟨rfl, by simp [avsK]⟩, by simp [avsK], by simp [osT], by simp [avsK, encs], rfl, rfl⟩
  | k :: ks, a :: as_, z, [], hn, h, hl, hy, ht => by simp at hl
  | k :: ks, a :: as_, z, y :: ys, hn, h, hl, hy, ht => by
    simp only [List.all_cons, Bool.and_eq_true] at hn
    simp only [decs] at h
    split at h
    · rename_i x r h1 h2
      injection h with h; subst h
      simp only [osT, List.mem_append] at ht ⊢
      obtain ⟨a1, a2, a3, a4, a5, a6⟩ := slotK_ok hU hn.1 h1 (hy 0 a y rfl rfl) fun o ho => ht o (.inl ho)
      obtain ⟨b1, b2, b3, b4, b5, b6⟩ := slotsT_ok hU (ys := ys) hn.2 h2 (by simpa using hl) (fun i c y p q => hy (i + 1) c y (by simpa using p) (by simpa using q)) fun o ho => ht o (.inr ho)
      refine ⟨⟨by simp [avsK, b1.1], ?_⟩, ?_, ?_, ?_, ?_, ?_⟩
      · intro i x' y' p q
        cases i with
        | zero => simp [avsK] at p q; subst p; subst q; exact a1
        | succ i => exact b1.2 i x' y' (by simpa [avsK] using p) (by simpa using q)
      · intro x' hx' i hi
        simp only [avsK, List.mem_cons] at hx'
        simp only [List.flatMap_cons, List.mem_append]
        rcases hx' with rfl | hx'
        · exact .inl (a2 i hi)
        · exact .inr (b2 x' hx' i hi)
      · rintro o (ho | ho)
        · exact a3 o ho
        · exact b3 o ho
      · intro caps2 tips2 hm
        obtain ⟨c1, c2⟩ := b4 caps2 tips2 fun o ho => hm o (.inr ho)
        refine ⟨by simp [avsK, encs, c1], ?_⟩
        intro i c' y' p q
        cases i with
        | zero => simp [avsK, encs] at p q; subst p; subst q; exact a4 caps2 tips2 fun o ho => hm o (.inl ho)
        | succ i => exact c2 i c' y' (by simpa [encs] using p) (by simpa [avsK] using q)
      · simp only [List.map_append, List.zip_cons_cons, List.flatMap_cons, a5, b5]
      · simp only [List.map_append, List.flatMap_cons, a6, b6]
    · cases h
  | [], _ :: _, _, _, _, h, _, _, _ => by simp [decs] at h
  | _ :: _, [], _, _, _, h, _, _, _ => by simp [decs] at h

variable (U) in
def avB : (k : BK) → denB U k → List AV → List AV
  | .cells ks, z, cs => avs0 U ks z cs
  | .obj c, z, _ => BC.av U (encB U (.obj c) z)
  | .arr c, z, _ => BC.av U (encB U (.arr c) z)
  | .bot n, z, _ => BC.av U (encB U (.bot n) z)
def osB : BK → BC U.D → List AV → List OS
  | .cells ks, .cells as_, ys => os0 ks as_ ys
  | _, _, _ => []

theorem ids_pv (l : List PV) : ∀ x ∈ l.map AV.pv, AV.ids x = [] := by
  intro x hx
  obtain ⟨p, _, rfl⟩ := List.mem_map.1 hx
  rfl

theorem slotB_ok (hU : U.Ok) {k : BK} {bc : BC U.D} {z : denB U k} {cs : List AV} (h : decB U k bc = some z) (hy : RB U caps tips ctr bc cs) (ht : ∀ o ∈ osB k bc cs, tokOK o.s o.ver caps = true) :
    PtW cs (avB U k z cs) ∧ (∀ x ∈ avB U k z cs, ∀ i ∈ AV.ids x, i ∈ idsBK k) ∧
    (∀ o ∈ osB k bc cs, ∀ b off hw, o.tip = (some (b, off), hw) → o.s ≠ 0 ∧ lk o.s tips = some (some (b, off), hw)) ∧
    (∀ caps2 tips2, (∀ o ∈ osB k bc cs, lk o.σ tips2 = some o.tip ∧ o.σ ≠ 0) → RB U caps2 tips2 1 (encB U k z) (avB U k z cs)) ∧
    (osB k bc cs).map (fun o => (o.s, o.ver)) = ownB U k bc ∧ (osB k bc cs).map (·.σ) = sitesBK k := by
  cases k with
  | cells ks =>
    cases hy with
    | cells as_ _ hl hp =>
      simp only [decB] at h
      obtain ⟨b1, b2, b3, b4, b5, b6⟩ := slots0_ok hU h hl hp ht
      refine ⟨b1, b2, b3, ?_, b5, b6⟩
      intro caps2 tips2 hm
      obtain ⟨c1, c2⟩ := b4 caps2 tips2 hm
      exact .cells _ _ c1 c2
    | arr => simp [decB] at h
  | obj c =>
    refine ⟨(decB_wk hU h hy).1, ?_, ?_, ?_, ?_, rfl⟩
    · intro x hx i hi
      have : avB U (.obj c) z cs = ((U.enc c z).map (TV.pv U)).map .pv := by
        simp only [avB, BC.av, encB, List.map_map]; rfl
      rw [this] at hx
      rw [ids_pv _ x hx] at hi
      cases hi
    · intro o ho; cases bc <;> simp [osB] at ho
    · intro caps2 tips2 _; exact encB_rb hU rfl z
    · cases bc <;> rfl
  | arr c =>
    refine ⟨(decB_wk hU h hy).1, ?_, ?_, ?_, ?_, rfl⟩
    · intro x hx i hi
      rw [ids_pv _ x hx] at hi
      cases hi
    · intro o ho; cases bc <;> simp [osB] at ho
    · intro caps2 tips2 _; exact encB_rb hU rfl z
    · cases bc <;> rfl
  | bot n =>
    refine ⟨(decB_wk hU h hy).1, ?_, ?_, ?_, ?_, rfl⟩
    · intro x hx i hi
      simp only [avB, BC.av, encB, List.map_replicate, List.mem_replicate] at hx
      rw [hx.2] at hi
      simp [TA.av, AV.ids] at hi
    · intro o ho; cases bc <;> simp [osB] at ho
    · intro caps2 tips2 _
      simp only [encB, avB, BC.av]
      refine .cells _ _ (by simp) ?_
      intro i c y h1 h2
      rw [List.getElem?_replicate] at h1
      split at h1
      · injection h1 with h1; subst h1; exact .bot _
      · cases h1
    · cases bc <;> rfl

def osBs : List BK → List (BC U.D) → List (List AV) → List OS
  | k :: ks, b :: bs, c :: cs => osB k b c ++ osBs ks bs cs
  | _, _, _ => []
variable (U) in
def avsB : (ks : List BK) → densB U ks → List (List AV) → List (List AV)
  | k :: ks, (z, r), c :: cs => avB U k z c :: avsB ks r cs
  | [], _, _ => []
  | _ :: _, _, [] => []

theorem slotsB_ok (hU : U.Ok) : ∀ {ks : List BK} {bs : List (BC U.D)} {z : densB U ks} {cs : List (List AV)}, decsB U ks bs = some z → cs.length = bs.length → (∀ (j : Nat) b c, bs[j]? = some b → cs[j]? = some c → RB U caps tips ctr b c) →
    (∀ o ∈ osBs ks bs cs, tokOK o.s o.ver caps = true) →
    ((avsB U ks z cs).length = cs.length ∧ ∀ (j : Nat) c c2, cs[j]? = some c → (avsB U ks z cs)[j]? = some c2 → PtW c c2) ∧ (∀ c2 ∈ avsB U ks z cs, ∀ x ∈ c2, ∀ i ∈ AV.ids x, i ∈ ks.flatMap idsBK) ∧
    (∀ o ∈ osBs ks bs cs, ∀ b off hw, o.tip = (some (b, off), hw) → o.s ≠ 0 ∧ lk o.s tips = some (some (b, off), hw)) ∧
    (∀ caps2 tips2, (∀ o ∈ osBs ks bs cs, lk o.σ tips2 = some o.tip ∧ o.σ ≠ 0) → (avsB U ks z cs).length = (encsB U ks z).length ∧ ∀ (j : Nat) b c, (encsB U ks z)[j]? = some b → (avsB U ks z cs)[j]? = some c → RB U caps2 tips2 1 b c) ∧
    (osBs ks bs cs).map (fun o => (o.s, o.ver)) = (ks.zip bs).flatMap (fun p => ownB U p.1 p.2) ∧ (osBs ks bs cs).map (·.σ) = ks.flatMap sitesBK
  | [], [], z, cs, h, hl, hy, ht => by
    obtain rfl : cs = [] := List.eq_nil_of_length_eq_zero (by simpa using hl)
    exact ⟨⟨rfl, by simp⟩, by simp [avsB], by simp [osBs], by simp [avsB, encsB], rfl, rfl⟩
  | k :: ks, b :: bs, z, [], h, hl, hy, ht => by simp at hl
  | k :: ks, b :: bs, z, c :: cs, h, hl, hy, ht => by
    simp only [decsB] at h
    split at h
    · rename_i x r h1 h2
      injection h with h; subst h
      simp only [osBs, List.mem_append] at ht ⊢
      obtain ⟨a1, a2, a3, a4, a5, a6⟩ := slotB_ok hU h1 (hy 0 b c rfl rfl) fun o ho => ht o (.inl ho)
      obtain ⟨b1, b2, b3, b4, b5, b6⟩ := slotsB_ok hU (cs := cs) h2 (by simpa using hl) (fun j b c p q => hy (j + 1) b c (by simpa using p) (by simpa using q)) fun o ho => ht o (.inr ho)
      refine ⟨⟨by simp [avsB, b1.1], ?_⟩, ?_, ?_, ?_, ?_, ?_⟩
      · intro j c' c2 p q
        cases j with
        | zero => simp [avsB] at p q; subst p; subst q; exact a1
        | succ j => exact b1.2 j c' c2 (by simpa using p) (by simpa [avsB] using q)
      · intro c2 hc2 x' hx' i hi
        simp only [avsB, List.mem_cons] at hc2
        simp only [List.flatMap_cons, List.mem_append]
        rcases hc2 with rfl | hc2
        · exact .inl (a2 x' hx' i hi)
        · exact .inr (b2 c2 hc2 x' hx' i hi)
      · rintro o (ho | ho)
        · exact a3 o ho
        · exact b3 o ho
      · intro caps2 tips2 hm
        obtain ⟨c1, c2⟩ := b4 caps2 tips2 fun o ho => hm o (.inr ho)
        refine ⟨by simp [avsB, encsB, c1], ?_⟩
        intro j b' c' p q
        cases j with
        | zero => simp [avsB, encsB] at p q; subst p; subst q; exact a4 caps2 tips2 fun o ho => hm o (.inl ho)
        | succ j => exact c2 j b' c' (by simpa [encsB] using p) (by simpa [avsB] using q)
      · simp only [List.map_append, List.zip_cons_cons, List.flatMap_cons, a5, b5]
      · simp only [List.map_append, List.flatMap_cons, a6, b6]
    · cases h
  | [], _ :: _, _, _, h, _, _, _ => by simp [decsB] at h
  | _ :: _, [], _, _, h, _, _, _ => by simp [decsB] at h

end
end Go.Tx
