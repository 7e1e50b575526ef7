/- Typed execution, part 11: at a loop's head, the state of the loop's form. -/
import Derived.Test.YtbbncbojkkackaaTxJ
set_option linter.unusedVariables false
set_option linter.unusedSimpArgs false
namespace Go.Tx
open Go.Ax

section
variable {U : Uni} {s : TS U.D} {st : St}

theorem os0_tok : ∀ {ks : List K0} {as_ : List (TA U.D)} {ys : List AV}, ys.length = as_.length → (os0 ks as_ ys).map (fun o => (o.s, o.ver)) = ownToks U ks as_
  | [], as_, ys, hl => by cases as_ <;> rfl
  | k :: ks, [], ys, hl => rfl
  | k :: ks, a :: as_, [], hl => by simp at hl
  | k :: ks, a :: as_, y :: ys, hl => by
    simp only [os0, List.map_append, ownToks, os0_tok (ks := ks) (as_ := as_) (ys := ys) (by simpa using hl)]
    congr 1
    unfold osOf ownTok
    split <;> simp_all

theorem osT_tok : ∀ {ks : List Kd} {as_ : List (TA U.D)} {ys : List AV}, ys.length = as_.length → (osT ks as_ ys).map (fun o => (o.s, o.ver)) = (ks.zip as_).flatMap (fun p => ownKd U p.1 p.2)
  | [], as_, ys, hl => by cases as_ <;> rfl
  | k :: ks, [], ys, hl => rfl
  | k :: ks, a :: as_, [], hl => by simp at hl
  | k :: ks, a :: as_, y :: ys, hl => by
    simp only [osT, List.map_append, List.zip_cons_cons, List.flatMap_cons, osT_tok (ks := ks) (as_ := as_) (ys := ys) (by simpa using hl)]
    congr 1
    cases k with
    | s k =>
      show (osOf k a y).map _ = ownTok U k a
      unfold osOf ownTok
      split <;> simp_all
    | fn f cs => rfl

theorem osB_tok {caps tips ctr} {k : BK} {b : BC U.D} {c : List AV} (h : RB U caps tips ctr b c) : (osB k b c).map (fun o => (o.s, o.ver)) = ownB U k b := by
  cases h with
  | cells as_ _ hl hp => cases k <;> first | rfl | exact os0_tok hl
  | arr => cases k <;> rfl

theorem osBs_tok {caps tips ctr} : ∀ {ks : List BK} {bs : List (BC U.D)} {cs : List (List AV)}, cs.length = bs.length → (∀ (j : Nat) b c, bs[j]? = some b → cs[j]? = some c → RB U caps tips ctr b c) → (osBs ks bs cs).map (fun o => (o.s, o.ver)) = (ks.zip bs).flatMap (fun p => ownB U p.1 p.2)
  | [], bs, cs, hl, h => by cases bs <;> rfl
  | k :: ks, [], cs, hl, h => rfl
  | k :: ks, b :: bs, [], hl, h => by simp at hl
  | k :: ks, b :: bs, c :: cs, hl, h => by
    simp only [osBs, List.map_append, List.zip_cons_cons, List.flatMap_cons, osB_tok (h 0 b c rfl rfl), osBs_tok (ks := ks) (bs := bs) (cs := cs) (by simpa using hl) fun j b c p q => h (j + 1) b c (by simpa using p) (by simpa using q)]

theorem zip_snd {α β γ δ : Type} (f : β → γ → List δ) : ∀ (l : List (α × β)) (m : List γ), (l.zip m).flatMap (fun p => f p.1.2 p.2) = ((l.map (·.2)).zip m).flatMap (fun p => f p.1 p.2)
  | [], m => by simp
  | x :: l, [] => by simp
  | x :: l, y :: m => by simp [zip_snd f l m]

theorem memN_iff {i : Nat} : ∀ {l : List Nat}, memN i l = true ↔ i ∈ l
  | [] => by simp [memN]
  | j :: r => by simp [memN, beqN, memN_iff (l := r)]

theorem lk_nodup {O : List OS} (h : nodupN (O.map (·.σ)) = true) : ∀ o ∈ O, lk o.σ (O.map fun o => (o.σ, o.tip)) = some o.tip := by
  induction O with
  | nil => intro o ho; cases ho
  | cons p O ih =>
    simp only [List.map_cons, nodupN, Bool.and_eq_true, Bool.not_eq_true'] at h
    intro o ho
    simp only [List.map_cons, lk]
    rcases List.mem_cons.1 ho with rfl | ho
    · simp
    · have : o.σ ≠ p.σ := by
        intro e
        have : memN p.σ (O.map (·.σ)) = true := memN_iff.2 (by rw [← e]; exact List.mem_map_of_mem ho)
        rw [this] at h; cases h.1
      rw [if_neg this]
      exact ih h.2 o ho

theorem lk_mem {α : Type} {k : Nat} {x : α} : ∀ {l : List (Nat × α)}, lk k l = some x → (k, x) ∈ l
  | [], h => by cases h
  | (j, y) :: r, h => by
    simp only [lk] at h
    split at h
    · rename_i e; injection h with h; subst h; subst e; simp
    · exact List.mem_cons_of_mem _ (lk_mem h)

theorem distinct_inj {O : List OS} (h : distinctT (O.map fun o => (o.s, o.ver)) = true) : ∀ o ∈ O, ∀ o' ∈ O, o.s = o'.s → o.s ≠ 0 → o = o' := by
  induction O with
  | nil => intro o ho; cases ho
  | cons p O ih =>
    simp only [List.map_cons, distinctT, Bool.and_eq_true, Bool.or_eq_true, beqN, List.all_eq_true, Bool.not_eq_true'] at h
    obtain ⟨h1, h2⟩ := h
    intro o ho o' ho' he hz
    have out : ∀ q ∈ O, p.s ≠ 0 → q.s = p.s → False := by
      intro q hq hp e
      rcases h1 with h1 | h1
      · exact hp h1
      · have := h1 _ (List.mem_map_of_mem hq)
        simp only at this
        rw [beqN_false] at this
        exact this e
    rcases List.mem_cons.1 ho with h3 | h3
    · rcases List.mem_cons.1 ho' with h4 | h4
      · rw [h3, h4]
      · exact (out o' h4 (by rw [← h3]; exact hz) (by rw [← he, h3])).elim
    · rcases List.mem_cons.1 ho' with h4 | h4
      · exact (out o h3 (by rw [← h4, ← he]; exact hz) (by rw [he, h4])).elim
      · exact ih h2 o h3 o' h4 he hz

theorem nthM_ok (hR : Rel U s st) (t : Nat) : RA U s.caps st.tips s.ctr (nthM s.tmps t) (st.tmps.getD t .bot) := by
  have e : ∀ (l : List (TM U.D)) t, nthM l t = nthG [] l t := by
    intro l
    induction l with
    | nil => intro t; cases t <;> rfl
    | cons x r ih => intro t; cases t <;> simp only [nthM, nthG] <;> first | exact ih _ | (cases x <;> simp)
  rw [e]
  exact nthG_ok hR (by simp) t

theorem lksT_ok (hR : Rel U s st) : ∀ (ts : List (Nat × Kd)), (ts.map fun p => st.tmps.getD p.1 .bot).length = (lksT U s.tmps ts).length ∧ ∀ (i : Nat) c y, (lksT U s.tmps ts)[i]? = some c → (ts.map fun p => st.tmps.getD p.1 .bot)[i]? = some y → RA U s.caps st.tips s.ctr c y
  | [] => ⟨rfl, by simp [lksT]⟩
  | p :: ts => by
    obtain ⟨h1, h2⟩ := lksT_ok hR ts
    refine ⟨by simp [lksT, ← h1], ?_⟩
    intro i c y q1 q2
    cases i with
    | zero => simp [lksT] at q1 q2; subst q1; subst q2; exact nthM_ok hR p.1
    | succ i => exact h2 i c y (by simpa [lksT] using q1) (by simpa using q2)

theorem lksBx_ok (hR : Rel U s st) : ∀ {bl : List (Nat × BK)} {bs : List (BC U.D)}, lksBx U s.boxes bl = some bs → ∃ cs : List (List AV), bl.map (fun p => lk p.1 st.boxes) = cs.map some ∧ cs.length = bs.length ∧
    ∀ (j : Nat) b c, bs[j]? = some b → cs[j]? = some c → RB U s.caps st.tips s.ctr b c
  | [], bs, h => by
    simp only [lksBx, Option.some.injEq] at h; subst h
    exact ⟨[], rfl, rfl, by simp⟩
  | p :: bl, bs, h => by
    simp only [lksBx] at h
    split at h
    · rename_i x l h1 h2
      injection h with h; subst h
      rw [lkT_eq] at h1
      obtain ⟨cs, g1, g2⟩ := hR.boxes p.1 x h1
      obtain ⟨css, e1, e2, e3⟩ := lksBx_ok hR h2
      refine ⟨cs :: css, by simp [g1, e1], by simp [e2], ?_⟩
      intro j b c q1 q2
      cases j with
      | zero => simp at q1 q2; subst q1; subst q2; exact g2
      | succ j => exact e3 j b c (by simpa using q1) (by simpa using q2)
    · cases h

theorem lk_zip {α β : Type} {Q : α → β → Prop} {i : Nat} : ∀ {ks : List Nat} {as_ : List α} {ys : List β}, ys.length = as_.length → (∀ (j : Nat) a y, as_[j]? = some a → ys[j]? = some y → Q a y) → ∀ {y}, lk i (ks.zip ys) = some y → ∃ (j : Nat) (a : α), ks[j]? = some i ∧ as_[j]? = some a ∧ ys[j]? = some y ∧ Q a y ∧ lk i (ks.zip as_) = some a
  | [], as_, ys, hl, h, y, hy => by simp [lk] at hy
  | k :: ks, [], ys, hl, h, y, hy => by
    obtain rfl : ys = [] := List.eq_nil_of_length_eq_zero (by simpa using hl)
    simp [lk] at hy
  | k :: ks, a :: as_, [], hl, h, y, hy => by simp at hl
  | k :: ks, a :: as_, z :: ys, hl, h, y, hy => by
    simp only [List.zip_cons_cons, lk] at hy ⊢
    split at hy
    · rename_i e
      injection hy with hy; subst hy; subst e
      exact ⟨0, a, rfl, rfl, rfl, h 0 a z rfl rfl, by simp⟩
    · rename_i e
      obtain ⟨j, a', h1, h2, h3, h4, h5⟩ := lk_zip (as_ := as_) (ys := ys) (by simpa using hl) (fun j a y p q => h (j + 1) a y (by simpa using p) (by simpa using q)) hy
      exact ⟨j + 1, a', by simpa using h1, by simpa using h2, by simpa using h3, h4, by rw [if_neg e]; exact h5⟩

theorem lk_zip_some {α : Type} {i : Nat} : ∀ {ks : List Nat} {as_ : List α}, as_.length = ks.length → i ∈ ks → (lk i (ks.zip as_)).isSome = true
  | [], _, _, h => by cases h
  | k :: ks, [], hl, h => by simp at hl
  | k :: ks, a :: as_, hl, h => by
    simp only [List.zip_cons_cons, lk]
    split
    · rfl
    · rename_i e
      rcases List.mem_cons.1 h with h | h
      · exact absurd h e
      · exact lk_zip_some (by simpa using hl) h

theorem zipK_eq : ∀ (ps : List (Nat × Kd)) (as_ : List (TA U.D)), zipK U ps as_ = (ps.map (·.1)).zip as_
  | [], _ => by simp [zipK]
  | p :: ps, [] => by simp [zipK]
  | p :: ps, a :: as_ => by simp [zipK, zipK_eq ps as_]
theorem zipB_eq : ∀ (ps : List (Nat × BK)) (as_ : List (BC U.D)), zipB U ps as_ = (ps.map (·.1)).zip as_
  | [], _ => by simp [zipB]
  | p :: ps, [] => by simp [zipB]
  | p :: ps, a :: as_ => by simp [zipB, zipB_eq ps as_]

theorem encs_len : ∀ {ks : List Kd} (z : dens U ks), (encs U ks z).length = ks.length
  | [], _ => rfl
  | k :: ks, (z, r) => by simp [encs, encs_len r]
theorem encsB_len : ∀ {ks : List BK} (z : densB U ks), (encsB U ks z).length = ks.length
  | [], _ => rfl
  | k :: ks, (z, r) => by simp [encsB, encsB_len r]

variable {X : List Nat} {M0 : Mem} {w0 : World} {M : Mem} {ρ : Nat → Option Nat} {a : Act} {w : World}

theorem head_ok (hU : U.Ok) {sp : LSpec} {v : sp.V U} {nt : Nat} (hI : Inv X M0 w0 M ρ st a w) (hR : Rel U s st) (hsp : spB sp = true) (h : decS U nt sp s = some v) :
    ∃ ρ' st2, Inv X M0 w0 M ρ' st2 a w ∧ Rel U (stOf U nt sp v) st2 := by
  unfold decS at h
  simp only at h
  split at h
  · rename_i bs hnt hbs
    rw [beqN] at hnt
    split at h
    · rename_i va vb hchk hda hdb
      injection h with h; subst h
      simp only [Bool.and_eq_true] at hchk
      obtain ⟨⟨hd, htok⟩, hbx⟩ := hchk
      obtain ⟨cs, c1, c2, c3⟩ := lksBx_ok hR hbs
      obtain ⟨y1, y2⟩ := lksT_ok hR sp.ts
      unfold spB at hsp
      simp only [Bool.and_eq_true] at hsp
      obtain ⟨⟨⟨s1, s2⟩, s3⟩, s4⟩ := hsp
      have hno : (sp.ts.map (·.2)).all noOwnKd = true := by
        rw [List.all_eq_true] at s3 ⊢
        intro k hk
        obtain ⟨p, hp, rfl⟩ := List.mem_map.1 hk
        exact s3 p hp
      obtain ⟨O, hO⟩ : ∃ O, O = osT (sp.ts.map (·.2)) (lksT U s.tmps sp.ts) (sp.ts.map fun p => st.tmps.getD p.1 .bot) ++ osBs (sp.bs.map (·.2)) bs cs := ⟨_, rfl⟩
      have htoks : O.map (fun o => (o.s, o.ver)) = (sp.ts.zip (lksT U s.tmps sp.ts)).flatMap (fun p => ownKd U p.1.2 p.2) ++ (sp.bs.zip bs).flatMap (fun p => ownB U p.1.2 p.2) := by
        rw [hO, List.map_append, osT_tok y1, osBs_tok c2 c3, zip_snd (fun k a => ownKd U k a), zip_snd (fun k b => ownB U k b)]
      rw [← htoks] at hd htok
      have htk : ∀ o ∈ O, tokOK o.s o.ver s.caps = true := by
        rw [List.all_eq_true] at htok
        intro o ho
        exact htok _ (List.mem_map_of_mem ho)
      obtain ⟨t1, t2, t3, t4, _, t6⟩ := slotsT_ok hU hno hda y1 y2 fun o ho => htk o (by rw [hO]; exact List.mem_append_left _ ho)
      obtain ⟨b1, b2, b3, b4, _, b6⟩ := slotsB_ok hU hdb c2 c3 fun o ho => htk o (by rw [hO]; exact List.mem_append_right _ ho)
      have hσ : O.map (·.σ) = sitesL sp := by
        rw [hO, List.map_append, t6, b6]
        unfold sitesL
        congr 1
        · rw [List.flatMap_map]
        · rw [List.flatMap_map]
      have hlk := lk_nodup (O := O) (by rw [hσ]; exact s1)
      have hpos : ∀ o ∈ O, o.σ ≠ 0 := by
        intro o ho
        rw [List.all_eq_true] at s2
        have := s2 o.σ (by rw [← hσ]; exact List.mem_map_of_mem ho)
        rw [Nat.ble_eq] at this
        omega
      have hmark : ∀ o ∈ O, lk o.σ (O.map fun o => (o.σ, o.tip)) = some o.tip ∧ o.σ ≠ 0 := fun o ho => ⟨hlk o ho, hpos o ho⟩
      have hkeys : ∀ i, i ∈ (sp.ts.map (·.2)).flatMap idsKd ∨ i ∈ (sp.bs.map (·.2)).flatMap idsBK → i ∈ sp.bs.map (·.1) := by
        intro i hi
        rw [List.all_eq_true] at s4
        refine memN_iff.1 (s4 i ?_)
        rw [List.mem_append]
        rw [List.flatMap_map, List.flatMap_map] at hi
        exact hi
      have hblen : (avsB U (sp.bs.map (·.2)) vb cs).length = (sp.bs.map (·.1)).length := by
        have := congrArg List.length c1
        simp only [List.length_map] at this
        rw [b1.1, List.length_map]; omega
      obtain ⟨q1, q2⟩ := t4 ((sitesL sp).map (fun s => (s, 0))) (O.map fun o => (o.σ, o.tip)) fun o ho => hmark o (by rw [hO]; exact List.mem_append_left _ ho)
      obtain ⟨q3, q4⟩ := b4 ((sitesL sp).map (fun s => (s, 0))) (O.map fun o => (o.σ, o.tip)) fun o ho => hmark o (by rw [hO]; exact List.mem_append_right _ ho)
      have key : ∃ ρ', Ax.Inv X M0 w0 M ρ' (St.mk ((List.range nt).map (fun t => (lk t ((sp.ts.map (·.1)).zip (avsK U (sp.ts.map (·.2)) va (sp.ts.map fun p => st.tmps.getD p.1 .bot)))).getD .bot)) ((sp.bs.map (·.1)).zip (avsB U (sp.bs.map (·.2)) vb cs)) (O.map fun o => (o.σ, o.tip)) st.U) a w := by
        refine Inv.weak2 hI (by simp [← hnt, hR.len]) ?_ ?_ ?_ ?_ (fun σ t => ∃ o ∈ O, o.σ = σ ∧ o.s = t ∧ t ≠ 0) ?_ ?_ (fun _ h => h) ?_
        · -- temporaries say less
          intro t y2 hy2
          rw [List.getElem?_map, Option.map_eq_some_iff] at hy2
          obtain ⟨t', ht', rfl⟩ := hy2
          have hlt := (List.getElem?_eq_some_iff.1 ht').1
          rw [List.length_range] at hlt
          rw [List.getElem?_range hlt] at ht'
          injection ht' with ht'; subst ht'
          have htlt : t < st.tmps.length := by rw [hR.len, hnt]; exact hlt
          refine ⟨st.tmps[t], List.getElem?_eq_getElem htlt, ?_⟩
          cases hl : lk t ((sp.ts.map (·.1)).zip (avsK U (sp.ts.map (·.2)) va (sp.ts.map fun p => st.tmps.getD p.1 .bot))) with
          | none => exact fun _ _ _ _ => .bot _
          | some z =>
            obtain ⟨j, y, e1, e2, e3, e4, e5⟩ := lk_zip (Q := fun y z => Wk y z) (as_ := sp.ts.map fun p => st.tmps.getD p.1 .bot) (ys := avsK U (sp.ts.map (·.2)) va (sp.ts.map fun p => st.tmps.getD p.1 .bot)) t1.1.symm (fun j a y h1 h2 => t1.2 j y a h2 h1) hl
            have : y = st.tmps[t] := by
              rw [List.getElem?_map, Option.map_eq_some_iff] at e1 e2
              obtain ⟨p, hp, rfl⟩ := e1
              obtain ⟨p', hp', rfl⟩ := e2
              rw [hp] at hp'; injection hp' with hp'; subst hp'
              rw [List.getD_eq_getElem?_getD, List.getElem?_eq_getElem htlt]; rfl
            rw [← this]
            exact e4
        · intro y2 hy2 i hi
          rw [List.mem_map] at hy2
          obtain ⟨t, _, rfl⟩ := hy2
          cases hl : lk t ((sp.ts.map (·.1)).zip (avsK U (sp.ts.map (·.2)) va (sp.ts.map fun p => st.tmps.getD p.1 .bot))) with
          | none => rw [hl] at hi; simp [AV.ids] at hi
          | some z =>
            rw [hl] at hi
            refine lk_zip_some hblen (hkeys i (.inl ?_))
            exact t2 z (by
              have := lk_mem hl
              exact (List.of_mem_zip this).2) i hi
        · intro i cs2 hi
          obtain ⟨j, c, e1, e2, e3, e4, e5⟩ := lk_zip (Q := fun c c2 => PtW c c2) (as_ := cs) (ys := avsB U (sp.bs.map (·.2)) vb cs) b1.1 (fun j a y h1 h2 => b1.2 j a y h1 h2) hi
          refine ⟨c, ?_, e4⟩
          have := congrArg (fun l => l[j]?) c1
          simp only [List.getElem?_map, e2, Option.map_some] at this
          rw [List.getElem?_map, Option.map_eq_some_iff] at e1
          obtain ⟨p, hp, rfl⟩ := e1
          rw [hp] at this
          simpa using this
        · intro i cs2 hi x hx j hj
          refine lk_zip_some hblen (hkeys j (.inr ?_))
          exact b2 cs2 (List.of_mem_zip (lk_mem hi)).2 x hx j hj
        · rintro σ σ' t ⟨o, ho, rfl, rfl, hz⟩ ⟨o', ho', rfl, he, _⟩
          rw [distinct_inj hd o ho o' ho' he.symm hz]
        · intro σ b off hw hl
          have := lk_mem hl
          rw [List.mem_map] at this
          obtain ⟨o, ho, he⟩ := this
          simp only [Prod.mk.injEq] at he
          obtain ⟨rfl, he⟩ := he
          have : o.s ≠ 0 ∧ lk o.s st.tips = some (some (b, off), hw) := by
            rw [hO, List.mem_append] at ho
            rcases ho with ho | ho
            · exact t3 o ho b off hw he
            · exact b3 o ho b off hw he
          exact ⟨o.s, ⟨o, ho, rfl, rfl, this.1⟩, this.2⟩
        · intro i hi hsome
          refine lk_zip_some hblen ?_
          cases hl : lk i s.boxes with
          | none => rw [hR.dom i hl] at hsome; cases hsome
          | some bc =>
            have := lk_mem hl
            rw [List.all_eq_true] at hbx
            have := hbx _ this
            simp only [Bool.or_eq_true] at this
            rcases this with h | h
            · exfalso
              simp only [Nat.blt, Nat.ble_eq] at h
              omega
            · exact memN_iff.1 h
      obtain ⟨ρ', hI'⟩ := key
      refine ⟨ρ', _, hI', ?_⟩
      refine { len := by simp [stOf, mkM], tmps := ?_, boxes := ?_, dom := ?_, caps := ?_, ctr := Nat.one_pos }
      · intro i x y hx hy
        simp only [stOf, mkM, List.getElem?_map, Option.map_eq_some_iff] at hx
        obtain ⟨i', hi', rfl⟩ := hx
        have hy : ((List.range nt).map fun t => (lk t ((sp.ts.map (·.1)).zip (avsK U (sp.ts.map (·.2)) va (sp.ts.map fun p => st.tmps.getD p.1 .bot)))).getD .bot)[i]? = some y := hy
        rw [List.getElem?_map, hi'] at hy
        injection hy with hy; subst hy
        rw [lkT_eq, zipK_eq]
        cases hl : lk i' ((sp.ts.map (·.1)).zip (encs U (sp.ts.map (·.2)) va)) with
        | none => exact .p _ _ (.bot _)
        | some c =>
          obtain ⟨j, y, e1, e2, e3, e4, e5⟩ := lk_zip (Q := fun y c => RA U ((sitesL sp).map (fun s => (s, 0))) (O.map fun o => (o.σ, o.tip)) 1 c y) (as_ := avsK U (sp.ts.map (·.2)) va (sp.ts.map fun p => st.tmps.getD p.1 .bot)) (ys := encs U (sp.ts.map (·.2)) va) q1.symm (fun j a y h1 h2 => q2 j y a h2 h1) hl
          simp only [e5]
          exact .p _ _ e4
      · intro i bc hi
        have hi : lk i (zipB U sp.bs (encsB U (sp.bs.map (·.2)) vb)) = some bc := hi
        rw [zipB_eq] at hi
        obtain ⟨j, c, e1, e2, e3, e4, e5⟩ := lk_zip (Q := fun c b => RB U ((sitesL sp).map (fun s => (s, 0))) (O.map fun o => (o.σ, o.tip)) 1 b c) (as_ := avsB U (sp.bs.map (·.2)) vb cs) q3.symm (fun j a y h1 h2 => q4 j y a h2 h1) hi
        exact ⟨c, e5, e4⟩
      · intro i hi
        have hi : lk i (zipB U sp.bs (encsB U (sp.bs.map (·.2)) vb)) = none := hi
        rw [zipB_eq] at hi
        show lk i ((sp.bs.map (·.1)).zip (avsB U (sp.bs.map (·.2)) vb cs)) = none
        cases hl : lk i ((sp.bs.map (·.1)).zip (avsB U (sp.bs.map (·.2)) vb cs)) with
        | none => rfl
        | some c =>
          obtain ⟨j, b, e1, e2, e3, e4, e5⟩ := lk_zip (Q := fun _ _ => True) (as_ := encsB U (sp.bs.map (·.2)) vb) (ys := avsB U (sp.bs.map (·.2)) vb cs) q3 (fun _ _ _ _ _ => trivial) hl
          rw [hi] at e5; cases e5
      · intro i ver hi
        have := lk_mem hi
        simp only [stOf, List.mem_map, Prod.mk.injEq] at this
        obtain ⟨x, _, _, rfl⟩ := this
        exact Nat.one_pos
    · cases h
  · cases h

end
end Go.Tx
