/- Typed execution, part 13: functions' contracts. -/
import Derived.Test.YtbbncbojkkackaaTxL
import Derived.Test.YtbbncbojkkackaaAxBr
set_option linter.unusedVariables false
set_option linter.unusedSimpArgs false
namespace Go.Tx
open Go.Ax

section
variable {P : Program} {tab : Tab}

/-- A contract, out of what the body does. -/
theorem AC.introS {f : FuncId} {fn : Func} {c : Code} {args : List AV} {exts : List (List AV)} {Q : PV → List (List AV) → Prop} (hf : P.funcs[f]? = some fn) (hb : fn.body = some c) (hname : (fn.name == "runtime.NumGoroutine") = false)
    (h : ∀ (M : Mem) (X : List Nat) (w : World) (a : Act), X.Nodup → X.length = exts.length →
      Inv X M w M (extρ X) { tmps := args ++ List.replicate (fn.ntmps - args.length) .bot, boxes := (exts.zipIdx 1000).map (fun p => (p.2, p.1)), tips := [], U := fun _ => False } a w →
      c.wp P (fun e a w' => bodyPost P fn (fun e w' => ∃ v M' r exts', Post P M X w Q e w' v M' r exts') e a w') a w) : AC P f args exts Q := by
  refine ⟨⟨fn, hf, by rw [hb]; rfl, hname⟩, ?_⟩
  intro M X w vs hA hE hl hargs
  refine calls_of_wp hf hb ?_
  have hXlt : ∀ b ∈ X, b < w.heap.size := by
    intro b hbX
    obtain ⟨j, hj, rfl⟩ := List.getElem_of_mem hbX
    exact (hE.box j (exts[j]'(by rw [← hE.len]; exact hj)) X[j] (List.getElem?_eq_getElem _) (List.getElem?_eq_getElem hj)).lt
  have hlk : ∀ (l : List (List AV)) (k i : Nat) cs, lk i ((l.zipIdx k).map (fun p => (p.2, p.1))) = some cs → k ≤ i ∧ l[i - k]? = some cs := by
    intro l
    induction l with
    | nil => intro k i cs h; simp [lk] at h
    | cons x l ih =>
      intro k i cs h
      simp only [List.zipIdx_cons, List.map_cons, lk] at h
      split at h
      · rename_i e
        injection h with h; subst h
        exact ⟨by omega, by simp [e]⟩
      · obtain ⟨h1, h2⟩ := ih (k + 1) i cs h
        exact ⟨by omega, by rw [show i - k = (i - (k + 1)) + 1 by omega]; simpa using h2⟩
  have hlk2 : ∀ (l : List (List AV)) (k i : Nat), k ≤ i → i - k < l.length → (lk i ((l.zipIdx k).map (fun p => (p.2, p.1)))).isSome = true := by
    intro l
    induction l with
    | nil => intro k i _ h; simp at h
    | cons x l ih =>
      intro k i h1 h2
      simp only [List.zipIdx_cons, List.map_cons, lk]
      split
      · rfl
      · exact ih (k + 1) i (by omega) (by simp at h2; omega)
  refine h M X w _ hE.nodup hE.len ?_
  refine { defers := rfl, len := by simp [hl], tmps := ?_, os := rfl, tape := rfl, output := rfl, size := Nat.le_refl _, frame := fun _ _ _ => rfl, agree := hA, boxes := ?_, dom := ?_, inj := ?_, tips := by simp [lk], tipinj := by simp [lk], U := fun b hb => hb.elim, le := Mem.Le.refl _, old := fun _ _ => ⟨rfl, rfl⟩, ext := ?_, extlt := hXlt }
  · intro t x hx
    by_cases ht : t < args.length
    · rw [List.getElem?_append_left ht] at hx
      have e1 : (vs ++ Array.replicate (fn.ntmps - vs.size) undef).getD t undef = vs.getD t undef := by
        simp [Array.getD_eq_getD_getElem?, Array.getElem?_append_left (show t < vs.size by omega)]
      rw [e1]; exact hargs t x hx
    · rw [List.getElem?_append_right (by omega)] at hx
      have := List.mem_of_getElem? hx
      rw [List.mem_replicate] at this
      rw [this.2]; exact .bot _
  · intro i cs hi
    obtain ⟨h1, h2⟩ := hlk exts 1000 i cs hi
    have hlt : i - 1000 < X.length := by rw [hE.len]; exact (List.getElem?_eq_some_iff.1 h2).1
    refine ⟨X[i - 1000], ?_, hE.box (i - 1000) cs _ h2 (List.getElem?_eq_getElem hlt), .inr (List.getElem_mem hlt)⟩
    unfold extρ
    rw [if_neg (by omega)]
    exact List.getElem?_eq_getElem hlt
  · intro i b hi
    unfold extρ at hi
    split at hi
    · cases hi
    · have hlt := (List.getElem?_eq_some_iff.1 hi).1
      exact hlk2 exts 1000 i (by omega) (by rw [← hE.len]; exact hlt)
  · intro i j b hi hj
    unfold extρ at hi hj
    split at hi
    · cases hi
    · split at hj
      · cases hj
      · have := (List.getElem?_inj (List.getElem?_eq_some_iff.1 hi).1 hE.nodup).1 (hi.trans hj.symm)
        omega
  · intro j b hb
    unfold extρ
    rw [if_neg (by omega)]
    rwa [show 1000 + j - 1000 = j by omega]

/-- What is said of boxes at the end may be said with less. -/
theorem AC.weakPost {f : FuncId} {args : List AV} {exts : List (List AV)} {Q Q' : PV → List (List AV) → Prop} (h : AC P f args exts Q)
    (hq : ∀ r xs, Q r xs → ∃ xs', Q' r xs' ∧ xs'.length = xs.length ∧ ∀ (j : Nat) cs cs', xs[j]? = some cs → xs'[j]? = some cs' → PtW cs cs') : AC P f args exts Q' := by
  refine ⟨h.1, fun M X w vs a b c d => (h.2 M X w vs a b c d).mono ?_⟩
  rintro e w' ⟨v, M', r, xs, p⟩
  obtain ⟨xs', h1, h2, h3⟩ := hq _ _ p.q
  refine ⟨v, M', r, xs', { p with q := h1, ext := ?_ }⟩
  refine ⟨by rw [p.ext.len, h2], p.ext.nodup, ?_⟩
  intro j cs' b hj hb
  have hj' := (List.getElem?_eq_some_iff.1 hj).1
  have h4 : xs[j]? = some (xs[j]'(by omega)) := List.getElem?_eq_getElem _
  have hp := h3 j _ cs' h4 hj
  obtain ⟨⟨vs', T, g1, g2, g3⟩, g4, g5⟩ := p.ext.box j _ b h4 hb
  refine ⟨⟨vs', T, g1, by rw [g2, hp.1], ?_⟩, g4, g5⟩
  intro i c hc
  have hi := (List.getElem?_eq_some_iff.1 hc).1
  have h5 : (xs[j]'(by omega))[i]? = some ((xs[j]'(by omega))[i]'(by rw [hp.1]; exact hi)) := List.getElem?_eq_getElem _
  obtain ⟨g6, g7⟩ := g3 i _ h5
  exact ⟨hp.2 i c _ hc h5 _ _ _ g6, g7⟩

end

section
variable {U : Uni} {P : Program} {tab : Tab} {s : TS U.D} {st : St}

theorem tres_ok {R : Type} {E : Env U R} (hT : TTOK U tab E.tt) (hR : Rel U s st) {rv : ResultVar} {a : TA U.D} (h : tres U E s rv = some a) (ha : a ≠ .bot) : ∃ y, resA tab st rv = some y ∧ RA U s.caps st.tips s.ctr a y := by
  cases rv with
  | tmp t =>
    simp only [tres, Option.some.injEq] at h
    subst h
    have h1 := nthM_ok hR t
    simp only [resA]
    cases hq : st.tmps[t]? with
    | some y => refine ⟨y, rfl, ?_⟩; rw [List.getD_eq_getElem?_getD, hq] at h1; exact h1
    | none =>
      exfalso
      have hlen : s.tmps.length ≤ t := by rw [← hR.len]; exact List.getElem?_eq_none_iff.1 hq
      have : ∀ (l : List (TM U.D)) (t : Nat), l.length ≤ t → nthM l t = .bot := by
        intro l
        induction l with
        | nil => intro t _; cases t <;> rfl
        | cons x r ih => intro t ht; cases t with
          | zero => simp at ht
          | succ t => exact ih t (by simpa using ht)
      exact ha (this _ _ hlen)
  | cell p t =>
    simp only [tres] at h
    split at h
    · rename_i i hi
      have h1 := nthM_ok hR p
      have hp : nthM s.tmps p ≠ .bot := by intro e; rw [e] at h; simp [tload] at h
      obtain ⟨j, y, g1, g2, g3⟩ := tload_ok hR hT hi h1 h
      refine ⟨y, ?_, g3⟩
      simp only [resA, g1]
      cases hq : st.tmps[p]? with
      | some z =>
        rw [List.getD_eq_getElem?_getD, hq] at g2
        exact g2
      | none =>
        rw [List.getD_eq_getElem?_getD, hq] at g2
        simp [loadA] at g2
    · cases h

theorem chunk_erase (hU : U.Ok) {c : Nat} (hsz : 0 < U.sz c) : ∀ {es : List PV} {xs : List (U.D c)}, PV.eraseL es = xs.map (U.pv c) → PV.eraseL (chunk (U.sz c) es.length (es.flatMap PV.cells)) = xs.map (U.pv c)
  | [], xs, h => by
    simp only [PV.eraseL] at h
    simp only [List.length_nil, chunk, PV.eraseL]
    exact h
  | e :: es, [], h => by simp [PV.eraseL] at h
  | e :: es, x :: xs, h => by
    simp only [PV.eraseL, List.map_cons, List.cons.injEq] at h
    obtain ⟨h1, h2⟩ := h
    have hl : e.cells.length = U.sz c := by rw [← hU.sz c x, ← h1, PV.cells_erase, List.length_map]
    simp only [List.length_cons, chunk, List.flatMap_cons, PV.eraseL, List.map_cons]
    have hd : (e.cells ++ es.flatMap PV.cells).drop (U.sz c) = es.flatMap PV.cells := by rw [← hl, List.drop_left]
    have ht : (e.cells ++ es.flatMap PV.cells).take (U.sz c) = e.cells := by rw [← hl, List.take_left]
    rw [hd, chunk_erase hU hsz h2]
    congr 1
    by_cases h3 : U.sz c = 1
    · rw [if_pos h3]
      have hst : U.st c = false := by
        cases hb : U.st c with
        | false => rfl
        | true => exact absurd h3 ((hU.stsz c).1 hb)
      rw [h3] at hl
      match hcs : e.cells, hl with
      | [z], _ =>
        simp only [List.cons_append, List.headD_cons]
        have := hU.st0 c x hst
        rw [← h1, PV.cells_erase, hcs] at this
        simp only [List.map_cons, List.map_nil, List.cons.injEq, and_true] at this
        rw [this, h1]
    · rw [if_neg h3, ht]
      have hst : U.st c = true := (hU.stsz c).2 h3
      simp only [PV.erase, PV.eraseL_eq]
      rw [← PV.cells_erase, h1, ← hU.st1 c x hst]

theorem tresL_ok (hU : U.Ok) {R : Type} {E : Env U R} (hT : TTOK U tab E.tt) (hR : Rel U s st) : ∀ {rvs : List ResultVar} {as_ : List (TA U.D)} {ks : List K0} {z : dens0 U ks}, tresL U E s rvs = some as_ → decs0 U ks as_ = some z → ks.all cleanK = true →
    ∃ ps, (Option.bind (rvs.mapM (resA tab st)) allPV) = some ps ∧ PV.eraseL ps = TV.pvL U ((encs0 U ks z).map vOf)
  | [], as_, ks, z, h, hd, hk => by
    simp only [tresL, Option.some.injEq] at h; subst h
    cases ks with
    | nil => exact ⟨[], rfl, rfl⟩
    | cons k ks => simp [decs0] at hd
  | rv :: rvs, as_, ks, z, h, hd, hk => by
    simp only [tresL] at h
    split at h
    · rename_i a l h1 h2
      injection h with h; subst h
      cases ks with
      | nil => simp [decs0] at hd
      | cons k ks =>
        simp only [List.all_cons, Bool.and_eq_true] at hk
        simp only [decs0] at hd
        split at hd
        · rename_i x r g1 g2
          injection hd with hd; subst hd
          obtain ⟨v, rfl⟩ := dec0_ids hk.1 g1
          obtain ⟨y, q1, q2⟩ := tres_ok hT hR h1 (by intro e; cases e)
          obtain ⟨p, rfl, hp⟩ := q2.v_
          obtain ⟨ps, q3, q4⟩ := tresL_ok hU hT hR h2 g2 hk.2
          rw [Option.bind_eq_some_iff] at q3
          obtain ⟨ys, q5, q6⟩ := q3
          refine ⟨p :: ps, ?_, ?_⟩
          · rw [List.mapM_cons]
            simp only [q1, q5, Option.bind_eq_bind, Option.bind_some, Option.pure_def]
            simp only [allPV, q6, Option.map_some]
          · simp only [PV.eraseL, encs0, List.map_cons, TV.pvL, q4, hp.erase]
            congr 1
            obtain ⟨x', e1, e2⟩ := dec0_pv hU g1
            rw [e1]; exact e2.symm
        · cases hd
    · cases h

theorem finR_ok (hU : U.Ok) {R : Type} {rs : List K0} {E' : Env U R} (hT : TTOK U tab E'.tt) (hR : Rel U s st) {fn : Func} {r : denR U rs} (hk : rs.all cleanK = true) (h : finR U fn rs E' s = some r) (Q : PV → List (List AV) → Prop) (xs : List (List AV)) (hQ : Q (TV.pv U (encR U rs r)) xs) :
    match fn.results.toList with
      | [rv] => (match resA tab st rv with
        | some (.pv r) => finQ Q r xs st
        | some (.msl i sz len) => ∃ l, (Option.bind (lk i st.boxes) allPV) = some l ∧ l.length = len * sz ∧ i < 1000 ∧ 0 < sz ∧
            ∀ b, ¬ st.U b → ((∀ b' ∈ PV.blksL (chunk sz len l), st.U b') ∧ Q (.own 0 (some (b, 0)) sz (chunk sz len l)) xs) ∨ Q (PV.erase (.sl sz (chunk sz len l))) xs
        | _ => False)
      | rvs => bindK (Option.bind (rvs.mapM (resA tab st)) allPV) fun rs => finQ Q (.tup rs) xs st := by
  unfold finR at h
  generalize fn.results.toList = L at h ⊢
  have multi : ∀ L : List ResultVar, (∀ rv, L ≠ [rv]) → (match tresL U E' s L with
    | some as_ => match as_ with
      | [_] => none
      | _ => decR U rs as_
    | none => none) = some r → bindK (Option.bind (L.mapM (resA tab st)) allPV) fun rs => finQ Q (.tup rs) xs st := by
    intro L hne h
    split at h
    · rename_i as_ has
      split at h
      · cases h
      · rename_i hne2
        have main : ∀ (ks : List K0) (z : dens0 U ks), ks.all cleanK = true → decs0 U ks as_ = some z → Q (.tup (TV.pvL U ((encs0 U ks z).map vOf))) xs →
            bindK (Option.bind (L.mapM (resA tab st)) allPV) fun rs => finQ Q (.tup rs) xs st := by
          intro ks z hk hd hq
          obtain ⟨ps, g1, g2⟩ := tresL_ok hU hT hR has hd hk
          rw [g1]
          refine .inl ?_
          simp only [PV.erase, g2]
          exact hq
        match rs, r, hk, h, hQ with
        | [], r, hk, h, hQ =>
          cases as_ with
          | nil => exact main [] () rfl rfl hQ
          | cons a l => simp [decR] at h
        | [k], r, hk, h, hQ =>
          cases as_ with
          | nil => simp [decR] at h
          | cons a l => cases l with
            | nil => exact absurd rfl (hne2 a)
            | cons b l => simp [decR] at h
        | k :: l :: ks, r, hk, h, hQ => exact main (k :: l :: ks) r hk h hQ
    · cases h
  match L, h with
  | [rv], h =>
    simp only at h ⊢
    generalize htr : tres U E' s rv = o at h
    match rs, r, hk, h, hQ with
    | [], r, hk, h, hQ => simp at h
    | k :: l :: ks, r, hk, h, hQ => simp at h
    | [k], r, hk, h, hQ =>
      simp only [List.all_cons, List.all_nil, Bool.and_true] at hk
      have plain : ∀ a, o = some a → dec0 U k a = some r → ∃ p, resA tab st rv = some (.pv p) ∧ finQ Q p xs st := by
        intro a ho h
        rw [ho] at htr
        obtain ⟨v, rfl⟩ := dec0_ids hk h
        obtain ⟨y, q1, q2⟩ := tres_ok hT hR htr (by intro e; cases e)
        obtain ⟨p, rfl, hp⟩ := q2.v_
        refine ⟨p, q1, .inl ?_⟩
        obtain ⟨x', e1, e2⟩ := dec0_pv hU h
        have : TV.pv U (encR U [k] r) = p.erase := by
          show TV.pv U (vOf (enc0 U k r)) = _
          rw [e1, hp.erase]; exact e2
        rw [← this]
        exact hQ
      cases o with
      | none => simp at h
      | some a =>
        by_cases hm : ∃ i c n, a = .msl i c n
        · obtain ⟨i, c, n, rfl⟩ := hm
          obtain ⟨y, q1, q2⟩ := tres_ok hT hR htr (by intro e; cases e)
          cases q2 with
          | msl _ _ _ =>
            rw [q1]
            simp only at h ⊢
            unfold mslR at h
            rw [lkT_eq] at h
            split at h
            · rename_i c' xs' hbx
              split at h
              · rename_i xs2 hcast hb
                simp only [Bool.and_eq_true, Nat.ble_eq] at hb
                obtain ⟨e, rfl⟩ := castL_some hcast
                subst e
                cases hlen : Nat.beq xs'.length n.toNat with
                | false => simp only [hlen, cond_false] at h; cases h
                | true =>
                  simp only [hlen, cond_true] at h
                  rw [beqN] at hlen
                  obtain ⟨cs, g1, g2⟩ := hR.boxes i _ hbx
                  cases g2 with
                  | arr _ _ es hes =>
                    have hel := eraseL_len hes
                    simp only [List.length_map] at hel
                    refine ⟨es.flatMap PV.cells, by rw [g1]; exact allPV_map _, by rw [flat_len (elems_sz hU hes)]; congr 1; omega, by omega, by omega, fun b _ => .inr ?_⟩
                    have hch := chunk_erase hU (c := c') (by omega) hes
                    simp only [PV.erase]
                    rw [show n.toNat = es.length by omega, hch]
                    obtain ⟨x', e1, e2⟩ := dec0_pv hU h
                    have : TV.pv U (encR U [k] r) = .sl (U.sz c') (xs'.map (U.pv c')) := by
                      show TV.pv U (vOf (enc0 U k r)) = _
                      rw [e1]; exact e2
                    rw [← this]
                    exact hQ
              · cases h
            · cases h
        · have h2 : dec0 U k a = some r := by
            cases a <;> first | exact h | exact absurd ⟨_, _, _, rfl⟩ hm
          obtain ⟨p, h3, h4⟩ := plain a rfl h2
          rw [h3]
          exact h4
  | [], h => exact multi [] (by simp) h
  | a :: b :: l, h => exact multi (a :: b :: l) (by simp) h

/-- What kinds of arguments a contract may have. -/
def argK : Kd → Bool
  | .s k => noOwnK k
  | .fn _ ks => ks.all noOwnK

theorem encs_ra (hU : U.Ok) {caps2 : List (Nat × Nat)} {tips2 : Tips} : ∀ {ks : List Kd} (hk : ks.all argK = true) (x : dens U ks) (i : Nat) a y, (encs U ks x)[i]? = some a → ((encs U ks x).map (TA.av U))[i]? = some y → RA U caps2 tips2 1 a y
  | [], _, _, i, v, y, h1, _ => by simp [encs] at h1
  | k :: ks, hk, (x, r), i, v, y, h1, h2 => by
    simp only [List.all_cons, Bool.and_eq_true] at hk
    cases i with
    | zero =>
      simp [encs] at h1 h2; subst h1; subst h2
      cases k with
      | s k =>
        have hk := hk.1
        simp only [argK] at hk
        have := encs0_ra' (caps2 := caps2) (tips2 := tips2) hU (ks := [k]) (by simpa using hk) (x, ()) 0 (enc0 U k x) (TA.av U (enc0 U k x)) rfl rfl
        exact this
      | fn f cs =>
        have hk := hk.1
        simp only [argK] at hk
        simp only [encK, TA.av, avL_eq]
        exact .fn _ _ _ (List.length_map _) (encs0_ra' hU hk x)
    | succ i =>
      simp only [encs, List.map_cons, List.getElem?_cons_succ] at h1 h2
      exact encs_ra hU hk.2 r i v y h1 h2

theorem padM_at : ∀ (n : Nat) (l : List (TA U.D)), (padM U n l).length = n ∧ ∀ (i : Nat) x, (padM U n l)[i]? = some x → (∃ a, l[i]? = some a ∧ x = .p a) ∨ x = .p .bot
  | 0, [] => by simp [padM]
  | n + 1, [] => by
    obtain ⟨h1, h2⟩ := padM_at n []
    refine ⟨by simp [padM, h1], ?_⟩
    intro i x h
    cases i with
    | zero => simp [padM] at h; exact .inr h.symm
    | succ i =>
      simp only [padM, List.getElem?_cons_succ] at h
      rcases h2 i x h with ⟨a, h3, _⟩ | h3
      · simp at h3
      · exact .inr h3
  | 0, a :: r => by simp [padM]
  | n + 1, a :: r => by
    obtain ⟨h1, h2⟩ := padM_at n r
    refine ⟨by simp [padM, h1], ?_⟩
    intro i x h
    cases i with
    | zero => simp [padM] at h; exact .inl ⟨a, rfl, h.symm⟩
    | succ i =>
      simp only [padM, List.getElem?_cons_succ] at h
      rcases h2 i x h with ⟨a, h3, h4⟩ | h3
      · exact .inl ⟨a, by simpa using h3, h4⟩
      · exact .inr h3

theorem zipX_lk : ∀ (bs : List (BC U.D)) (k i : Nat), lk i (zipX U k bs) = if 1000 + k ≤ i then bs[i - (1000 + k)]? else none
  | [], k, i => by simp [zipX, lk]
  | b :: bs, k, i => by
    simp only [zipX, lk]
    by_cases h : i = 1000 + k
    · subst h; simp
    · rw [if_neg h, zipX_lk bs (k + 1) i]
      by_cases h2 : 1000 + k ≤ i
      · rw [if_pos h2, if_pos (by omega), show i - (1000 + k) = (i - (1000 + (k + 1))) + 1 by omega]
        simp
      · rw [if_neg h2, if_neg (by omega)]

theorem zipIdx_lk {α : Type} : ∀ (l : List α) (k i : Nat), lk i ((l.zipIdx k).map (fun p => (p.2, p.1))) = if k ≤ i then l[i - k]? else none
  | [], k, i => by simp [lk]
  | b :: bs, k, i => by
    simp only [List.zipIdx_cons, List.map_cons, lk]
    by_cases h : i = k
    · subst h; simp
    · rw [if_neg h, zipIdx_lk bs (k + 1) i]
      by_cases h2 : k ≤ i
      · rw [if_pos h2, if_pos (by omega), show i - k = (i - (k + 1)) + 1 by omega]
        simp
      · rw [if_neg h2, if_neg (by omega)]

theorem st0_rel (hU : U.Ok) {fn : Func} {ps : List Kd} {xs : List BK} (hps : ps.all argK = true) (hxs : xs.all cleanB = true) (hn : ps.length ≤ fn.ntmps) (a : dens U ps) (x : densB U xs) :
    Rel U (st0 U fn (encs U ps a) (encsB U xs x)) { tmps := (encs U ps a).map (TA.av U) ++ List.replicate (fn.ntmps - ((encs U ps a).map (TA.av U)).length) .bot, boxes := ((((encsB U xs x).map (BC.av U)).zipIdx 1000).map (fun p => (p.2, p.1))), tips := [], U := fun _ => False } := by
  have hl : ((encs U ps a).map (TA.av U)).length = ps.length := by rw [List.length_map, encs_len]
  refine { len := ?_, tmps := ?_, boxes := ?_, dom := ?_, caps := by simp [st0, lk], ctr := Nat.one_pos }
  · simp only [st0, (padM_at _ _).1, List.length_append, List.length_replicate, hl]; omega
  · intro i v y h1 h2
    rcases (padM_at _ _).2 i v h1 with ⟨b, h3, rfl⟩ | rfl
    · refine .p _ _ ?_
      have hi := (List.getElem?_eq_some_iff.1 h3).1
      have h2 : ((encs U ps a).map (TA.av U) ++ List.replicate (fn.ntmps - ((encs U ps a).map (TA.av U)).length) AV.bot)[i]? = some y := h2
      rw [List.getElem?_append_left (by rw [List.length_map]; exact hi)] at h2
      exact encs_ra hU hps a i b y h3 h2
    · exact .p _ _ (.bot _)
  · intro i bc hi
    have hi : lk i (zipX U 0 (encsB U xs x)) = some bc := hi
    rw [zipX_lk] at hi
    split at hi
    · rename_i hle
      simp only [Nat.add_zero] at hi hle
      refine ⟨BC.av U bc, ?_, ?_⟩
      · show lk i (((((encsB U xs x).map (BC.av U)).zipIdx 1000).map (fun p => (p.2, p.1)))) = _
        rw [zipIdx_lk, if_pos hle, List.getElem?_map, hi]; rfl
      · have : ∀ (xs : List BK) (x : densB U xs) (j : Nat) bc, xs.all cleanB = true → (encsB U xs x)[j]? = some bc → RB U [] [] 1 bc (BC.av U bc) := by
          intro xs
          induction xs with
          | nil => intro x j bc _ h; simp [encsB] at h
          | cons k ks ih =>
            rintro ⟨z, r⟩ j bc hk h
            simp only [List.all_cons, Bool.and_eq_true] at hk
            cases j with
            | zero => simp [encsB] at h; subst h; exact encB_rb hU hk.1 z
            | succ j => exact ih r j bc hk.2 (by simpa [encsB] using h)
        exact this xs x _ bc hxs hi
    · cases hi
  · intro i hi
    have hi : lk i (zipX U 0 (encsB U xs x)) = none := hi
    show lk i (((((encsB U xs x).map (BC.av U)).zipIdx 1000).map (fun p => (p.2, p.1)))) = none
    rw [zipX_lk] at hi
    rw [zipIdx_lk]
    split at hi
    · rename_i hle
      simp only [Nat.add_zero] at hi hle
      rw [if_pos hle, List.getElem?_map, hi]; rfl
    · rename_i hle
      rw [if_neg (by omega)]

/-- The numbers of the loops in code. -/
def loopKeys : Code → List Nat
  | .seq a b => loopKeys a ++ loopKeys b
  | .cond _ x y => loopKeys x ++ loopKeys y
  | .block _ c => loopKeys c
  | .loop c => regId c :: loopKeys c
  | _ => []

theorem tat_none {R : Type} {E : Env U R} {key : Nat} : ∀ {c : Code} (K : Exit → TS U.D → Option R) (s : TS U.D), key ∉ loopKeys c → tat U E key c K s = none
  | .seq a b, K, s, h => by
    simp only [loopKeys, List.mem_append, not_or] at h
    simp only [tat, tat_none _ s h.1, tat_none _ s h.2]
  | .cond _ x y, K, s, h => by
    simp only [loopKeys, List.mem_append, not_or] at h
    simp only [tat, tat_none _ s h.1, tat_none _ s h.2]
  | .block id c, K, s, h => by
    simp only [tat]; exact tat_none _ s h
  | .loop c, K, s, h => by
    simp only [loopKeys, List.mem_cons, not_or] at h
    simp only [tat]
    rw [beqN_false.2 (Ne.symm h.1)]
    exact tat_none _ s h.2
  | .skip, _, _, _ => rfl
  | .region .., _, _, _ => rfl
  | .exit _, _, _, _ => rfl
  | .ret, _, _, _ => rfl
  | .rangeFunc .., _, _, _ => rfl
  | .scope _, _, _, _ => rfl
  | .label _, _, _, _ => rfl
  | .goto _, _, _, _ => rfl
  | .refuse _, _, _, _ => rfl

theorem nodup_append {a b : List Nat} (h : nodupN (a ++ b) = true) : nodupN a = true ∧ nodupN b = true ∧ ∀ i ∈ b, i ∉ a := by
  induction a with
  | nil => exact ⟨rfl, h, by simp⟩
  | cons x a ih =>
    simp only [List.cons_append, nodupN, Bool.and_eq_true, Bool.not_eq_true'] at h
    obtain ⟨h1, h2⟩ := h
    obtain ⟨g1, g2, g3⟩ := ih h2
    have hx : x ∉ a ++ b := by
      intro hm
      rw [memN_iff.2 hm] at h1; cases h1
    refine ⟨?_, g2, ?_⟩
    · simp only [nodupN, Bool.and_eq_true, Bool.not_eq_true', g1, and_true]
      cases hm : memN x a with
      | false => rfl
      | true => exact absurd (List.mem_append_left _ (memN_iff.1 hm)) hx
    · intro i hi hm
      rcases List.mem_cons.1 hm with rfl | hm
      · exact hx (List.mem_append_right _ hi)
      · exact g3 i hi hm

theorem eqs_of_tat {R : Type} {E : Nat → Env U R} {nt : Nat} {r : R} : ∀ {c : Code} {K : Nat → Exit → TS U.D → Option R}, nodupN (loopKeys c) = true →
    (∀ key ∈ loopKeys c, (∀ s, (E 0).lp key s ≠ some r) ∧ ∀ m s, (E (m + 1)).lp key s = some r → ∃ sp v, spB sp = true ∧ decS U nt sp s = some v ∧ tat U (E m) key c (K m) (stOf U nt sp v) = some (some r)) → Eqs E nt r c K
  | .seq a b, K, hn, h => by
    simp only [loopKeys] at hn h
    obtain ⟨n1, n2, n3⟩ := nodup_append hn
    refine ⟨eqs_of_tat n1 fun key hk => ?_, eqs_of_tat n2 fun key hk => ?_⟩
    · obtain ⟨h1, h2⟩ := h key (List.mem_append_left _ hk)
      refine ⟨h1, fun m s hs => ?_⟩
      obtain ⟨sp, v, g1, g2, g3⟩ := h2 m s hs
      refine ⟨sp, v, g1, g2, ?_⟩
      simp only [tat] at g3
      split at g3
      · rename_i q hq; rw [hq]; exact g3
      · rename_i hq
        rw [tat_none _ _ (fun hkb => n3 key hkb hk)] at g3
        cases g3
    · obtain ⟨h1, h2⟩ := h key (List.mem_append_right _ hk)
      refine ⟨h1, fun m s hs => ?_⟩
      obtain ⟨sp, v, g1, g2, g3⟩ := h2 m s hs
      refine ⟨sp, v, g1, g2, ?_⟩
      simp only [tat, tat_none _ _ (n3 key hk)] at g3
      exact g3
  | .cond _ x y, K, hn, h => by
    simp only [loopKeys] at hn h
    obtain ⟨n1, n2, n3⟩ := nodup_append hn
    refine ⟨eqs_of_tat n1 fun key hk => ?_, eqs_of_tat n2 fun key hk => ?_⟩
    · obtain ⟨h1, h2⟩ := h key (List.mem_append_left _ hk)
      refine ⟨h1, fun m s hs => ?_⟩
      obtain ⟨sp, v, g1, g2, g3⟩ := h2 m s hs
      refine ⟨sp, v, g1, g2, ?_⟩
      simp only [tat] at g3
      split at g3
      · rename_i q hq; rw [hq]; exact g3
      · rename_i hq
        rw [tat_none _ _ (fun hkb => n3 key hkb hk)] at g3
        cases g3
    · obtain ⟨h1, h2⟩ := h key (List.mem_append_right _ hk)
      refine ⟨h1, fun m s hs => ?_⟩
      obtain ⟨sp, v, g1, g2, g3⟩ := h2 m s hs
      refine ⟨sp, v, g1, g2, ?_⟩
      simp only [tat, tat_none _ _ (n3 key hk)] at g3
      exact g3
  | .block id c, K, hn, h => eqs_of_tat (c := c) (K := fun m => blockT U id (K m)) hn h
  | .loop c, K, hn, h => by
    simp only [loopKeys, nodupN, Bool.and_eq_true, Bool.not_eq_true'] at hn h
    obtain ⟨n1, n2⟩ := hn
    have hni : regId c ∉ loopKeys c := by intro hm; rw [memN_iff.2 hm] at n1; cases n1
    obtain ⟨h1, h2⟩ := h (regId c) (List.mem_cons_self)
    refine ⟨h1, fun m s hs => ?_, eqs_of_tat n2 fun key hk => ?_⟩
    · obtain ⟨sp, v, g1, g2, g3⟩ := h2 m s hs
      refine ⟨sp, v, g1, g2, ?_⟩
      simp only [tat, Nat.beq_refl, Option.some.injEq] at g3
      exact g3
    · obtain ⟨h1, h2⟩ := h key (List.mem_cons_of_mem _ hk)
      refine ⟨h1, fun m s hs => ?_⟩
      obtain ⟨sp, v, g1, g2, g3⟩ := h2 m s hs
      refine ⟨sp, v, g1, g2, ?_⟩
      simp only [tat] at g3
      rw [beqN_false.2 (fun e => hni (by rw [e]; exact hk))] at g3
      exact g3
  | .skip, _, _, _ => trivial
  | .region .., _, _, _ => trivial
  | .exit _, _, _, _ => trivial
  | .ret, _, _, _ => trivial
  | .rangeFunc .., _, _, _ => trivial
  | .scope _, _, _, _ => trivial
  | .label _, _, _, _ => trivial
  | .goto _, _, _, _ => trivial
  | .refuse _, _, _, _ => trivial

/-- What is shown of one loop. -/
def LoopIs {R : Type} (E : Nat → Env U R) (nt : Nat) (c : Code) (K : Nat → Exit → TS U.D → Option R) (key : Nat) : Prop :=
  ∃ (sp : LSpec) (l : Nat → sp.V U → Option R), spB sp = true ∧ (∀ m s, (E m).lp key s = (decS U nt sp s).bind (l m)) ∧ (∀ v, l 0 v = none) ∧ ∀ m v, tat U (E m) key c (K m) (stOf U nt sp v) = some (l (m + 1) v)

def AllK (p : Nat → Prop) : List Nat → Prop
  | [] => True
  | k :: r => p k ∧ AllK p r

theorem AllK.mem {p : Nat → Prop} : ∀ {l : List Nat}, AllK p l → ∀ k ∈ l, p k
  | _ :: _, h, k, hk => by
    rcases List.mem_cons.1 hk with rfl | hk
    · exact h.1
    · exact AllK.mem h.2 k hk

theorem loops_eqs {R : Type} {E : Nat → Env U R} {nt : Nat} {r : R} {c : Code} {K : Nat → Exit → TS U.D → Option R} {keys : List Nat} (hk : loopKeys c = keys) (hn : nodupN keys = true) (h : AllK (LoopIs E nt c K) keys) : Eqs E nt r c K := by
  subst hk
  refine eqs_of_tat hn fun key hk => ?_
  obtain ⟨sp, l, h1, h2, h3, h4⟩ := h.mem key hk
  refine ⟨fun s hs => ?_, fun m s hs => ?_⟩
  · rw [h2, Option.bind_eq_some_iff] at hs
    obtain ⟨v, _, hv⟩ := hs
    rw [h3] at hv; cases hv
  · rw [h2, Option.bind_eq_some_iff] at hs
    obtain ⟨v, hv, hl⟩ := hs
    exact ⟨sp, v, h1, hv, by rw [h4, hl]⟩

/-- What is fixed for a program. -/
structure ProgOk (P : Program) (U : Uni) (tab : Tab) (tt : TTab U.D) : Prop where
  tabOk : TabOK P tab
  mixed : P.follows .mixedOrders = true
  uni : U.Ok
  ttOk : TTOK U tab tt

theorem EntP.zero {f : FuncId} {ps : List Kd} {rs : List K0} (hrs : rs.all cleanK = true) {F : dens U ps → Option (denR U rs)} (h : ∀ a, F a = none) : EntP.Ok P (⟨f, ps, rs, F⟩ : EntP U) :=
  ⟨hrs, fun a x hx => by simp only [h] at hx; cases hx⟩

theorem EntX.zero {f : FuncId} {ps : List Kd} {xs : List BK} {rs : List K0} (hrs : rs.all cleanK = true) (hxs : xs.all cleanB = true) {F : dens U ps → densB U xs → Option (denR U rs × densB U xs)} (h : ∀ a x, F a x = none) : EntX.Ok P (⟨f, ps, xs, rs, F⟩ : EntX U) :=
  ⟨hrs, hxs, fun a x r hx => by simp only [h] at hx; cases hx⟩

/-- What is checked of a function once. -/
structure FnOk (P : Program) (f : FuncId) (fn : Func) (ps : List Kd) (xs : List BK) (rs : List K0) (ord : List (Nat × List Nat)) (keys : List Nat) : Prop where
  here : P.funcs[f]? = some fn
  body : fn.body = some (cod fn)
  name : (fn.name == "runtime.NumGoroutine") = false
  chk : (ps.all argK && xs.all cleanB && rs.all cleanK && Nat.ble ps.length fn.ntmps && ordsB ord (cod fn) && nodupN keys) = true
  keys : loopKeys (cod fn) = keys

/-- A FUNCTION'S CONTRACT. -/
theorem EntP.mk_ok {tt : TTab U.D} (hP : ProgOk P U tab tt) {f : FuncId} {fn : Func} {ps : List Kd} {rs : List K0} {ord : List (Nat × List Nat)} {keys : List Nat} (hf : FnOk P f fn ps [] rs ord keys)
    {F : dens U ps → Option (denR U rs)} (E : Nat → Env U (denR U rs)) (n : Nat) (htt : ∀ m, (E m).tt = tt) (hep : ∀ m, ∀ e ∈ (E m).ep, e.Ok P) (hex : ∀ m, ∀ e ∈ (E m).ex, e.Ok P) (hord : ∀ m, (E m).ord = ord)
    (hL : AllK (LoopIs E fn.ntmps (cod fn) (fun m => finP U fn rs (E m))) keys)
    (hF : ∀ a, trun U (E n) (cod fn) (finP U fn rs (E n)) (st0 U fn (encs U ps a) []) = F a) : EntP.Ok P (⟨f, ps, rs, F⟩ : EntP U) := by
  have hc := hf.chk
  simp only [Bool.and_eq_true, Nat.ble_eq] at hc
  obtain ⟨⟨⟨⟨⟨c1, c2⟩, c3⟩, c4⟩, c5⟩, c6⟩ := hc
  refine ⟨c3, fun a r hr => ?_⟩
  have hr : F a = some r := hr
  rw [← hF] at hr
  have hE : ∀ m, EnvOkX P U tab (E m) := fun m => { uni := hP.uni, tt := by rw [htt]; exact hP.ttOk, ep := hep m, ex := hex m }
  refine AC.introS hf.here hf.body hf.name ?_
  intro M X w act hX hXl hinv
  have hXl0 : X.length = 0 := hXl
  have hR := st0_rel (fn := fn) (xs := []) hP.uni c1 rfl c4 a ()
  refine trun_ok hP.tabOk hP.mixed hE hord (cod fn) n (fun m => finP U fn rs (E m)) _ act w _ c5 (loops_eqs hf.keys c6 hL) ?_ hr ⟨M, extρ X, _, hinv, hR⟩
  intro m hm e s' a' w' hk hfit
  obtain ⟨M', ρ', st', hi, hR'⟩ := hfit
  have key : ∀ e, (e = .normal ∨ e = .ret) → finR U fn rs (E m) s' = some r → fin tab fn X.length (fun r' _ => r' = TV.pv U (encR U rs r)) e st' := by
    intro e he hfin
    have h0 := finR_ok hP.uni (hE m).tt hR' c3 hfin (fun r' _ => r' = TV.pv U (encR U rs r)) [] rfl
    rw [hXl0]
    rcases he with rfl | rfl <;> exact ⟨by simp, h0⟩
  cases e with
  | normal => exact fin_sound hP.tabOk hX hi (key _ (.inl rfl) hk)
  | ret => exact fin_sound hP.tabOk hX hi (key _ (.inr rfl) hk)
  | _ => cases hk

theorem extsT_ok (hR : Rel U s st) : ∀ {n k : Nat} {bs : List (BC U.D)}, extsT U n k s.boxes = some bs →
    ∃ xs, ((List.range' k n).foldr (fun j acc => match lk (1000 + j) st.boxes, acc with | some cs, some l => some (cs :: l) | _, _ => none) (some [])) = some xs ∧ xs.length = bs.length ∧
      ∀ (j : Nat) b c, bs[j]? = some b → xs[j]? = some c → RB U s.caps st.tips s.ctr b c
  | 0, k, bs, h => by
    simp only [extsT, Option.some.injEq] at h; subst h
    exact ⟨[], rfl, rfl, by simp⟩
  | n + 1, k, bs, h => by
    simp only [extsT] at h
    split at h
    · rename_i x l h1 h2
      injection h with h; subst h
      rw [lkT_eq] at h1
      obtain ⟨cs, g1, g2⟩ := hR.boxes _ x h1
      obtain ⟨xs, e1, e2, e3⟩ := extsT_ok hR h2
      refine ⟨cs :: xs, ?_, by simp [e2], ?_⟩
      · rw [List.range'_succ, List.foldr_cons, e1, g1]
      · intro j b c q1 q2
        cases j with
        | zero => simp at q1 q2; subst q1; subst q2; exact g2
        | succ j => exact e3 j b c (by simpa using q1) (by simpa using q2)
    · cases h

/-- A FUNCTION'S CONTRACT, with boxes. -/
theorem EntX.mk_ok {tt : TTab U.D} (hP : ProgOk P U tab tt) {f : FuncId} {fn : Func} {ps : List Kd} {xs : List BK} {rs : List K0} {ord : List (Nat × List Nat)} {keys : List Nat} (hf : FnOk P f fn ps xs rs ord keys)
    {F : dens U ps → densB U xs → Option (denR U rs × densB U xs)} (E : Nat → Env U (denR U rs × densB U xs)) (n : Nat) (htt : ∀ m, (E m).tt = tt) (hep : ∀ m, ∀ e ∈ (E m).ep, e.Ok P) (hex : ∀ m, ∀ e ∈ (E m).ex, e.Ok P) (hord : ∀ m, (E m).ord = ord)
    (hL : AllK (LoopIs E fn.ntmps (cod fn) (fun m => finX U fn rs xs (E m))) keys)
    (hF : ∀ a x, trun U (E n) (cod fn) (finX U fn rs xs (E n)) (st0 U fn (encs U ps a) (encsB U xs x)) = F a x) : EntX.Ok P (⟨f, ps, xs, rs, F⟩ : EntX U) := by
  have hc := hf.chk
  simp only [Bool.and_eq_true, Nat.ble_eq] at hc
  obtain ⟨⟨⟨⟨⟨c1, c2⟩, c3⟩, c4⟩, c5⟩, c6⟩ := hc
  refine ⟨c3, c2, fun a x r hr => ?_⟩
  have hr : F a x = some r := hr
  rw [← hF] at hr
  have hE : ∀ m, EnvOkX P U tab (E m) := fun m => { uni := hP.uni, tt := by rw [htt]; exact hP.ttOk, ep := hep m, ex := hex m }
  have hlx : (encsB U xs x).length = xs.length := encsB_len x
  refine AC.weakPost (Q := fun r' ys => r' = TV.pv U (encR U rs r.1) ∧ ys.length = ((encsB U xs r.2).map (BC.av U)).length ∧ ∀ (j : Nat) cs cs', ((encsB U xs r.2).map (BC.av U))[j]? = some cs → ys[j]? = some cs' → PtW cs' cs) ?_ ?_
  · refine AC.introS hf.here hf.body hf.name ?_
    intro M X w act hX hXl hinv
    have hXl0 : X.length = xs.length := by rw [hXl, List.length_map, hlx]
    have hR := st0_rel (fn := fn) hP.uni c1 c2 c4 a x
    refine trun_ok hP.tabOk hP.mixed hE hord (cod fn) n (fun m => finX U fn rs xs (E m)) _ act w _ c5 (loops_eqs hf.keys c6 hL) ?_ hr ⟨M, extρ X, _, hinv, hR⟩
    intro m hm e s' a' w' hk hfit
    obtain ⟨M', ρ', st', hi, hR'⟩ := hfit
    have key : ∀ e, (e = .normal ∨ e = .ret) → finX U fn rs xs (E m) .normal s' = some r → fin tab fn X.length (fun r' ys => r' = TV.pv U (encR U rs r.1) ∧ ys.length = ((encsB U xs r.2).map (BC.av U)).length ∧ ∀ (j : Nat) cs cs', ((encsB U xs r.2).map (BC.av U))[j]? = some cs → ys[j]? = some cs' → PtW cs' cs) e st' := by
      intro e he hfin
      simp only [finX] at hfin
      split at hfin
      · rename_i bs hbs
        split at hfin
        · rename_i z hz
          rw [Option.bind_eq_some_iff] at hfin
          obtain ⟨q, hq, hqr⟩ := hfin
          injection hqr with hqr
          obtain ⟨ys, e1, e2, e3⟩ := extsT_ok hR' hbs
          obtain ⟨f1, f2, f3⟩ := decsB_wk hP.uni hz e2 e3
          subst hqr
          have h0 := finR_ok hP.uni (hE m).tt hR' c3 hq (fun r' ys => r' = TV.pv U (encR U rs q) ∧ ys.length = ((encsB U xs z).map (BC.av U)).length ∧ ∀ (j : Nat) cs cs', ((encsB U xs z).map (BC.av U))[j]? = some cs → ys[j]? = some cs' → PtW cs' cs) ys ⟨rfl, f1, f2⟩
          have hx : extsOf X.length st' = some ys := by
            unfold extsOf
            rw [List.range_eq_range', hXl0]
            exact e1
          rcases he with rfl | rfl
          · show bindK (extsOf X.length st') _
            rw [hx]; exact ⟨f3 c2, h0⟩
          · show bindK (extsOf X.length st') _
            rw [hx]; exact ⟨f3 c2, h0⟩
        · cases hfin
      · cases hfin
    cases e with
    | normal => exact fin_sound hP.tabOk hX hi (key _ (.inl rfl) hk)
    | ret => exact fin_sound hP.tabOk hX hi (key _ (.inr rfl) hk)
    | _ => cases hk
  · rintro r' ys ⟨h1, h2, h3⟩
    exact ⟨_, ⟨h1, rfl⟩, h2.symm, fun j cs cs' q1 q2 => h3 j cs' cs q2 q1⟩

end
end Go.Tx
