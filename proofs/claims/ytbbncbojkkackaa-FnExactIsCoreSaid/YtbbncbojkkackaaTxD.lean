/- Typed execution, part 4: every operation that computes or reads. -/
import Derived.Test.YtbbncbojkkackaaTxC
set_option linter.unusedVariables false
set_option linter.unusedSimpArgs false
namespace Go.Tx
open Go.Ax

section
variable {U : Uni} {caps : List (Nat × Nat)} {tips : Tips} {ctr : Nat} {tab : Tab} {tt : TTab U.D} {s : TS U.D} {st : St}

theorem tbuild_ok (hT : TTOK U tab tt) (hc : 0 < ctr) {e : Operand → TA U.D} {e' : Operand → AV} (he : ∀ x, RA U caps tips ctr (e x) (e' x)) {t : TypeId} {parts : List (Nat × Operand)} {a : TA U.D} (h : tbuild tt t e parts = some a) :
    ∃ y, buildA tab t e' parts = some y ∧ RA U caps tips ctr a y := by
  unfold tbuild at h
  split at h
  · rename_i n fs z ht
    obtain ⟨b, z', h1, h2, h3, h4⟩ := structK hT ht
    split at h
    · rename_i cs hf
      injection h with h; subst h
      have hp : ∀ i, tplace tt fs i = placeOf tab fs i ∨ tplace tt fs i = none := by
        intro i
        unfold tplace placeOf
        rw [atL_eq]
        split
        · rename_i off ft hq
          rw [hq]
          simp only
          split
          · rename_i j hj
            obtain ⟨j', g1, g2, _⟩ := hT.row _ _ hj
            left; rw [g1, ← g2]; rfl
          · exact Or.inr rfl
        · exact Or.inr rfl
      -- the places that are asked for are the same
      have hfill : ∀ (parts : List (Nat × TA U.D)) cs r, tfill (tplace tt fs) cs parts = some r → tfill (placeOf tab fs) cs parts = some r := by
        intro parts
        induction parts with
        | nil => intro cs r h; exact h
        | cons p parts ih =>
          obtain ⟨i, x⟩ := p
          intro cs r h
          rcases hp i with h5 | h5
          · unfold tfill at h ⊢
            rw [← h5]
            split at h
            · rename_i off size l hpl
              split at h
              · exact ih _ _ h
              · cases h
            · cases h
            · rename_i off size v hna hnt hpl
              split at h
              · rename_i hb
                exact ih _ _ h
              · cases h
            · cases h
          · unfold tfill at h
            rw [h5] at h
            cases h
      obtain ⟨zs, g1, g2, g3⟩ := tfill_ok (place := placeOf tab fs) (place' := placeOf tab fs) (fun _ => rfl) (parts := parts.map (tevF tt fs e)) (parts' := parts.map (evF tab fs e')) (by simp) (by
        intro i p q hp hq
        rw [List.getElem?_map, Option.map_eq_some_iff] at hp hq
        obtain ⟨p0, hp0, rfl⟩ := hp
        obtain ⟨q0, hq0, rfl⟩ := hq
        rw [hp0] at hq0; injection hq0 with hq0; subst hq0
        refine ⟨rfl, ?_⟩
        unfold tevF evF
        simp only [atL_eq]
        split
        · rename_i off ft hq
          rw [hq]
          exact tevT_ok hT hc he _ _
        · rename_i hq
          rw [hq]
          exact he _) (caps := caps) (tips := tips) (ctr := ctr) h2 (fun i c y h5 h6 => (h4 i c y h5 h6).rv hc) (hfill _ _ _ hf)
      refine ⟨_, ?_, .v _ _ (.agg _ _ g2 g3)⟩
      simp only [buildA, h1, g1]; rfl
    · cases h
  · cases h

theorem sliceK {t : TypeId} {n c b : Nat} {z : List (TV U.D)} (hT : TTOK U tab tt) (h : tt t = some ⟨n, .slice c b, z⟩) : ∃ m k z' el j, tab t = some ⟨m, k, .slice el, z'⟩ ∧ tab el = some j ∧ j.size = U.sz c ∧ j.bytes = b ∧ 0 < U.sz c ∧ PV.eraseL j.zero = (U.pv c (U.dflt c)).cells := by
  obtain ⟨⟨js, jb, jtd, jz⟩, h1, h2, h3, h4, h5, h6⟩ := hT.row t _ h
  cases jtd <;> simp [tkOK] at h3
  obtain ⟨j, g⟩ := h3
  exact ⟨_, _, _, _, j, h1, g⟩

theorem strK {t : TypeId} {n : Nat} {z : List (TV U.D)} (hT : TTOK U tab tt) (h : tt t = some ⟨n, .str, z⟩) : ∃ m k z', tab t = some ⟨m, k, .str, z'⟩ := by
  obtain ⟨⟨js, jb, jtd, jz⟩, h1, h2, h3, h4, h5, h6⟩ := hT.row t _ h
  cases jtd <;> simp [tkOK] at h3
  exact ⟨_, _, _, h1⟩

theorem boolK {t : TypeId} {n : Nat} {z : List (TV U.D)} (hT : TTOK U tab tt) (h : tt t = some ⟨n, .bool, z⟩) : ∃ m k z', tab t = some ⟨m, k, .bool, z'⟩ := by
  obtain ⟨⟨js, jb, jtd, jz⟩, h1, h2, h3, h4, h5, h6⟩ := hT.row t _ h
  cases jtd <;> simp [tkOK] at h3
  exact ⟨_, _, _, h1⟩

theorem intK {t : TypeId} {n : Nat} {k : IntKind} {z : List (TV U.D)} (hT : TTOK U tab tt) (h : tt t = some ⟨n, .int k, z⟩) : ∃ m b z', tab t = some ⟨m, b, .int k, z'⟩ := by
  obtain ⟨⟨js, jb, jtd, jz⟩, h1, h2, h3, h4, h5, h6⟩ := hT.row t _ h
  cases jtd <;> simp [tkOK] at h3
  subst h3
  exact ⟨_, _, _, h1⟩

theorem eraseL_len {es : List PV} {l : List PV} (h : PV.eraseL es = l) : es.length = l.length := by
  rw [← h, PV.eraseL_eq, List.length_map]

theorem tlen_ok (hT : TTOK U tab tt) {t : TypeId} {x a : TA U.D} {x' : AV} (hx : RA U caps tips ctr x x') (h : tlen tt t x = some a) : ∃ y, lenA tab t x' = some y ∧ RA U caps tips ctr a y := by
  unfold tlen at h
  split at h
  · rename_i ht
    obtain ⟨m, k, z', h1⟩ := strK hT ht
    rw [hx.str_]
    injection h with h; subst h
    exact ⟨_, by simp [lenA, h1], .ofInt _ _⟩
  · rename_i c xs ht
    obtain ⟨m, k, z', el, j, h1, h2⟩ := sliceK hT ht
    obtain ⟨p, rfl, hp⟩ := hx.v_
    obtain ⟨es, g1, g2⟩ := hp.els_ rfl
    injection h with h; subst h
    have := eraseL_len g2
    simp only [List.length_map] at this
    refine ⟨.pv (.lit (.int .i64 es.length)), by simp [lenA, h1, g1], by rw [this]; exact .ofInt _ _⟩
  · rename_i c xs ht
    obtain ⟨m, k, z', el, j, h1, h2⟩ := sliceK hT ht
    obtain ⟨p, rfl, hp⟩ := hx.v_
    obtain ⟨es, g1, g2⟩ := hp.els_ rfl
    injection h with h; subst h
    have := eraseL_len g2
    simp only [List.length_map] at this
    refine ⟨.pv (.lit (.int .i64 es.length)), by simp [lenA, h1, g1], by rw [this]; exact .ofInt _ _⟩
  · cases h

theorem tbound_ok {d : Int} {o : Option (TA U.D)} {o' : Option AV} {n : Int} (h : tbound d o = some n) (ho : ∀ a, o = some a → ∃ y, o' = some y ∧ RA U caps tips ctr a y) (hn : o = none → o' = none) (dn : Nat) (hd : d = dn) : boundA dn o' = some n := by
  cases o with
  | none =>
    rw [hn rfl]
    simp only [tbound, Option.some.injEq] at h
    simp [boundA, ← h, hd]
  | some a =>
    obtain ⟨y, rfl, hy⟩ := ho a rfl
    cases a with
    | v v =>
      cases v <;> simp [tbound] at h
      subst h
      rw [hy.int_]
      rfl
    | _ => simp [tbound] at h

theorem RV.flatSl {c : Nat} {xs : List (U.D c)} {y : PV} (h : y.erase = .sl (U.sz c) (xs.map (U.pv c))) : RV U caps tips ctr (.sl c xs) y := .flat _ _ rfl (by rw [h]; rfl)

theorem eraseL_drop_take {es : List PV} {l : List PV} (h : PV.eraseL es = l) (n m : Nat) : PV.eraseL ((es.drop n).take m) = (l.drop n).take m := by
  rw [← h, PV.eraseL_eq, PV.eraseL_eq, List.map_take, List.map_drop]

theorem tslice_ok (hT : TTOK U tab tt) (hc0 : 0 < ctr) {t : TypeId} {x : TA U.D} {x' : AV} {lo hi mx : Option (TA U.D)} {lo' hi' mx' : Option AV} {p : Pr U.D} (hx : RA U caps tips ctr x x')
    (hlo : ∀ a, lo = some a → ∃ y, lo' = some y ∧ RA U caps tips ctr a y) (hlo0 : lo = none → lo' = none)
    (hhi : ∀ a, hi = some a → ∃ y, hi' = some y ∧ RA U caps tips ctr a y) (hhi0 : hi = none → hi' = none)
    (hmx : ∀ a, mx = some a → ∃ y, mx' = some y ∧ RA U caps tips ctr a y) (hmx0 : mx = none → mx' = none)
    (h : tslice tt t x lo hi mx = some p) : PrOK U caps tips ctr p (sliceA tab t x' lo' hi' mx') := by
  unfold tslice at h
  split at h
  · rename_i sv ht
    obtain ⟨m, k, z', h1⟩ := strK hT ht
    rw [hx.str_, hmx0 rfl]
    split at h
    · rename_i l hh e1 e2
      injection h with h; subst h
      have b1 := tbound_ok e1 hlo hlo0 0 rfl
      have b2 := tbound_ok e2 hhi hhi0 sv.size rfl
      intro z hz
      unfold ssubT at hz
      split at hz
      · rename_i hle
        injection hz with hz; subst hz
        refine ⟨_, ?_, .ofStr _⟩
        simp only [sliceA, h1, b1, b2]
        rw [if_pos hle]
      · cases hz
    · cases h
  · rename_i c' b v ht
    obtain ⟨m, k, z', el, j, h1, h2, h3, h4, h5, h6⟩ := sliceK hT ht
    rw [hmx0 rfl]
    obtain ⟨pv, rfl, hp⟩ := hx.v_
    split at h
    · rename_i c xs he
      split at h
      · rename_i l hh e0 e1 e2
        rw [beqN] at e0; subst e0
        injection h with h; subst h
        obtain ⟨es, g1, g2⟩ := hp.els_ he
        have hlen := eraseL_len g2
        simp only [List.length_map] at hlen
        have b1 := tbound_ok e1 hlo hlo0 0 rfl
        have b2 := tbound_ok e2 hhi hhi0 es.length (by rw [hlen])
        intro z hz
        unfold subT at hz
        split at hz
        · rename_i hle
          injection hz with hz; subst hz
          have hle' : 0 ≤ l ∧ l ≤ hh ∧ hh ≤ es.length := by rw [hlen]; exact hle
          have her : PV.eraseL ((es.drop l.toNat).take (hh.toNat - l.toNat)) = ((xs.drop l.toNat).take (hh.toNat - l.toNat)).map (U.pv c) := by
            rw [eraseL_drop_take g2, List.map_take, List.map_drop]
          cases pv with
          | sl sz es' =>
            simp only [PV.elems, Option.some.injEq, Prod.mk.injEq] at g1
            obtain ⟨rfl, rfl⟩ := g1
            refine ⟨_, ?_, .v _ _ (RV.flatSl (y := .sl (U.sz c) ((es'.drop l.toNat).take (hh.toNat - l.toNat))) (by simp only [PV.erase]; rw [her]))⟩
            simp only [sliceA, h1, h2, b1, b2]
            rw [if_pos ⟨h3, h5, hle'.1, hle'.2.1, hle'.2.2⟩]
          | own s0 ob sz es' =>
            simp only [PV.elems, Option.some.injEq, Prod.mk.injEq] at g1
            obtain ⟨rfl, rfl⟩ := g1
            by_cases hz : 0 < hh.toNat - l.toNat
            · refine ⟨_, ?_, .v _ _ (RV.flatSl (y := .own s0 (ob.map fun p => (p.1, p.2 + l.toNat * U.sz c)) (U.sz c) ((es'.drop l.toNat).take (hh.toNat - l.toNat))) (by simp only [PV.erase]; rw [her]))⟩
              simp only [sliceA, h1, h2, b1, b2]
              rw [if_pos ⟨h3, h5, hle'.1, hle'.2.1, hle'.2.2⟩, if_pos hz]
            · have e0 : hh.toNat - l.toNat = 0 := by omega
              refine ⟨_, ?_, .v _ _ (RV.flatSl (y := .sl (U.sz c) []) (by rw [e0]; simp [PV.erase, PV.eraseL]))⟩
              simp only [sliceA, h1, h2, b1, b2]
              rw [if_pos ⟨h3, h5, hle'.1, hle'.2.1, hle'.2.2⟩, if_neg hz]
          | _ => simp [PV.elems] at g1
        · cases hz
      · cases h
    · cases h
  · rename_i c b z0 v k0 ht
    obtain ⟨m, k, z', el, j, h1, h2, h3, h4, h5, h6⟩ := sliceK hT ht
    obtain ⟨pv, rfl, hp⟩ := hx.v_
    obtain ⟨y, rfl, hy⟩ := hmx _ rfl
    rw [hy.int_]
    split at h
    · rename_i q he e1 e2
      injection h with h; subst h
      obtain ⟨c1, xs⟩ := q
      obtain ⟨es, g1, g2⟩ := hp.els_ he
      have b1 := tbound_ok e1 hlo hlo0 0 rfl
      have b2 := tbound_ok e2 hhi hhi0 1 rfl
      refine ⟨_, ?_, .v _ _ (.own 0 0 c [] (.own 0 none j.size []) hc0 (by simp [PV.erase, PV.eraseL, h3]) fun _ => ⟨none, [], by rw [h3], fun _ => rfl, fun h => absurd rfl h⟩)⟩
      simp only [sliceA, h1, h2, g1, b1, b2]
    · cases h
  · cases h

theorem cells_of (hU : U.Ok) {c : Nat} {x : U.D c} {e : PV} (h : e.erase = U.pv c x) : e.cells.length = (U.enc c x).length ∧ e.cells.length = U.sz c ∧ ∀ (i : Nat) v y, (U.enc c x)[i]? = some v → e.cells[i]? = some y → RV U caps tips ctr v y := by
  have h1 : e.cells.map PV.erase = (U.enc c x).map (TV.pv U) := by
    rw [← PV.cells_erase, h, ← hU.enc, pvL_eq]
  have hl : e.cells.length = (U.enc c x).length := by
    have := congrArg List.length h1
    simpa using this
  refine ⟨hl, ?_, ?_⟩
  · rw [← hU.sz c x, ← h, PV.cells_erase, List.length_map]
  · intro i v y hv hy
    refine .flat _ _ (hU.flat c x v (List.mem_of_getElem? hv)) ?_
    have := congrArg (fun l => l[i]?) h1
    simp only [List.getElem?_map, hv, hy, Option.map_some, Option.some.injEq] at this
    exact this

theorem tidx_ok (hU : U.Ok) (hT : TTOK U tab tt) {t : TypeId} {x i : TA U.D} {x' i' : AV} {p : Pr U.D} (hx : RA U caps tips ctr x x') (hi : RA U caps tips ctr i i') (h : tidx U tt t x i = some p) : PrOK U caps tips ctr p (idxA tab t x' i') := by
  unfold tidx at h
  split at h
  · rename_i c' b v k n ht
    obtain ⟨m, kk, z', el, j, h1, h2, h3, h4, h5, h6⟩ := sliceK hT ht
    obtain ⟨pv, rfl, hp⟩ := hx.v_
    rw [hi.int_]
    split at h
    · rename_i c xs he
      split at h
      · rename_i e0
        rw [beqN] at e0; subst e0
        injection h with h; subst h
        obtain ⟨es, g1, g2⟩ := hp.els_ he
        intro z hz
        unfold nthT at hz
        split at hz
        · rename_i hn
          have g3 := congrArg (fun l => l[n.toNat]?) g2
          simp only [PV.eraseL_eq, List.getElem?_map, hz, Option.map_some] at g3
          rw [Option.map_eq_some_iff] at g3
          obtain ⟨e, he1, he2⟩ := g3
          obtain ⟨k1, k2, k3⟩ := cells_of (caps := caps) (tips := tips) (ctr := ctr) hU he2
          refine ⟨_, ?_, .ro _ e.cells k1 k3⟩
          simp only [idxA, h1, h2, g1]
          rw [if_pos ⟨h3, hn⟩, he1]; rfl
        · cases hz
      · cases h
    · cases h
  · rename_i c' b bx c len k n ht
    obtain ⟨m, kk, z', el, j, h1, h2, h3, h4, h5, h6⟩ := sliceK hT ht
    rw [hi.int_]
    cases hx with
    | msl _ _ _ =>
      split at h
      · rename_i e0
        rw [beqN] at e0; subst e0
        injection h with h; subst h
        intro z hz
        split at hz
        · rename_i hin
          injection hz with hz; subst hz
          unfold inT at hin
          rw [decide_eq_true_eq] at hin
          refine ⟨_, ?_, .elt bx c n hin.1⟩
          simp only [idxA, h1, h2]
          rw [if_pos ⟨h3, hin.1, hin.2⟩]
        · cases hz
      · cases h
  · cases h

theorem tbin_ok (hT : TTOK U tab tt) {t : TypeId} {op : BinOp} {a b : TA U.D} {a' b' : AV} {p : Pr U.D} (ha : RA U caps tips ctr a a') (hb : RA U caps tips ctr b b') (h : tbin tt t op a b = some p) : PrOK U caps tips ctr p (binA tab t op a' b') := by
  unfold tbin at h
  split at h
  · rename_i k x k' y
    rw [ha.int_, hb.int_]
    injection h with h; subst h
    intro z hz
    unfold shlT at hz
    split at hz
    · rename_i hy
      injection hz with hz; subst hz
      exact ⟨_, by simp [binA, hy], .ofInt _ _⟩
    · cases hz
  · rename_i k x k' y
    rw [ha.int_, hb.int_]
    injection h with h; subst h
    intro z hz
    unfold shrT at hz
    split at hz
    · rename_i hy
      injection hz with hz; subst hz
      exact ⟨_, by simp [binA, hy], .ofInt _ _⟩
    · cases hz
  · rename_i k x k' y n1 n2
    rw [ha.int_, hb.int_]
    split at h
    · rename_i hk
      subst hk
      have hbA : binA tab t op (.pv (.lit (.int k x))) (.pv (.lit (.int k y))) = (intBin op k x y).map .pv := by
        unfold binA
        cases op <;> first | exact absurd rfl n1 | exact absurd rfl n2 | (simp at n1; done) | (simp at n2; done) | simp
      rw [hbA]
      cases op <;> simp only [tintBin, Option.some.injEq, reduceCtorEq] at h <;> first | (subst h) | skip
      all_goals first
        | exact ⟨_, rfl, .ofInt _ _⟩
        | exact ⟨_, rfl, .ofBool _⟩
        | skip
      · intro z hz
        unfold quoT at hz
        split at hz
        · rename_i hy
          injection hz with hz; subst hz
          exact ⟨_, by simp only [intBin]; rw [if_pos hy]; rfl, .ofInt _ _⟩
        · cases hz
      · intro z hz
        unfold remT at hz
        split at hz
        · rename_i hy
          injection hz with hz; subst hz
          exact ⟨_, by simp only [intBin]; rw [if_pos hy]; rfl, .ofInt _ _⟩
        · cases hz
    · cases h
  · rename_i x y n1 n2 n3
    rw [ha.str_, hb.str_]
    cases op <;> simp only [tstrBin, Option.some.injEq, reduceCtorEq] at h <;> first | (subst h) | skip
    all_goals first
      | exact ⟨_, rfl, .ofBool _⟩
      | skip
    intro z hz
    unfold catT at hz
    split at hz
    · rename_i hy
      injection hz with hz; subst hz
      exact ⟨_, by simp only [binA, strBin]; rw [if_pos hy]; rfl, .ofStr _⟩
    · cases hz
  · rename_i x y
    rw [ha.bool_, hb.bool_]
    split at h
    · rename_i ht
      obtain ⟨m, k, z', h1⟩ := boolK hT ht
      injection h with h; subst h
      exact ⟨_, by simp only [binA, h1], .ofBool _⟩
    · cases h
  · rename_i x y
    rw [ha.bool_, hb.bool_]
    split at h
    · rename_i ht
      obtain ⟨m, k, z', h1⟩ := boolK hT ht
      injection h with h; subst h
      exact ⟨_, by simp only [binA, h1], .ofBool _⟩
    · cases h
  · cases h

theorem tun_ok {op : UnOp} {a : TA U.D} {a' : AV} {p : Pr U.D} (ha : RA U caps tips ctr a a') (h : tun op a = some p) : PrOK U caps tips ctr p (unA op a') := by
  unfold tun at h
  split at h
  · rw [ha.bool_]
    injection h with h; subst h
    exact ⟨_, rfl, .ofBool _⟩
  · rw [ha.int_]
    injection h with h; subst h
    exact ⟨_, rfl, .ofInt _ _⟩
  · cases h

theorem pure_ok {o : Option (TA U.D)} {p : Pr U.D} {q : Option AV} (h : o.map Pr.pure = some p) (hk : ∀ a, o = some a → ∃ y, q = some y ∧ RA U caps tips ctr a y) : PrOK U caps tips ctr p q := by
  rw [Option.map_eq_some_iff] at h
  obtain ⟨a, h1, rfl⟩ := h
  exact hk a h1

theorem isTmp_ok {c : Operand} {t : Nat} (h : isTmp c = some t) : c = .tmp t := by
  cases c <;> simp [isTmp] at h
  rw [h]

theorem opt_ok {e : Operand → TA U.D} {e' : Operand → AV} (he : ∀ x, RA U caps tips ctr (e x) (e' x)) (o : Option Operand) : (∀ a, o.map e = some a → ∃ y, o.map e' = some y ∧ RA U caps tips ctr a y) ∧ (o.map e = none → o.map e' = none) := by
  cases o with
  | none => exact ⟨fun a h => by simp at h, fun _ => rfl⟩
  | some x => exact ⟨fun a h => by simp at h; subst h; exact ⟨_, rfl, he x⟩, fun h => by simp at h⟩

theorem pickB_true {a b : Operand} {x y : Bool} (h : a = .const (.bool true) → true = x) : pickB a b true x y = x := by
  unfold pickB
  split
  · rfl
  · exact h rfl
  · rfl
theorem pickB_false {a b : Operand} {x y : Bool} (h : b = .const (.bool false) → false = y) : pickB a b false x y = y := by
  unfold pickB
  split
  · exact h rfl
  · rfl
  · rfl

/-- WHAT COMPUTES OR READS. -/
theorem tdv_ok (hU : U.Ok) (hT : TTOK U tab tt) (hR : Rel U s st) {o : Oper} {ge : List (Nat × Bool) → Operand → TA U.D}
    (hge : ∀ gs x, (∀ p ∈ gs, boolAt st p.1 = some p.2) → RA U s.caps st.tips s.ctr (ge gs x) (evl st.tmps x)) {p : Pr U.D} (h : tdv U tt o ge s.boxes = some p) :
    PrOK U s.caps st.tips s.ctr p (dval tab o (evl st.tmps) st.boxes) := by
  have he : ∀ x, RA U s.caps st.tips s.ctr (ge [] x) (evl st.tmps x) := fun x => hge [] x (by simp)
  obtain ⟨od, oop, oty, opos, oaf, og⟩ := o
  unfold tdv at h
  unfold dval
  cases oop <;> simp only at h ⊢ <;> first | (cases h; done) | skip
  case move x => injection h with h; subst h; exact ⟨_, rfl, tevT_ok hT hR.ctr he _ _⟩
  case assign x => injection h with h; subst h; exact ⟨_, rfl, tevT_ok hT hR.ctr he _ _⟩
  case pick c a b =>
    split at h
    · rename_i cb hc
      split at h
      · rename_i t ht
        obtain rfl := isTmp_ok ht
        have hc' := he (.tmp t)
        rw [hc] at hc'
        have hcv := hc'.bool_
        rw [hcv]
        have hbt : boolAt st t = some cb := by
          unfold boolAt
          have : st.tmps.getD t .bot = .pv (.lit (.bool cb)) := hcv
          rw [List.getD_eq_getElem?_getD] at this
          cases hq : st.tmps[t]? with
          | none => rw [hq] at this; simp at this
          | some y => rw [hq] at this; simp at this; rw [this]
        have ha := fun (q : cb = true) => hge [(t, true)] a (by intro p hp; rw [List.mem_singleton] at hp; subst hp; rw [hbt, q])
        have hb := fun (q : cb = false) => hge [(t, false)] b (by intro p hp; rw [List.mem_singleton] at hp; subst hp; rw [hbt, q])
        refine pure_ok h fun r hr => ?_
        generalize ge [(t, true)] a = xa at *
        generalize ge [(t, false)] b = xb at *
        unfold tpickV at hr
        split at hr
        · rename_i x y
          injection hr with hr; subst hr
          cases cb with
          | true =>
            refine ⟨_, rfl, ?_⟩
            rw [(ha rfl).bool_, pickB_true fun e => by
              have := (ha rfl).bool_
              rw [e] at this
              simpa [evl, Value.oneCell'] using this]
            exact .ofBool _
          | false =>
            refine ⟨_, rfl, ?_⟩
            rw [(hb rfl).bool_, pickB_false fun e => by
              have := (hb rfl).bool_
              rw [e] at this
              simpa [evl, Value.oneCell'] using this]
            exact .ofBool _
        · rename_i k x k' y
          split at hr
          · rename_i hk
            subst hk
            injection hr with hr; subst hr
            cases cb with
            | true => exact ⟨_, rfl, by rw [(ha rfl).int_]; exact .ofInt _ _⟩
            | false => exact ⟨_, rfl, by rw [(hb rfl).int_]; exact .ofInt _ _⟩
          · cases hr
        · cases hr
      · cases h
    · cases h
  case load t a =>
    split at h
    · rename_i i hi
      refine pure_ok h fun r hr => ?_
      obtain ⟨j, y, h1, h2, h3⟩ := tload_ok hR hT hi (he a) hr
      exact ⟨y, by rw [h1]; exact h2, h3⟩
    · cases h
  case nilCheck x =>
    have hx := he x
    split at h
    · rename_i b off hq
      rw [hq] at hx
      injection h with h; subst h
      generalize evl st.tmps x = y at hx ⊢
      cases hx
      exact ⟨_, rfl, .box _ _⟩
    · rename_i cs hq
      rw [hq] at hx
      injection h with h; subst h
      generalize evl st.tmps x = y at hx ⊢
      cases hx with
      | ro _ ys hl hpt => exact ⟨_, rfl, .ro _ _ hl hpt⟩
    · cases h
  case binOp op t x y yt => exact tbin_ok hT (he x) (he y) h
  case unOp op t x => exact tun_ok (he x) h
  case convert a b x =>
    split at h
    · rename_i h1 h2 h3
      obtain ⟨_, _, _, g1⟩ := intK hT h1
      obtain ⟨_, _, _, g2⟩ := intK hT h2
      have hx := he x
      rw [h3] at hx
      injection h with h; subst h
      refine ⟨_, ?_, .ofInt _ _⟩
      rw [hx.int_]
      simp only [convA, g1, g2]
    · cases h
  case fieldAddr t x f => exact pure_ok h fun r hr => tfieldAddr_ok hT (he x) hr
  case field t x f => exact pure_ok h fun r hr => tfield_ok hT (he x) hr
  case indexAddr t x i => exact tidx_ok hU hT (he x) (he i) h
  case index t x i =>
    split at h
    · rename_i h1 h2 h3
      obtain ⟨_, _, _, g1⟩ := strK hT h1
      have hx := he x
      rw [h2] at hx
      have hi := he i
      rw [h3] at hi
      injection h with h; subst h
      rw [hx.str_, hi.int_]
      intro z hz
      unfold byteT at hz
      split at hz
      · rename_i hn
        rw [Option.map_eq_some_iff] at hz
        obtain ⟨b, hb, rfl⟩ := hz
        refine ⟨_, ?_, .ofInt _ _⟩
        simp only [strIdxA, g1]
        rw [if_pos hn, hb]; rfl
      · cases hz
    · cases h
  case slice t x lo hi mx =>
    exact tslice_ok hT hR.ctr (he x) (opt_ok he lo).1 (opt_ok he lo).2 (opt_ok he hi).1 (opt_ok he hi).2 (opt_ok he mx).1 (opt_ok he mx).2 h
  case extract x k =>
    have hx := he x
    split at h
    · rename_i vs hq
      rw [hq] at hx
      obtain ⟨pv, hpv, hp⟩ := hx.v_
      rw [hpv]
      cases hp with
      | flat _ _ hf _ => simp [TV.flat] at hf
      | tup _ ys hl hpt =>
        rw [atL_eq] at h
        split at h
        · rename_i v hv
          injection h with h; subst h
          obtain ⟨y, g1, g2⟩ := same_pt hl hpt hv
          exact ⟨.pv y, by simp [g1], .v _ _ g2⟩
        · cases h
    · cases h
  case makeFunc f first caps =>
    cases f <;> simp only at h ⊢ <;> first | (cases h; done) | skip
    rename_i f
    split at h
    · rename_i hf
      injection h with h; subst h
      refine ⟨_, by rw [if_pos hf], .fn _ _ _ (by simp) ?_⟩
      intro i c y h1 h2
      rw [List.getElem?_map, Option.map_eq_some_iff] at h1 h2
      obtain ⟨x, hx, rfl⟩ := h1
      obtain ⟨x', hx', rfl⟩ := h2
      rw [hx] at hx'; injection hx' with hx'; subst hx'
      exact he x
    · cases h
  case build t parts => exact pure_ok h fun r hr => tbuild_ok hT hR.ctr he hr
  case call c =>
    obtain ⟨cal, args, argTypes⟩ := c
    cases cal with
    | builtin b =>
      cases b <;> simp only at h ⊢ <;> first | (cases h; done) | skip
      case len =>
        split at h
        · rename_i x t h1 h2
          rw [h1, h2]
          exact pure_ok h fun r hr => tlen_ok hT (he x) hr
        · cases h
      case max =>
        split at h
        · rename_i x y h1
          rw [h1]
          split at h
          · rename_i k a k' b e1 e2
            have hx := he x; rw [e1] at hx
            have hy := he y; rw [e2] at hy
            split at h
            · rename_i hk; subst hk
              injection h with h; subst h
              refine ⟨_, ?_, .ofInt _ _⟩
              simp [hx.int_, hy.int_]
            · cases h
          · cases h
        · cases h
      case min =>
        split at h
        · rename_i x y h1
          rw [h1]
          split at h
          · rename_i k a k' b e1 e2
            have hx := he x; rw [e1] at hx
            have hy := he y; rw [e2] at hy
            split at h
            · rename_i hk; subst hk
              injection h with h; subst h
              refine ⟨_, ?_, .ofInt _ _⟩
              simp [hx.int_, hy.int_]
            · cases h
          · cases h
        · cases h
    | _ => simp at h

end
end Go.Tx
