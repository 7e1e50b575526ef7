/- Typed execution, part 3: what computes or reads is computed and read rightly. -/
import Derived.Test.YtbbncbojkkackaaTxB
set_option linter.unusedVariables false
set_option linter.unusedSimpArgs false
namespace Go.Tx
open Go.Ax

section
variable {U : Uni} {caps : List (Nat × Nat)} {tips : Tips} {ctr : Nat} {tab : Tab} {tt : TTab U.D} {s : TS U.D} {st : St}

theorem RV.int_ {k : IntKind} {n : Int} {y : PV} (h : RV U caps tips ctr (.int k n) y) : y = .lit (.int k n) := erase_lit h.erase
theorem RV.bool_ {b : Bool} {y : PV} (h : RV U caps tips ctr (.bool b) y) : y = .lit (.bool b) := erase_lit h.erase
theorem RV.str_ {b : ByteArray} {y : PV} (h : RV U caps tips ctr (.str b) y) : y = .lit (.string b) := erase_lit h.erase
theorem RV.els_ {x : TV U.D} {c : Nat} {xs : List (U.D c)} {y : PV} (h : RV U caps tips ctr x y) (he : x.els = some ⟨c, xs⟩) : ∃ es, y.elems = some (U.sz c, es) ∧ PV.eraseL es = xs.map (U.pv c) := by
  have h1 := h.erase
  cases x <;> simp [TV.els] at he
  · obtain ⟨rfl, rfl⟩ := he
    exact erase_sl h1
  · obtain ⟨rfl, rfl⟩ := he
    exact erase_sl h1

theorem RA.int_ {k : IntKind} {n : Int} {y : AV} (h : RA U caps tips ctr (.v (.int k n)) y) : y = .pv (.lit (.int k n)) := by
  cases h with | v _ y h => rw [h.int_]
theorem RA.bool_ {b : Bool} {y : AV} (h : RA U caps tips ctr (.v (.bool b)) y) : y = .pv (.lit (.bool b)) := by
  cases h with | v _ y h => rw [h.bool_]
theorem RA.str_ {b : ByteArray} {y : AV} (h : RA U caps tips ctr (.v (.str b)) y) : y = .pv (.lit (.string b)) := by
  cases h with | v _ y h => rw [h.str_]
theorem RA.v_ {x : TV U.D} {y : AV} (h : RA U caps tips ctr (.v x) y) : ∃ p, y = .pv p ∧ RV U caps tips ctr x p := by
  cases h with | v _ y h => exact ⟨y, rfl, h⟩

theorem RA.ofInt (k : IntKind) (n : Int) : RA U caps tips ctr (.v (.int k n)) (.pv (.lit (.int k n))) := .v _ _ (.flat _ _ rfl rfl)
theorem RA.ofBool (b : Bool) : RA U caps tips ctr (.v (.bool b)) (.pv (.lit (.bool b))) := .v _ _ (.flat _ _ rfl rfl)
theorem RA.ofStr (b : ByteArray) : RA U caps tips ctr (.v (.str b)) (.pv (.lit (.string b))) := .v _ _ (.flat _ _ rfl rfl)

def PrOK (U : Uni) (caps : List (Nat × Nat)) (tips : Tips) (ctr : Nat) (p : Pr U.D) (o : Option AV) : Prop :=
  match p with
  | .pure a => ∃ y, o = some y ∧ RA U caps tips ctr a y
  | .int q k => ∀ z, q = some z → ∃ y, o = some y ∧ RA U caps tips ctr (k z) y
  | .str q k => ∀ z, q = some z → ∃ y, o = some y ∧ RA U caps tips ctr (k z) y
  | .elt _ q k => ∀ z, q = some z → ∃ y, o = some y ∧ RA U caps tips ctr (k z) y
  | .els _ q k => ∀ z, q = some z → ∃ y, o = some y ∧ RA U caps tips ctr (k z) y

theorem nthG_ok (hR : Rel U s st) {gs : List (Nat × Bool)} (hg : ∀ p ∈ gs, boolAt st p.1 = some p.2) (t : Nat) : RA U s.caps st.tips s.ctr (nthG gs s.tmps t) (st.tmps.getD t .bot) := by
  have main : ∀ (l : List (TM U.D)) (ys : List AV), ys.length = l.length → (∀ (i : Nat) x y, l[i]? = some x → ys[i]? = some y → RM U s.caps st.tips s.ctr (boolAt st) x y) → ∀ t, RA U s.caps st.tips s.ctr (nthG gs l t) (ys.getD t .bot) := by
    intro l
    induction l with
    | nil => intro ys _ _ t; cases t <;> exact .bot _
    | cons x r ih =>
      intro ys hl h t
      cases ys with
      | nil => simp at hl
      | cons y ys =>
        cases t with
        | zero =>
          have h0 := h 0 x y rfl rfl
          simp only [nthG, List.getD_cons_zero]
          cases h0 with
          | p a y h => exact h
          | may t w g a y h1 h2 h3 =>
            simp only
            cases hb : gs.any (fun p => Nat.beq p.1 t && (p.2 == w)) with
            | false => exact .bot _
            | true =>
              rw [List.any_eq_true] at hb
              obtain ⟨p, hp, hq⟩ := hb
              simp only [Bool.and_eq_true, beqN, beq_iff_eq] at hq
              have := hg p hp
              rw [hq.1, hq.2] at this
              exact h1 (h3.2 this)
        | succ t =>
          simp only [nthG, List.getD_cons_succ]
          exact ih ys (by simpa using hl) (fun i x y h1 h2 => h (i + 1) x y (by simpa using h1) (by simpa using h2)) t
  exact main _ _ hR.len hR.tmps t

theorem tconst_ok (v : Value) : RA U caps tips ctr (tconst v : TA U.D) (evl [] (.const v)) := by
  have lit : ∀ v : Value, v.oneCell' = true → RA U caps tips ctr (.v (.lit v)) (.pv (.lit v)) := fun v h => .v _ _ (.flat _ _ rfl rfl)
  unfold tconst evl
  split
  · exact .ofInt _ _
  · exact .ofBool _
  · exact .ofStr _
  · rename_i v h1 h2 h3
    generalize hv : Value.oneCell' _ = b
    cases b with
    | true => simp only [hv, if_true]; exact lit _ hv
    | false => exact .bot _

theorem tev_ok (hR : Rel U s st) {gs : List (Nat × Bool)} (hg : ∀ p ∈ gs, boolAt st p.1 = some p.2) (x : Operand) : RA U s.caps st.tips s.ctr (tev gs s.tmps x) (evl st.tmps x) := by
  cases x with
  | tmp t => exact nthG_ok hR hg t
  | const v => exact tconst_ok v
  | func f => exact .fn f [] [] rfl (by simp)
  | global g => exact .bot _

theorem tevT_ok (hT : TTOK U tab tt) (hc : 0 < ctr) {e : Operand → TA U.D} {e' : Operand → AV} (he : ∀ x, RA U caps tips ctr (e x) (e' x)) (t : TypeId) (x : Operand) : RA U caps tips ctr (tevT tt e t x) (evT tab e' t x) := by
  unfold tevT
  split
  · unfold evT
    simp only
    split
    · rename_i sz c b z h
      obtain ⟨j, h1, h2, h3, _⟩ := hT.row _ _ h
      rw [h1]
      obtain ⟨js, jb, jtd, jz⟩ := j
      cases jtd <;> simp [tkOK] at h3
      obtain ⟨je, h4, h5, h6, h7, h8⟩ := h3
      simp only [h4]
      refine .v _ _ (.own 0 0 c [] _ hc (by simp [PV.erase, PV.eraseL, h5]) fun _ => ⟨none, [], by rw [h5], fun _ => rfl, fun h => absurd rfl h⟩)
    · exact .bot _
  · rename_i hx
    have : evT tab e' t x = e' x := by
      unfold evT
      split
      · exact absurd rfl hx
      · rfl
    rw [this]
    exact he x

theorem tallv_ok : ∀ {l : List (TA U.D)} {ys : List AV} {cs : List (TV U.D)}, ys.length = l.length → (∀ (i : Nat) c y, l[i]? = some c → ys[i]? = some y → RA U caps tips ctr c y) → tallv l = some cs →
    ∃ ps, allPV ys = some ps ∧ ps.length = cs.length ∧ ∀ (i : Nat) c y, cs[i]? = some c → ps[i]? = some y → RV U caps tips ctr c y
  | [], ys, cs, hl, h, hc => by
    simp only [tallv, Option.some.injEq] at hc
    subst hc
    obtain rfl : ys = [] := List.eq_nil_of_length_eq_zero (by simpa using hl)
    exact ⟨[], rfl, rfl, by simp⟩
  | .v x :: l, ys, cs, hl, h, hc => by
    simp only [tallv] at hc
    cases ys with
    | nil => simp at hl
    | cons y ys =>
      cases hr : tallv l with
      | none => rw [hr] at hc; cases hc
      | some cs' =>
        rw [hr] at hc
        simp only [Option.some.injEq] at hc
        subst hc
        obtain ⟨p, rfl, hp⟩ := (h 0 _ y rfl rfl).v_
        obtain ⟨ps, h1, h2, h3⟩ := tallv_ok (ys := ys) (by simpa using hl) (fun i c y h1 h2 => h (i + 1) c y (by simpa using h1) (by simpa using h2)) hr
        refine ⟨p :: ps, by simp [allPV, h1], by simp [h2], ?_⟩
        intro i c y h1 h2
        cases i with
        | zero => simp at h1 h2; subst h1; subst h2; exact hp
        | succ i => exact h3 i c y (by simpa using h1) (by simpa using h2)
  | .bot :: _, _, _, _, _, hc => by simp [tallv] at hc
  | .undef :: _, _, _, _, _, hc => by simp [tallv] at hc
  | .box _ _ :: _, _, _, _, _, hc => by simp [tallv] at hc
  | .ro _ :: _, _, _, _, _, hc => by simp [tallv] at hc
  | .fn _ _ :: _, _, _, _, _, hc => by simp [tallv] at hc
  | .msl _ _ _ :: _, _, _, _, _, hc => by simp [tallv] at hc
  | .elt _ _ _ :: _, _, _, _, _, hc => by simp [tallv] at hc

theorem aggK {t : TypeId} {i : TT U.D} (hT : TTOK U tab tt) (h : tt t = some i) : ∃ j, tab t = some j ∧ j.size = i.size ∧ j.td.agg = i.k.agg := by
  obtain ⟨j, h1, h2, h3, _⟩ := hT.row t i h
  refine ⟨j, h1, h2, ?_⟩
  cases hk : i.k <;> cases hd : j.td <;> rw [hk, hd] at h3 <;> simp_all [tkOK, TD.agg, TK.agg]

theorem drop_take_pt {α β : Type} {R : α → β → Prop} {l : List α} {ys : List β} (h : ∀ (i : Nat) c y, l[i]? = some c → ys[i]? = some y → R c y) (n m : Nat) : ∀ (i : Nat) c y, ((l.drop n).take m)[i]? = some c → ((ys.drop n).take m)[i]? = some y → R c y := by
  intro i c y h1 h2
  rw [List.getElem?_take] at h1 h2
  split at h1
  · rename_i hi
    rw [if_pos hi] at h2
    rw [List.getElem?_drop] at h1 h2
    exact h _ c y h1 h2
  · cases h1

theorem take_pt {α β : Type} {R : α → β → Prop} {l : List α} {ys : List β} (h : ∀ (i : Nat) c y, l[i]? = some c → ys[i]? = some y → R c y) (m : Nat) : ∀ (i : Nat) c y, (l.take m)[i]? = some c → (ys.take m)[i]? = some y → R c y := by
  intro i c y h1 h2
  rw [List.getElem?_take] at h1 h2
  split at h1
  · rename_i hi
    rw [if_pos hi] at h2
    exact h _ c y h1 h2
  · cases h1

theorem drop_pt {α β : Type} {R : α → β → Prop} {l : List α} {ys : List β} (h : ∀ (i : Nat) c y, l[i]? = some c → ys[i]? = some y → R c y) (n : Nat) : ∀ (i : Nat) c y, (l.drop n)[i]? = some c → (ys.drop n)[i]? = some y → R c y := by
  intro i c y h1 h2
  rw [List.getElem?_drop] at h1 h2
  exact h _ c y h1 h2

theorem same_pt {α β : Type} {R : α → β → Prop} {l : List α} {ys : List β} (hl : ys.length = l.length) (h : ∀ (i : Nat) c y, l[i]? = some c → ys[i]? = some y → R c y) {n : Nat} {c : α} (hc : l[n]? = some c) : ∃ y, ys[n]? = some y ∧ R c y := by
  have hn := (List.getElem?_eq_some_iff.1 hc).1
  exact ⟨ys[n]'(by omega), List.getElem?_eq_getElem (by omega), h n c _ hc (List.getElem?_eq_getElem (by omega))⟩

theorem tload_ok (hR : Rel U s st) (hT : TTOK U tab tt) {t : TypeId} {i : TT U.D} (hi : tt t = some i) {p : TA U.D} {p' : AV} (hp : RA U s.caps st.tips s.ctr p p') {a : TA U.D} (h : tload i p s.boxes = some a) :
    ∃ j y, tab t = some j ∧ loadA j p' st.boxes = some y ∧ RA U s.caps st.tips s.ctr a y := by
  obtain ⟨j, h1, h2, h3⟩ := aggK hT hi
  refine ⟨j, ?_⟩
  unfold tload at h
  cases hp with
  | box b off =>
    simp only [lkT_eq] at h
    cases hb : lk b s.boxes with
    | none => simp [hb] at h
    | some bc =>
      obtain ⟨cs, h4, h5⟩ := hR.boxes b bc hb
      rw [hb] at h
      cases h5 with
      | arr c xs es he => simp at h
      | cells cs' _ hl hpt =>
        simp only at h
        cases ha : i.k.agg with
        | true =>
          rw [ha] at h
          simp only at h
          split at h
          · rename_i hle
            rw [Nat.ble_eq] at hle
            split at h
            · rename_i l hl2
              injection h with h; subst h
              obtain ⟨ps, g1, g2, g3⟩ := tallv_ok (ys := (cs.drop off).take i.size) (by simp [hl]) (drop_take_pt hpt off i.size) hl2
              refine ⟨.pv (.agg ps), h1, ?_, .v _ _ (.agg _ _ g2 g3)⟩
              simp only [loadA, h4, h3, ha, if_true, h2]
              rw [if_pos (by omega), g1]; rfl
            · cases h
          · cases h
        | false =>
          rw [ha] at h
          simp only [atL_eq] at h
          obtain ⟨y, g1, g2⟩ := same_pt hl hpt h
          refine ⟨y, h1, ?_, g2⟩
          simp only [loadA, h4, h3, ha]
          simpa using g1
  | ro cs ys hl hpt =>
    simp only at h
    cases ha : i.k.agg with
    | true =>
      rw [ha] at h
      simp only at h
      split at h
      · rename_i hle
        rw [Nat.ble_eq] at hle
        injection h with h; subst h
        refine ⟨.pv (.agg (ys.take i.size)), h1, ?_, .v _ _ (.agg _ _ (by simp [hl]) (take_pt hpt _))⟩
        simp only [loadA, h3, ha, if_true, h2]
        rw [if_pos (by omega)]
      · cases h
    | false =>
      rw [ha] at h
      simp only [atL_eq] at h
      split at h
      · rename_i x hx
        injection h with h; subst h
        obtain ⟨y, g1, g2⟩ := same_pt hl hpt hx
        refine ⟨.pv y, h1, ?_, .v _ _ g2⟩
        simp only [loadA, h3, ha]
        simp [g1]
      · cases h
  | _ => simp at h

theorem tadd_ok {n : Nat} {x a : TA U.D} {x' : AV} (hx : RA U caps tips ctr x x') (h : tadd n x = some a) : ∃ y, addA n x' = some y ∧ RA U caps tips ctr a y := by
  cases hx with
  | box b off => simp [tadd] at h; subst h; exact ⟨_, rfl, .box _ _⟩
  | ro cs ys hl hpt => simp [tadd] at h; subst h; exact ⟨_, rfl, .ro _ _ (by simp [hl]) (drop_pt hpt n)⟩
  | _ => simp [tadd] at h

theorem structK {t : TypeId} {n : Nat} {fs : List (Nat × TypeId)} {z : List (TV U.D)} (hT : TTOK U tab tt) (h : tt t = some ⟨n, .struct fs, z⟩) : ∃ b z', tab t = some ⟨n, b, .struct fs, z'⟩ ∧ z'.length = z.length ∧ z.length = n ∧ ∀ (n : Nat) x y, z[n]? = some x → z'[n]? = some y → ZV U x y := by
  obtain ⟨⟨js, jb, jtd, jz⟩, h1, h2, h3, h4, h5, h6⟩ := hT.row t _ h
  cases jtd <;> simp [tkOK] at h3
  simp only at h2
  subst h2; subst h3
  exact ⟨jb, jz, h1, h4, h5, h6⟩

theorem tpart_ok (hT : TTOK U tab tt) {t : TypeId} {cs : List (TV U.D)} {ys : List PV} {off : Nat} {a : TA U.D} (hl : ys.length = cs.length) (hpt : ∀ (i : Nat) c y, cs[i]? = some c → ys[i]? = some y → RV U caps tips ctr c y)
    (h : tpart tt t cs off = some a) : ∃ y, partA tab t ys off = some y ∧ RA U caps tips ctr a y := by
  unfold tpart at h
  split at h
  · rename_i i hi
    obtain ⟨j, h1, h2, h3⟩ := aggK hT hi
    cases ha : i.k.agg with
    | true =>
      rw [ha] at h
      simp only at h
      split at h
      · rename_i hle
        rw [Nat.ble_eq] at hle
        injection h with h; subst h
        refine ⟨.pv (.agg ((ys.drop off).take i.size)), ?_, .v _ _ (.agg _ _ (by simp [hl]) (drop_take_pt hpt _ _))⟩
        simp only [partA, h1, h3, ha, if_true, h2]
        rw [if_pos (by omega)]
      · cases h
    | false =>
      rw [ha] at h
      simp only [atL_eq] at h
      split at h
      · rename_i x hx
        injection h with h; subst h
        obtain ⟨y, g1, g2⟩ := same_pt hl hpt hx
        refine ⟨.pv y, ?_, .v _ _ g2⟩
        simp only [partA, h1, h3, ha]
        simp [g1]
      · cases h
  · cases h

theorem tfield_ok (hT : TTOK U tab tt) {t : TypeId} {x a : TA U.D} {x' : AV} {f : Nat} (hx : RA U caps tips ctr x x') (h : tfield tt t x f = some a) : ∃ y, fieldA tab t x' f = some y ∧ RA U caps tips ctr a y := by
  unfold tfield at h
  split at h
  · rename_i n fs z cs ht
    obtain ⟨p, rfl, hp⟩ := hx.v_
    obtain ⟨b, z', h1, _⟩ := structK hT ht
    cases hp with
    | flat _ _ hf _ => simp [TV.flat] at hf
    | agg _ ys hl hpt =>
      rw [atL_eq] at h
      split at h
      · rename_i off ft hf
        obtain ⟨y, g1, g2⟩ := tpart_ok hT hl hpt h
        refine ⟨y, ?_, g2⟩
        simp only [fieldA, h1, hf, g1]
      · cases h
  · cases h

theorem tfieldAddr_ok (hT : TTOK U tab tt) {t : TypeId} {x a : TA U.D} {x' : AV} {f : Nat} (hx : RA U caps tips ctr x x') (h : tfieldAddr tt t x f = some a) : ∃ y, fieldAddrA tab t x' f = some y ∧ RA U caps tips ctr a y := by
  unfold tfieldAddr at h
  split at h
  · rename_i n fs z ht
    obtain ⟨b, z', h1, _⟩ := structK hT ht
    rw [atL_eq] at h
    split at h
    · rename_i off ft hf
      obtain ⟨y, g1, g2⟩ := tadd_ok hx h
      refine ⟨y, ?_, g2⟩
      simp only [fieldAddrA, h1, hf, g1]
    · cases h
  · cases h

theorem RV.cells_ {x : TV U.D} {y : PV} (h : RV U caps tips ctr x y) (ht : ∀ vs, x ≠ .tup vs) : y.isTup = false ∧ y.cells.length = x.cells.length ∧ ∀ (i : Nat) c z, x.cells[i]? = some c → y.cells[i]? = some z → RV U caps tips ctr c z := by
  have one : ∀ (x : TV U.D) (y : PV), RV U caps tips ctr x y → x.cells = [x] → y.cells = [y] → y.isTup = false → y.isTup = false ∧ y.cells.length = x.cells.length ∧ ∀ (i : Nat) c z, x.cells[i]? = some c → y.cells[i]? = some z → RV U caps tips ctr c z := by
    intro x y h hx hy ht
    refine ⟨ht, by rw [hx, hy]; rfl, ?_⟩
    intro i c z h1 h2
    rw [hx] at h1; rw [hy] at h2
    cases i with
    | zero => simp at h1 h2; subst h1; subst h2; exact h
    | succ i => simp at h1
  cases h with
  | agg cs ys hl hpt => exact ⟨rfl, hl, hpt⟩
  | tup cs ys => exact absurd rfl (ht _)
  | flat _ _ hf h =>
    refine one x y (.flat _ _ hf h) ?_ ?_ ?_
    · cases x <;> first | rfl | simp [TV.flat] at hf
    · cases x <;> simp [TV.flat] at hf <;> cases y <;> simp_all [PV.erase, TV.pv, PV.cells]
    · cases x <;> simp [TV.flat] at hf <;> cases y <;> simp_all [PV.erase, TV.pv, PV.isTup]
  | own s ver c xs _ hv h hk =>
    refine one _ y (.own s ver c xs y hv h hk) rfl ?_ ?_
    · cases y <;> simp_all [PV.erase, PV.cells]
    · cases y <;> simp_all [PV.erase, PV.isTup]

theorem lay_pt {α β : Type} {R : α → β → Prop} {l vs : List α} {ys ws : List β} {off : Nat} (hl : ys.length = l.length) (h : ∀ (i : Nat) c y, l[i]? = some c → ys[i]? = some y → R c y)
    (hl2 : ws.length = vs.length) (h2 : ∀ (i : Nat) c y, vs[i]? = some c → ws[i]? = some y → R c y) (hle : off + vs.length ≤ l.length) :
    (lay ys off ws).length = (lay l off vs).length ∧ ∀ (i : Nat) c y, (lay l off vs)[i]? = some c → (lay ys off ws)[i]? = some y → R c y := by
  refine ⟨by simp [lay, hl, hl2], ?_⟩
  intro i c y h3 h4
  unfold lay at h3 h4
  have e1 : (l.take off).length = off := by simp; omega
  have e2 : (ys.take off).length = off := by simp; omega
  rw [List.append_assoc] at h3 h4
  by_cases hi : i < off
  · rw [List.getElem?_append_left (by omega)] at h3 h4
    rw [List.getElem?_take_of_lt hi] at h3 h4
    exact h i c y h3 h4
  · rw [List.getElem?_append_right (by omega)] at h3 h4
    rw [e1] at h3; rw [e2] at h4
    by_cases hj : i - off < vs.length
    · rw [List.getElem?_append_left (by omega)] at h3 h4
      exact h2 _ c y h3 h4
    · rw [List.getElem?_append_right (by omega)] at h3 h4
      rw [List.getElem?_drop] at h3 h4
      rw [hl2] at h4
      exact h _ c y h3 h4

theorem tfill_ok {place place' : Nat → Option (Nat × Nat)} (hp : ∀ i, place i = place' i) : ∀ {parts : List (Nat × TA U.D)} {parts' : List (Nat × AV)} {cs : List (TV U.D)} {ys : List PV} {r : List (TV U.D)},
    parts'.length = parts.length → (∀ (i : Nat) p q, parts[i]? = some p → parts'[i]? = some q → q.1 = p.1 ∧ RA U caps tips ctr p.2 q.2) →
    ys.length = cs.length → (∀ (i : Nat) c y, cs[i]? = some c → ys[i]? = some y → RV U caps tips ctr c y) → tfill place cs parts = some r →
    ∃ zs, fillV place' ys parts' = some zs ∧ zs.length = r.length ∧ ∀ (i : Nat) c y, r[i]? = some c → zs[i]? = some y → RV U caps tips ctr c y
  | [], parts', cs, ys, r, hl, h, hl2, h2, hr => by
    obtain rfl : parts' = [] := List.eq_nil_of_length_eq_zero (by simpa using hl)
    simp only [tfill, Option.some.injEq] at hr
    subst hr
    exact ⟨ys, rfl, hl2, h2⟩
  | (i, x) :: parts, [], cs, ys, r, hl, h, hl2, h2, hr => by simp at hl
  | (i, x) :: parts, (i', x') :: parts', cs, ys, r, hl, h, hl2, h2, hr => by
    obtain ⟨e, hx⟩ := h 0 _ _ rfl rfl
    simp only at e hx
    subst e
    have ht := fun j p q (h3 : parts[j]? = some p) (h4 : parts'[j]? = some q) => h (j + 1) p q (by simpa using h3) (by simpa using h4)
    have step : ∀ (off size : Nat) (v : TV U.D), place i' = some (off, size) → x = .v v → (∀ vs, v ≠ .tup vs) → (Nat.beq v.cells.length size && Nat.ble (off + size) cs.length) = true → tfill place (lay cs off v.cells) parts = some r →
        ∃ zs, fillV place' ys ((i', x') :: parts') = some zs ∧ zs.length = r.length ∧ ∀ (i : Nat) c y, r[i]? = some c → zs[i]? = some y → RV U caps tips ctr c y := by
      intro off size v hpl hxv hnt hb hf
      subst hxv
      obtain ⟨p, rfl, hp2⟩ := hx.v_
      obtain ⟨g1, g2, g3⟩ := hp2.cells_ hnt
      simp only [Bool.and_eq_true, beqN, Nat.ble_eq] at hb
      obtain ⟨k1, k2⟩ := lay_pt (off := off) hl2 h2 g2 g3 (by omega)
      obtain ⟨zs, z1, z2⟩ := tfill_ok hp (by simpa using hl) ht k1 k2 hf
      refine ⟨zs, ?_, z2⟩
      rw [hp] at hpl
      simp only [fillV, hpl]
      rw [if_pos ⟨g1, by omega, by omega⟩]
      exact z1
    unfold tfill at hr
    split at hr
    · rename_i off size l hpl
      split at hr
      · rename_i hb
        exact step off size (.agg l) hpl rfl (by simp) (by simpa [TV.cells] using hb) hr
      · cases hr
    · simp at hr
    · rename_i off size v hna hnt hpl
      split at hr
      · rename_i hb
        have hc : v.cells = [v] := by
          cases v <;> first | rfl | exact absurd rfl (hna _)
        refine step off size v hpl rfl (fun vs e => hnt vs (by rw [e])) (by rw [hc]; exact hb) ?_
        rw [hc]; exact hr
      · cases hr
    · simp at hr

end
end Go.Tx
