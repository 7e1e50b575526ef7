/- Typed execution, part 5: states are set; calls without boxes; guarded operations. -/
import Derived.Test.YtbbncbojkkackaaTxD
set_option linter.unusedVariables false
set_option linter.unusedSimpArgs false
namespace Go.Tx
open Go.Ax

section
variable {D : Nat → Type} {α : Type}

theorem whV_eq (x : TV D) (k : TV D → α) : whV x k = k x := by cases x <;> rfl
theorem whL_eq : ∀ (l : List (TV D)) (k : List (TV D) → α), whL l k = k l
  | [], k => rfl
  | x :: r, k => by simp only [whL, whV_eq, whL_eq r]
theorem whA_eq (a : TA D) (k : TA D → α) : whA a k = k a := by
  cases a with
  | v x => simp only [whA, whV_eq]; cases x <;> simp only [whL_eq]
  | ro cs => simp only [whA, whL_eq]
  | _ => rfl
theorem whAL_eq : ∀ (l : List (TA D)) (k : List (TA D) → α), whAL l k = k l
  | [], k => rfl
  | x :: r, k => by simp only [whAL, whA_eq, whAL_eq r]

theorem upsT_eq {β : Type} (i : Nat) (v : β) : ∀ (l : List (Nat × β)) (k : List (Nat × β) → α), upsT i v l k = k (ups i v l)
  | [], k => rfl
  | (j, x) :: r, k => by
    simp only [upsT, ups]
    by_cases h : i = j
    · subst h; simp
    · rw [beqN_false.2 h]
      simp only [if_neg h]
      exact upsT_eq i v r _

/-- What a list of temporaries is once one is set. -/
def setL (v : TM D) (d : Nat) : Option Nat → List (TM D) → List (TM D)
  | _, [] => []
  | some 0, _ :: r => v :: setL v d none r
  | some (n + 1), x :: r => killM d x :: setL v d (some n) r
  | none, x :: r => killM d x :: setL v d none r

theorem putL_eq (v : TM D) (d : Nat) : ∀ (l : List (TM D)) (o : Option Nat) (k : List (TM D) → α), putL v d o l k = k (setL v d o l)
  | [], o, k => by cases o <;> rfl
  | x :: r, none, k => by
    cases x with
    | p a => simp only [putL, setL, killM, putL_eq v d r]
    | may t w g a =>
      simp only [putL, setL, killM]
      cases Nat.beq t d <;> simp only [putL_eq v d r]
  | x :: r, some 0, k => by simp only [putL, setL, putL_eq v d r]
  | x :: r, some (n + 1), k => by
    cases x with
    | p a => simp only [putL, setL, killM, putL_eq v d r]
    | may t w g a =>
      simp only [putL, setL, killM]
      cases Nat.beq t d <;> simp only [putL_eq v d r]

theorem setL_len (v : TM D) (d : Nat) : ∀ (l : List (TM D)) (o : Option Nat), (setL v d o l).length = l.length
  | [], o => by cases o <;> rfl
  | x :: r, none => by simp [setL, setL_len v d r]
  | x :: r, some 0 => by simp [setL, setL_len v d r]
  | x :: r, some (n + 1) => by simp [setL, setL_len v d r]

theorem setL_at (v : TM D) (d : Nat) : ∀ (l : List (TM D)) (o : Option Nat) (i : Nat) (x' : TM D), (setL v d o l)[i]? = some x' → (o = some i ∧ x' = v) ∨ (o ≠ some i ∧ ∃ x, l[i]? = some x ∧ x' = killM d x)
  | [], o, i, x', h => by cases o <;> simp [setL] at h
  | x :: r, none, i, x', h => by
    cases i with
    | zero => simp [setL] at h; exact .inr ⟨by simp, x, rfl, h.symm⟩
    | succ i =>
      simp only [setL, List.getElem?_cons_succ] at h
      rcases setL_at v d r none i x' h with ⟨h1, _⟩ | ⟨_, x, h1, h2⟩
      · cases h1
      · exact .inr ⟨by simp, x, by simpa using h1, h2⟩
  | x :: r, some 0, i, x', h => by
    cases i with
    | zero => simp [setL] at h; exact .inl ⟨rfl, h.symm⟩
    | succ i =>
      simp only [setL, List.getElem?_cons_succ] at h
      rcases setL_at v d r none i x' h with ⟨h1, _⟩ | ⟨_, x, h1, h2⟩
      · cases h1
      · exact .inr ⟨by simp, x, by simpa using h1, h2⟩
  | x :: r, some (n + 1), i, x', h => by
    cases i with
    | zero => simp [setL] at h; exact .inr ⟨by simp, x, rfl, h.symm⟩
    | succ i =>
      simp only [setL, List.getElem?_cons_succ] at h
      rcases setL_at v d r (some n) i x' h with ⟨h1, h2⟩ | ⟨h0, x, h1, h2⟩
      · injection h1 with h1; subst h1; exact .inl ⟨rfl, h2⟩
      · exact .inr ⟨by simpa using h0, x, by simpa using h1, h2⟩
end

section
variable {U : Uni} {tab : Tab} {tt : TTab U.D} {s : TS U.D} {st : St} {R : Type}

def TS.set (s : TS U.D) (d : Option Tmp) (v : TM U.D) : TS U.D :=
  match d with
  | some d => { s with tmps := setL v d (some d) s.tmps }
  | none => s

theorem tput_eq {α : Type} (s : TS U.D) (d : Option Tmp) (v : TM U.D) (k : TS U.D → α) : tput s d v k = k (s.set d v) := by
  cases d with
  | none => rfl
  | some d => simp only [tput, putL_eq, TS.set]

theorem boolAt_put {d : Nat} {y : AV} {t : Nat} (h : t ≠ d) : boolAt (st.put (some d) y) t = boolAt st t := by
  unfold boolAt St.put
  simp only
  rw [List.getElem?_set_ne (Ne.symm h)]

/-- A temporary is set on both sides. -/
theorem Rel.set (hR : Rel U s st) {d : Option Tmp} {v : TM U.D} {y : AV} (hv : ∀ d', d = some d' → RM U s.caps st.tips s.ctr (boolAt (st.put d y)) v y) : Rel U (s.set d v) (st.put d y) := by
  cases d with
  | none => exact hR
  | some d =>
    refine { len := ?_, tmps := ?_, boxes := hR.boxes, dom := hR.dom, caps := hR.caps, ctr := hR.ctr }
    · simp [St.put, TS.set, setL_len, hR.len]
    · intro i x' y' hx hy
      simp only [TS.set] at hx
      have hy' : (st.tmps.set d y)[i]? = some y' := hy
      rcases setL_at v d s.tmps (some d) i x' hx with ⟨e, rfl⟩ | ⟨hne, x, h1, h2⟩
      · injection e with e; subst e
        rw [List.getElem?_set_self (by have := (List.getElem?_eq_some_iff.1 hy').1; simpa using this)] at hy'
        injection hy' with hy'; subst hy'
        exact hv d rfl
      · have hne' : d ≠ i := fun e => hne (by rw [e])
        rw [List.getElem?_set_ne hne'] at hy'
        have h3 := hR.tmps i x y' h1 hy'
        subst h2
        cases h3 with
        | p a y h => exact .p a _ h
        | may t w g a y q1 q2 q3 =>
          simp only [killM]
          cases hb : Nat.beq t d with
          | true => exact .p _ _ (.bot _)
          | false =>
            rw [beqN_false] at hb
            exact .may t w g a _ q1 q2 (by rw [boolAt_put hb]; exact q3)

theorem Rel.setP (hR : Rel U s st) {d : Option Tmp} {a : TA U.D} {y : AV} (ha : RA U s.caps st.tips s.ctr a y) : Rel U (s.set d (.p a)) (st.put d y) := hR.set fun _ _ => .p _ _ ha

/-- What a value reads as may be said with less. -/
def Wk (y x : AV) : Prop := ∀ (M : Mem) (ρ : Nat → Option Nat) (v : Value), RpA M ρ y v → RpA M ρ x v

def PtW (ys xs : List AV) : Prop := ys.length = xs.length ∧ ∀ (i : Nat) x y, xs[i]? = some x → ys[i]? = some y → Wk y x

theorem AC.weak {P : Program} {f : FuncId} {args args' : List AV} {exts exts' : List (List AV)} {Q : PV → List (List AV) → Prop} (h : AC P f args exts Q) (ha : PtW args' args)
    (hx : exts'.length = exts.length ∧ ∀ (j : Nat) cs cs', exts[j]? = some cs → exts'[j]? = some cs' → PtW cs' cs) : AC P f args' exts' Q := by
  refine ⟨h.1, fun M X w vs hA hE hl hargs => ?_⟩
  refine h.2 M X w vs hA ?_ (by rw [hl, ha.1]) ?_
  · refine ⟨by rw [hE.len, hx.1], hE.nodup, ?_⟩
    intro j cs b hj hb
    have hj' := (List.getElem?_eq_some_iff.1 hj).1
    have h1 : exts'[j]? = some (exts'[j]'(by omega)) := List.getElem?_eq_getElem (by omega)
    have hp := hx.2 j cs _ hj h1
    have hbx := hE.box j _ b h1 hb
    obtain ⟨⟨vs', T, g1, g2, g3⟩, g4, g5⟩ := hbx
    refine ⟨⟨vs', T, g1, by rw [g2, hp.1], ?_⟩, g4, g5⟩
    intro i c hc
    have hi := (List.getElem?_eq_some_iff.1 hc).1
    have h2 : (exts'[j]'(by omega))[i]? = some ((exts'[j]'(by omega))[i]'(by rw [hp.1]; exact hi)) := List.getElem?_eq_getElem _
    obtain ⟨g6, g7⟩ := g3 i _ h2
    exact ⟨hp.2 i c _ hc h2 _ _ _ g6, g7⟩
  · intro i x hi
    have hi' := (List.getElem?_eq_some_iff.1 hi).1
    have h1 : args'[i]? = some (args'[i]'(by rw [ha.1]; exact hi')) := List.getElem?_eq_getElem _
    exact ha.2 i x _ hi h1 _ _ _ (hargs i _ h1)

variable (U) in
mutual
def TA.av : TA U.D → AV
  | .bot => .bot
  | .undef => .undef
  | .v x => .pv (TV.pv U x)
  | .box i off => .box i off
  | .ro cs => .ro (TV.pvL U cs)
  | .fn f caps => .fn f (TA.avL caps)
  | .msl i c n => .msl i (U.sz c) n.toNat
  | .elt i c n => .box i (n.toNat * U.sz c)
def TA.avL : List (TA U.D) → List AV
  | [] => []
  | x :: r => TA.av x :: TA.avL r
end

theorem avL_eq (l : List (TA U.D)) : TA.avL U l = l.map (TA.av U) := by
  induction l with
  | nil => rfl
  | cons x r ih => simp [TA.avL, ih]

variable {caps : List (Nat × Nat)} {tips : Tips} {ctr : Nat}

theorem Wk.pv {x : TV U.D} {y : PV} {z : PV} (h : RV U caps tips ctr x y) (hz : z = TV.pv U x) : Wk (.pv y) (.pv z) := by
  intro M ρ v hv
  cases hv with
  | pv _ _ hv =>
    refine .pv _ _ ?_
    rw [hz, ← h.erase]
    exact hv.erase

theorem shed_pv (x : TV U.D) : TV.pv U (shed x) = TV.pv U x := by cases x <;> rfl
theorem shedL_pv (l : List (TV U.D)) : TV.pvL U (l.map shed) = TV.pvL U l := by
  rw [pvL_eq, pvL_eq, List.map_map]
  congr 1
  funext x
  exact shed_pv x

theorem dec0_pv (hU : U.Ok) {k : K0} {x : TV U.D} {z : den0 U k} (h : dec0 U k (.v x) = some z) : ∃ x', enc0 U k z = .v x' ∧ TV.pv U x' = TV.pv U x := by
  have lst : ∀ (c c' : Nat) (xs : List (U.D c')) (ys : List (U.D c)), castL c' c xs = some ys → TV.pv U (.sl c ys) = TV.pv U (.sl c' xs) := by
    intro c c' xs ys h
    obtain ⟨e, rfl⟩ := castL_some h
    subst e; rfl
  cases k <;> cases x <;> simp only [dec0, reduceCtorEq] at h
  case int.int k k' n =>
    split at h
    · rename_i e; subst e; injection h with h; subst h; exact ⟨_, rfl, rfl⟩
    · cases h
  case bool.bool => injection h with h; subst h; exact ⟨_, rfl, rfl⟩
  case str.str => injection h with h; subst h; exact ⟨_, rfl, rfl⟩
  case sl.sl => exact ⟨_, rfl, lst _ _ _ _ h⟩
  case sl.own => exact ⟨_, rfl, lst _ _ _ _ h⟩
  case own.own => exact ⟨_, rfl, lst _ _ _ _ h⟩
  case obj.agg =>
    refine ⟨_, rfl, ?_⟩
    have := hU.dec _ _ _ h
    simp only [TV.pv]
    rw [hU.enc, ← this, shedL_pv]

theorem dec0_wk (hU : U.Ok) {k : K0} {a : TA U.D} {z : den0 U k} {y : AV} (h : dec0 U k a = some z) (hy : RA U caps tips ctr a y) : Wk y (TA.av U (enc0 U k z)) ∧ (idsA a = [] → AV.noBox y = true) := by
  cases hy with
  | v x y hv =>
    obtain ⟨x', h1, h2⟩ := dec0_pv hU h
    rw [h1]
    exact ⟨Wk.pv hv h2, fun _ => rfl⟩
  | box i off =>
    cases k <;> simp only [dec0, reduceCtorEq] at h
    split at h
    · rename_i e
      obtain ⟨rfl, rfl⟩ := e
      exact ⟨fun _ _ _ h => h, fun h => by simp [idsA] at h⟩
    · cases h
  | msl i c n =>
    cases k <;> simp only [dec0, reduceCtorEq] at h
    split at h
    · rename_i e
      obtain ⟨rfl, rfl⟩ := e
      injection h with h; subst h
      exact ⟨fun _ _ _ h => h, fun h => by simp [idsA] at h⟩
    · cases h
  | _ => cases k <;> simp [dec0] at h

theorem decs0_wk (hU : U.Ok) : ∀ {ks : List K0} {as_ : List (TA U.D)} {z : dens0 U ks} {ys : List AV}, decs0 U ks as_ = some z → ys.length = as_.length → (∀ (i : Nat) c y, as_[i]? = some c → ys[i]? = some y → RA U caps tips ctr c y) →
    PtW ys ((encs0 U ks z).map (TA.av U)) ∧ (idsAL as_ = [] → AV.noBoxL ys = true)
  | [], [], z, ys, h, hl, hy => by
    obtain rfl : ys = [] := List.eq_nil_of_length_eq_zero (by simpa using hl)
    exact ⟨⟨rfl, by simp [encs0]⟩, fun _ => rfl⟩
  | k :: ks, a :: as_, z, ys, h, hl, hy => by
    simp only [decs0] at h
    split at h
    · rename_i x r h1 h2
      injection h with h; subst h
      cases ys with
      | nil => simp at hl
      | cons y ys =>
        have h3 := dec0_wk hU h1 (hy 0 a y rfl rfl)
        have h4 := decs0_wk hU (ys := ys) h2 (by simpa using hl) (fun i c y p q => hy (i + 1) c y (by simpa using p) (by simpa using q))
        refine ⟨⟨by simp [encs0, h4.1.1], ?_⟩, ?_⟩
        · intro i x' y' p q
          cases i with
          | zero => simp [encs0] at p q; subst p; subst q; exact h3.1
          | succ i => exact h4.1.2 i x' y' (by simpa [encs0] using p) (by simpa using q)
        · intro hid
          simp only [idsAL, List.append_eq_nil_iff] at hid
          simp [AV.noBoxL, h3.2 hid.1, h4.2 hid.2]
    · cases h
  | [], _ :: _, _, _, h, _, _ => by simp [decs0] at h
  | _ :: _, [], _, _, h, _, _ => by simp [decs0] at h

theorem Wk.fn {f : FuncId} {xs ys : List AV} (h : PtW ys xs) : Wk (.fn f ys) (.fn f xs) := by
  intro M ρ v hv
  cases hv with
  | fn _ _ vs hl hp =>
    refine .fn f xs vs (by rw [hl, h.1]) ?_
    intro i c v h1 h2
    have hi := (List.getElem?_eq_some_iff.1 h1).1
    have h3 : ys[i]? = some (ys[i]'(by rw [h.1]; exact hi)) := List.getElem?_eq_getElem _
    exact h.2 i c _ h1 h3 _ _ _ (hp i _ v h3 h2)

theorem decK_wk (hU : U.Ok) {k : Kd} {a : TA U.D} {z : den U k} {y : AV} (h : decK U k a = some z) (hy : RA U caps tips ctr a y) : Wk y (TA.av U (encK U k z)) ∧ (idsA a = [] → AV.noBox y = true) := by
  cases k with
  | s k => exact dec0_wk hU (k := k) (by simpa [decK] using h) hy
  | fn f cs =>
    cases hy with
    | fn f' as_ ys hl hp =>
      simp only [decK] at h
      split at h
      · rename_i e
        subst e
        have := decs0_wk hU h hl hp
        refine ⟨?_, fun hi => ?_⟩
        · simp only [encK, TA.av, avL_eq]
          exact Wk.fn this.1
        · simp only [idsA] at hi
          simp [AV.noBox, this.2 hi]
      · cases h
    | _ => simp [decK] at h

theorem decs_wk (hU : U.Ok) : ∀ {ks : List Kd} {as_ : List (TA U.D)} {z : dens U ks} {ys : List AV}, decs U ks as_ = some z → ys.length = as_.length → (∀ (i : Nat) c y, as_[i]? = some c → ys[i]? = some y → RA U caps tips ctr c y) →
    PtW ys ((encs U ks z).map (TA.av U)) ∧ (idsAL as_ = [] → AV.noBoxL ys = true)
  | [], [], z, ys, h, hl, hy => by
    obtain rfl : ys = [] := List.eq_nil_of_length_eq_zero (by simpa using hl)
    exact ⟨⟨rfl, by simp [encs]⟩, fun _ => rfl⟩
  | k :: ks, a :: as_, z, ys, h, hl, hy => by
    simp only [decs] at h
    split at h
    · rename_i x r h1 h2
      injection h with h; subst h
      cases ys with
      | nil => simp at hl
      | cons y ys =>
        have h3 := decK_wk hU h1 (hy 0 a y rfl rfl)
        have h4 := decs_wk hU (ys := ys) h2 (by simpa using hl) (fun i c y p q => hy (i + 1) c y (by simpa using p) (by simpa using q))
        refine ⟨⟨by simp [encs, h4.1.1], ?_⟩, ?_⟩
        · intro i x' y' p q
          cases i with
          | zero => simp [encs] at p q; subst p; subst q; exact h3.1
          | succ i => exact h4.1.2 i x' y' (by simpa [encs] using p) (by simpa using q)
        · intro hid
          simp only [idsAL, List.append_eq_nil_iff] at hid
          simp [AV.noBoxL, h3.2 hid.1, h4.2 hid.2]
    · cases h
  | [], _ :: _, _, _, h, _, _ => by simp [decs] at h
  | _ :: _, [], _, _, h, _, _ => by simp [decs] at h

def cleanK : K0 → Bool
  | .int _ | .bool | .str | .sl _ | .obj _ => true
  | _ => false

/-- A function's entry is true. -/
def EntP.Ok (P : Program) (e : EntP U) : Prop := e.rs.all cleanK = true ∧ ∀ a x, e.F a = some x → AC P e.f ((encs U e.ps a).map (TA.av U)) [] (fun r _ => r = TV.pv U (encR U e.rs x))

theorem tcallP_ok {P : Program} (hU : U.Ok) {g : FuncId} {as_ : List (TA U.D)} {ys : List AV} (hl : ys.length = as_.length) (hy : ∀ (i : Nat) c y, as_[i]? = some c → ys[i]? = some y → RA U caps tips ctr c y) :
    ∀ {l : List (EntP U)} {rs : List K0} {o : Option (denR U rs)}, (∀ e ∈ l, e.Ok P) → tcallP U g as_ l = some ⟨rs, o⟩ → (∀ x, o = some x → AC P g ys [] (fun r _ => r = TV.pv U (encR U rs x))) ∧ (idsAL as_ = [] → AV.noBoxL ys = true) ∧ rs.all cleanK = true
  | [], rs, o, hE, h => by simp [tcallP] at h
  | e :: r, rs, o, hE, h => by
    have hr : ∀ e ∈ r, e.Ok P := fun e he => hE e (List.mem_cons_of_mem _ he)
    simp only [tcallP] at h
    split at h
    · rename_i hg
      rw [beqN] at hg
      split at h
      · rename_i a ha
        injection h with h
        injection h with h1 h2
        subst h1
        have := eq_of_heq h2
        subst this
        have hw := decs_wk hU ha hl hy
        refine ⟨fun x hx => ?_, hw.2, (hE e (List.mem_cons_self)).1⟩
        have := (hE e (List.mem_cons_self)).2 a x hx
        rw [hg] at this
        exact AC.weak this hw.1 ⟨rfl, by simp⟩
      · exact tcallP_ok hU hl hy hr h
    · exact tcallP_ok hU hl hy hr h

theorem notOwn (x : TV U.D) : ∀ s ob sz es, TV.pv U x ≠ .own s ob sz es := by
  intro s ob sz es h
  cases x <;> simp [TV.pv] at h


end
end Go.Tx
