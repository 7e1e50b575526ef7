/- Typed execution, part 6: operations without boxes, guarded or not. -/
import Derived.Test.YtbbncbojkkackaaTxE
set_option linter.unusedVariables false
set_option linter.unusedSimpArgs false
namespace Go.Tx
open Go.Ax

section
variable {U : Uni} {tab : Tab} {s : TS U.D} {st : St} {R : Type} {caps : List (Nat × Nat)} {tips : Tips} {ctr : Nat}

theorem enc_flat_rv (hU : U.Ok) {c : Nat} {x : U.D c} : ∀ (i : Nat) v y, (U.enc c x)[i]? = some v → (TV.pvL U (U.enc c x))[i]? = some y → RV U caps tips ctr v y := by
  intro i v y hv hy
  rw [hU.enc] at hy
  exact (cells_of hU (hU.erase c x)).2.2 i v y hv hy

theorem pvL_len (l : List (TV U.D)) : (TV.pvL U l).length = l.length := by rw [pvL_eq, List.length_map]

theorem eraseL_map_pv (hU : U.Ok) {c : Nat} (xs : List (U.D c)) : PV.eraseL (xs.map (U.pv c)) = xs.map (U.pv c) := by
  rw [PV.eraseL_eq, List.map_map]
  congr 1
  funext x
  exact hU.erase c x

theorem enc0_rv (hU : U.Ok) {k : K0} (hk : cleanK k = true) (x : den0 U k) : RV U caps tips ctr (vOf (enc0 U k x)) (TV.pv U (vOf (enc0 U k x))) := by
  cases k <;> simp [cleanK] at hk
  · exact .flat _ _ rfl rfl
  · exact .flat _ _ rfl rfl
  · exact .flat _ _ rfl rfl
  · exact .flat _ _ rfl (by simp only [enc0, vOf, TV.pv, PV.erase, eraseL_map_pv hU])
  · exact .agg _ _ (pvL_len _) (enc_flat_rv hU)

theorem encs0_rv (hU : U.Ok) : ∀ {ks : List K0} (hk : ks.all cleanK = true) (x : dens0 U ks) (i : Nat) v y, ((encs0 U ks x).map vOf)[i]? = some v → (TV.pvL U ((encs0 U ks x).map vOf))[i]? = some y → RV U caps tips ctr v y
  | [], _, _, i, v, y, h1, _ => by simp [encs0] at h1
  | k :: ks, hk, (x, r), i, v, y, h1, h2 => by
    simp only [List.all_cons, Bool.and_eq_true] at hk
    cases i with
    | zero => simp [encs0, TV.pvL] at h1 h2; subst h1; subst h2; exact enc0_rv hU hk.1 x
    | succ i =>
      simp only [encs0, List.map_cons, TV.pvL, List.getElem?_cons_succ] at h1 h2
      exact encs0_rv hU hk.2 r i v y h1 h2

theorem encR_rv (hU : U.Ok) {rs : List K0} (hk : rs.all cleanK = true) (x : denR U rs) : RV U caps tips ctr (encR U rs x) (TV.pv U (encR U rs x)) := by
  match rs, hk, x with
  | [k], hk, x => exact enc0_rv hU (by simpa using hk) x
  | [], hk, x => exact .tup _ _ rfl (by simp)
  | k :: l :: ks, hk, x => exact .tup _ _ (pvL_len _) (encs0_rv hU hk x)

theorem pv_erase_canon {v : TV U.D} {y : PV} (h : RV U caps tips ctr v (TV.pv U v)) : (TV.pv U v).blks = [] := by
  rw [← h.erase]
  exact PV.blks_erase _

structure EnvOk (P : Program) (U : Uni) (tab : Tab) (E : Env U R) : Prop where
  uni : U.Ok
  tt : TTOK U tab E.tt
  ep : ∀ e ∈ E.ep, e.Ok P

/-- What the rest of the execution asks of an abstract state. -/
def Kr (U : Uni) (K : TS U.D → Option R) (r : R) (st' : St) : Prop := ∃ s', Rel U s' st' ∧ K s' = some r

theorem targs_ok {P : Program} {E : Env U R} (hE : EnvOk P U tab E) (hc : 0 < ctr) {e : Operand → TA U.D} {e' : Operand → AV} (he : ∀ x, RA U caps tips ctr (e x) (e' x)) (f : Operand) (args : Array Operand) (argTypes : Array TypeId) :
    (argsT tab e' { callee := .value f, args, argTypes }).length = (targs U E.tt e args argTypes).length ∧
    ∀ (i : Nat) c y, (targs U E.tt e args argTypes)[i]? = some c → (argsT tab e' { callee := .value f, args, argTypes })[i]? = some y → RA U caps tips ctr c y := by
  unfold targs argsT
  refine ⟨by simp, ?_⟩
  intro i c y h1 h2
  rw [List.getElem?_map, Option.map_eq_some_iff] at h1 h2
  obtain ⟨p, hp, rfl⟩ := h1
  obtain ⟨q, hq, rfl⟩ := h2
  have hp' : (args.toList.zip argTypes.toList)[i]? = some p := hp
  have hq' : (args.toList.zip argTypes.toList)[i]? = some q := hq
  rw [hp'] at hq'; injection hq' with hq'; subst hq'
  exact tevT_ok hE.tt hc he _ _

theorem append_pt {α β : Type} {R : α → β → Prop} {l l2 : List α} {ys ys2 : List β} (hl : ys.length = l.length) (h : ∀ (i : Nat) c y, l[i]? = some c → ys[i]? = some y → R c y)
    (hl2 : ys2.length = l2.length) (h2 : ∀ (i : Nat) c y, l2[i]? = some c → ys2[i]? = some y → R c y) :
    (ys ++ ys2).length = (l ++ l2).length ∧ ∀ (i : Nat) c y, (l ++ l2)[i]? = some c → (ys ++ ys2)[i]? = some y → R c y := by
  refine ⟨by simp [hl, hl2], ?_⟩
  intro i c y h3 h4
  by_cases hi : i < l.length
  · rw [List.getElem?_append_left (by omega)] at h3 h4
    exact h i c y h3 h4
  · rw [List.getElem?_append_right (by omega)] at h3 h4
    rw [hl] at h4
    exact h2 _ c y h3 h4

theorem gd_some {α : Type} {g : Bool} {o : Option α} {d x : α} (h : gd g o d = some x) : (g = true → o = some x) := by
  intro hg
  subst hg
  exact h

theorem Rel.noU (hR : Rel U s st) (U' : Nat → Prop) : Rel U s { st with U := U' } := ⟨hR.len, hR.tmps, hR.boxes, hR.dom, hR.caps, hR.ctr⟩

/-- A call that is made. -/
theorem tcall_ok {P : Program} {E : Env U R} (hE : EnvOk P U tab E) (hR : Rel U s st) {g : Option Bool} {e : Operand → TA U.D} (he : ∀ x, RA U s.caps st.tips s.ctr (e x) (evl st.tmps x)) {o : Oper} {f : Operand} {args : Array Operand} {argTypes : Array TypeId}
    (ho : o.op = .call { callee := .value f, args, argTypes }) {K : TA U.D → Option R} {r : R} (h : tcall U E g e f args argTypes K = some r) (hg : g = none ∨ g = some true) {K' : St → Prop}
    (hK : ∀ a y st', K a = some r → RA U s.caps st.tips s.ctr a y → Rel U s st' → st'.tmps = st.tmps → st'.tips = st.tips → K' (st'.put o.dst y)) :
    cls o = .n ∧ neff P tab o (evl st.tmps) st.tips st.U (fun v tips U => K' (({ st with tips := tips, U := U } : St).put o.dst v)) := by
  refine ⟨by unfold cls; rw [ho], ?_⟩
  unfold tcall at h
  split at h
  · rename_i h0 caps' hsz hf
    split at h
    · rename_i rs q hids hcall
      have hfr := he f
      rw [hf] at hfr
      unfold neff
      simp only [ho]
      refine ⟨?_, ?_⟩
      · unfold sizesEq at hsz
        rw [beqN] at hsz
        simpa using hsz
      unfold callK
      generalize hfy : evl st.tmps f = fy at hfr ⊢
      cases hfr with
      | fn _ _ ys hl hp =>
        obtain ⟨a1, a2⟩ := targs_ok hE hR.ctr he f args argTypes
        obtain ⟨b1, b2⟩ := append_pt a1 a2 hl hp
        obtain ⟨c1, c2, c3⟩ := tcallP_ok hE.uni b1 b2 hE.ep hcall
        have main : ∀ x, q = some x → K (.v (encR U rs x)) = some r → AV.noBoxL (argsT tab (evl st.tmps) { callee := .value f, args, argTypes } ++ ys) = true ∧ ∃ Q, AC P h0 (argsT tab (evl st.tmps) { callee := .value f, args, argTypes } ++ ys) [] Q ∧
            ∀ r x, Q r x → (∀ b ∈ r.blks, ¬ st.U b) → K' (({ st with tips := regT o.dst r st.tips, U := fun b => st.U b ∨ b ∈ r.blks } : St).put o.dst (.pv (regP o.dst r))) := by
          intro x hx hk
          refine ⟨c2 hids, _, c1 x hx, ?_⟩
          rintro r' _ rfl _
          have hrv := encR_rv (caps := s.caps) (tips := st.tips) (ctr := s.ctr) hE.uni c3 x
          have e1 : regP o.dst (TV.pv U (encR U rs x)) = TV.pv U (encR U rs x) := by
            unfold regP
            split
            · rename_i heq; exact absurd heq (notOwn _ _ _ _ _)
            · rfl
          have e2 : regT o.dst (TV.pv U (encR U rs x)) st.tips = st.tips := by
            unfold regT
            split
            · rename_i heq; exact absurd heq (notOwn _ _ _ _ _)
            · rfl
          rw [e1, e2]
          exact hK _ _ _ hk (.v _ _ hrv) (hR.noU _) rfl rfl
        cases g with
        | none =>
          simp only at h
          rw [Option.bind_eq_some_iff] at h
          obtain ⟨x, hx, hk⟩ := h
          exact main x hx hk
        | some g =>
          simp only at h
          rw [Option.bind_eq_some_iff] at h
          obtain ⟨x, hx, hk⟩ := h
          rcases hg with hg | hg
          · cases hg
          · injection hg with hg
            exact main x (gd_some hx hg) hk
    · cases h
  · cases h

theorem prG_ok {g : Bool} {p : Pr U.D} {K : TA U.D → Option R} {r : R} {o : Option AV} (h : prG U g p K = some r) (hp : g = true → PrOK U caps tips ctr p o) : ∃ a, K a = some r ∧ (g = true → ∃ y, o = some y ∧ RA U caps tips ctr a y) := by
  cases p with
  | pure a => exact ⟨a, h, hp⟩
  | int q k =>
    simp only [prG, Option.bind_eq_some_iff] at h
    obtain ⟨z, hz, hk⟩ := h
    exact ⟨_, hk, fun hg => hp hg z (gd_some hz hg)⟩
  | str q k =>
    simp only [prG, Option.bind_eq_some_iff] at h
    obtain ⟨z, hz, hk⟩ := h
    exact ⟨_, hk, fun hg => hp hg z (gd_some hz hg)⟩
  | elt c q k =>
    simp only [prG, Option.bind_eq_some_iff] at h
    obtain ⟨z, hz, hk⟩ := h
    exact ⟨_, hk, fun hg => hp hg z (gd_some hz hg)⟩
  | els c q k =>
    simp only [prG, Option.bind_eq_some_iff] at h
    obtain ⟨z, hz, hk⟩ := h
    exact ⟨_, hk, fun hg => hp hg z (gd_some hz hg)⟩

theorem prK_ok {p : Pr U.D} {K : TA U.D → Option R} {r : R} {o : Option AV} (h : prK U p K = some r) (hp : PrOK U caps tips ctr p o) : ∃ a y, K a = some r ∧ o = some y ∧ RA U caps tips ctr a y := by
  cases p with
  | pure a => obtain ⟨y, h1, h2⟩ := hp; exact ⟨a, y, h, h1, h2⟩
  | _ =>
    simp only [prK, Option.bind_eq_some_iff] at h
    obtain ⟨z, hz, hk⟩ := h
    obtain ⟨y, h1, h2⟩ := hp z hz
    exact ⟨_, y, hk, h1, h2⟩

theorem cls_d {o : Oper} {tt : TTab U.D} {gs : List (Nat × Bool)} {tm : List (TM U.D)} {bx : List (Nat × BC U.D)} {p : Pr U.D} (hc : tcls o = .d) (h : tdv U tt o (fun g => tev (g ++ gs) tm) bx = some p) : cls o = .d := by
  obtain ⟨od, oop, oty, opos, oaf, og⟩ := o
  cases oop <;> first | rfl | (simp [tcls] at hc; done) | skip
  case binOp op t x y yt =>
    cases op <;> first | rfl | skip
    all_goals
      unfold cls
      simp only
      split
      · rename_i hn
        exfalso
        unfold isNilC at hn
        split at hn
        · simp only [tdv] at h
          have : tev ([] ++ gs) tm (.const (.slice none 0 0)) = (.v (.lit (.slice none 0 0)) : TA U.D) := rfl
          rw [this] at h
          unfold tbin at h
          split at h <;> simp_all
        · cases hn
      · rfl
  case call c =>
    obtain ⟨cal, args, argTypes⟩ := c
    cases cal with
    | builtin b => cases b <;> first | rfl | (simp [tcls] at hc; done)
    | _ => simp [tcls] at hc

theorem want_p {ops : Array Oper} {o : Oper} {j t : Nat} {w : Bool} {oj : Oper} (hg : o.guard = some (j, w)) (hj : ops[j]? = some oj) (hd : oj.dst = some t) : want ops o st = match st.tmps[t]? with
    | some (.pv (.lit (.bool b))) => some (b == w)
    | some .undef => some false
    | _ => none := by
  unfold want
  simp only [hg, hj, Option.bind_some, hd]
  rfl

theorem rawM_at : ∀ {l : List (TM U.D)} {t : Nat} {x : TM U.D}, rawM l t = x → (∀ a, x = .p a → a ≠ .bot) → l[t]? = some x
  | [], t, x, h, hx => by
    cases t <;> (simp only [rawM] at h; exact absurd rfl (hx .bot h.symm))
  | y :: r, 0, x, h, hx => by simp only [rawM] at h; simp [h]
  | y :: r, t + 1, x, h, hx => by
    simp only [rawM] at h
    simpa using rawM_at h hx

/-- One operation under a guard. -/
theorem top1_ok {P : Program} {E : Env U R} (hE : EnvOk P U tab E) (hR : Rel U s st) {ops : Array Oper} {o : Oper} {t : Nat} {w g : Bool} {K : TS U.D → Option R} {r : R} (h : top1 U E t w g o s K = some r)
    (hB : g = true ↔ boolAt st t = some w) (hw : want ops o st = some g) (op : (St → Prop) → St → Prop)
    (hop : ∀ K' : St → Prop, (cls o = .d ∧ bindK (dval tab o (evl st.tmps) st.boxes) fun v => K' (st.put o.dst v)) ∨ (cls o = .n ∧ neff P tab o (evl st.tmps) st.tips st.U (fun v tips U => K' (({ st with tips := tips, U := U } : St).put o.dst v))) → op K' st) :
    guarded ops o op (Kr U K r) st := by
  unfold guarded
  rw [hw]
  simp only [bindK]
  unfold top1 at h
  split at h
  · cases h
  rename_i hdst
  -- the value that is kept, either way
  have put : ∀ (a : TA U.D) (y : AV) (st' : St), (g = true → RA U s.caps st'.tips s.ctr a y) → (g = false → y = .undef) → Rel U s st' → st'.tmps = st.tmps → K (s.set o.dst (.may t w g a)) = some r → Kr U K r (st'.put o.dst y) := by
    intro a y st' h1 h2 hR' ht hk
    refine ⟨_, hR'.set fun d hd => ?_, hk⟩
    refine .may t w g a y h1 h2 ?_
    rw [hd, boolAt_put]
    · rw [hB]
      unfold boolAt
      rw [ht]
    · intro e
      rw [hd] at hdst
      simp only [isDst, beqN_false] at hdst
      exact hdst e
  split at h
  · rename_i hc
    split at h
    · rename_i p hp
      obtain ⟨a, hk, hy⟩ := prG_ok (o := dval tab o (evl st.tmps) st.boxes) h fun hg => tdv_ok hE.uni hE.tt hR (ge := fun gs => tev ((t, w) :: gs) s.tmps) (fun gs x hgs => tev_ok hR (by
        intro p hp
        rcases List.mem_cons.1 hp with rfl | hp
        · exact hB.1 hg
        · exact hgs p hp) x) hp
      rw [whA_eq, tput_eq] at hk
      have hcd : cls o = .d := by
        obtain ⟨od, oop, oty, opos, oaf, og⟩ := o
        cases oop <;> first | rfl | (simp [tcls] at hc; done) | skip
        case binOp op t x y yt =>
          cases op <;> first | rfl | skip
          all_goals
            unfold cls
            simp only
            split
            · rename_i hn
              exfalso
              unfold isNilC at hn
              split at hn
              · simp only [tdv] at hp
                rename_i t0
                have : ∀ gs, tev gs s.tmps (.const (.slice none 0 0)) = (.v (.lit (.slice none 0 0)) : TA U.D) := fun _ => rfl
                rw [this] at hp
                unfold tbin at hp
                split at hp <;> simp_all
              · cases hn
            · rfl
        case call c =>
          obtain ⟨cal, args, argTypes⟩ := c
          cases cal with
          | builtin b => cases b <;> first | rfl | (simp [tcls] at hc; done)
          | _ => simp [tcls] at hc
      cases hgb : g with
      | false => exact put a .undef st (by intro q; rw [hgb] at q; cases q) (fun _ => rfl) hR rfl hk
      | true =>
        obtain ⟨y, h1, h2⟩ := hy hgb
        refine hop _ (.inl ⟨hcd, ?_⟩)
        rw [h1]
        exact put a y st (fun _ => h2) (by intro q; rw [hgb] at q; cases q) hR rfl hk
    · cases h
  · split at h
    · rename_i f args argTypes hop2
      cases hgb : g with
      | false =>
        -- nothing is called
        unfold tcall at h
        split at h
        · split at h
          · rw [hgb] at h
            simp only at h
            rw [Option.bind_eq_some_iff] at h
            obtain ⟨x, _, hk⟩ := h
            rw [whA_eq, tput_eq] at hk
            exact put _ .undef st (by intro q; rw [hgb] at q; cases q) (fun _ => rfl) hR rfl (by rw [hgb]; exact hk)
          · cases h
        · cases h
      | true =>
        refine hop _ (.inr ?_)
        refine tcall_ok hE hR (g := some g) (e := tev [(t, w)] s.tmps) (fun x => tev_ok hR (by
          intro p hp
          rw [List.mem_singleton] at hp; subst hp
          exact hB.1 hgb) x) hop2 h (.inr (by rw [hgb])) ?_
        intro a y st' hk ha hR' ht htip
        rw [whA_eq, tput_eq] at hk
        exact put a y st' (fun _ => by rw [htip]; exact ha) (by intro q; rw [hgb] at q; cases q) hR' ht (by first | exact hk | (rw [hgb]; exact hk) | (rw [hgb] at hk; exact hk))
    · cases h
  · cases h

theorem cls_d0 {o : Oper} {tt : TTab U.D} {tm : List (TM U.D)} {bx : List (Nat × BC U.D)} {p : Pr U.D} (hc : tcls o = .d) (h : tdv U tt o (fun g => tev g tm) bx = some p) : cls o = .d := by
  refine cls_d (gs := []) hc (p := p) (tt := tt) (tm := tm) (bx := bx) ?_
  simpa using h

/-- One operation without a guard that computes, or calls without boxes. -/
theorem top0_dc {P : Program} {E : Env U R} (hE : EnvOk P U tab E) (hR : Rel U s st) {o : Oper} {drawn : Bool} {K : TS U.D → Option R} {r : R} (h : top0 U E drawn o s K = some r)
    (hc : tcls o = .d ∨ (tcls o = .c ∧ lends U E o s = false)) : (cls o = .d ∧ bindK (dval tab o (evl st.tmps) st.boxes) fun v => Kr U K r (st.put o.dst v)) ∨
      (cls o = .n ∧ neff P tab o (evl st.tmps) st.tips st.U (fun v tips U' => Kr U K r (({ st with tips := tips, U := U' } : St).put o.dst v))) := by
  have he : ∀ x, RA U s.caps st.tips s.ctr (tev [] s.tmps x) (evl st.tmps x) := fun x => tev_ok hR (by simp) x
  unfold top0 at h
  rcases hc with hc | ⟨hc, hl⟩
  · rw [hc] at h
    simp only at h
    split at h
    · rename_i p hp
      obtain ⟨a, y, hk, hy, ha⟩ := prK_ok h (tdv_ok hE.uni hE.tt hR (ge := fun gs => tev gs s.tmps) (fun gs x hgs => tev_ok hR hgs x) hp)
      rw [whA_eq, tput_eq] at hk
      refine .inl ⟨cls_d0 hc hp, ?_⟩
      rw [hy]
      exact ⟨_, hR.setP ha, hk⟩
    · cases h
  · rw [hc] at h
    simp only [hl] at h
    split at h
    · rename_i f args argTypes ho
      refine .inr (tcall_ok hE hR he ho h (.inl rfl) ?_)
      intro a y st' hk ha hR' ht htip
      rw [whA_eq, tput_eq] at hk
      exact ⟨_, hR'.setP (by rw [htip]; exact ha), hk⟩
    · cases h

end
end Go.Tx
