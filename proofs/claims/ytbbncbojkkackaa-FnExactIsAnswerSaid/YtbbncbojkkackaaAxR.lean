/- The abstract layer, part 18: a function's contract out of its body. -/
import Derived.Test.YtbbncbojkkackaaAxQ
set_option linter.unusedSimpArgs false
namespace Go.Ax
section
variable {P : Program} {tab : Tab} {X : List Nat} {M0 : Mem} {w0 : World} {M : Mem} {ρ : Nat → Option Nat} {st : St} {a : Act} {w : World}

def readVar (tmps : Array Value) : ResultVar → Sem Value
  | .tmp t => pure (tmps.getD t undef)
  | .cell a t => do loadVar t (← asAddr (tmps.getD a undef))

theorem results_eq (fn : Func) (tmps : Array Value) : results fn tmps = (do let vs ← fn.results.mapM (readVar tmps); pure (if h : vs.size = 1 then vs[0] else .tuple vs)) := by
  unfold results
  congr 1

theorem resA_sound (hT : TabOK P tab) (h : Inv X M0 w0 M ρ st a w) {rv : ResultVar} {x : AV} (hx : resA tab st rv = some x) : ∃ u, (readVar a.tmps rv).run P w = .ok u w ∧ RpA M ρ x u := by
  unfold resA at hx
  unfold readVar
  split at hx
  · exact ⟨_, rfl, h.tmps _ _ hx⟩
  · rename_i a' t
    split at hx
    · rename_i i ht
      cases hp : st.tmps[a']? with
      | none => simp [hp] at hx
      | some p =>
        simp only [hp, Option.bind_eq_bind, Option.bind_some] at hx
        have hR := h.tmps _ _ hp
        obtain ⟨u, hu, hr⟩ := run_loadAt h.agree h.boxesOK (hT t i ht) hR hx
        refine ⟨u, ?_, hr⟩
        have hptr : ∃ ad, a.tmps.getD a' undef = .pointer (some ad) := by
          generalize a.tmps.getD a' undef = v at hR
          cases hR <;> simp [loadA] at hx <;> exact ⟨_, rfl⟩
        obtain ⟨ad, had⟩ := hptr
        show ((do loadVar t (← asAddr (a.tmps.getD a' undef))) : Sem Value).run P w = _
        rw [had] at hu ⊢
        exact hu
    · cases hx

theorem resL_sound (hT : TabOK P tab) (h : Inv X M0 w0 M ρ st a w) : ∀ {rvs : List ResultVar} {xs : List AV}, rvs.mapM (resA tab st) = some xs →
    ∃ us, (rvs.mapM (readVar a.tmps)).run P w = .ok us w ∧ us.length = rvs.length ∧ us.length = xs.length ∧ ∀ (i : Nat) x u, xs[i]? = some x → us[i]? = some u → RpA M ρ x u
  | [], xs, hx => by
    simp at hx; subst hx
    exact ⟨[], by simp, rfl, rfl, by simp⟩
  | rv :: rvs, xs, hx => by
    rw [List.mapM_cons] at hx
    simp only [Option.bind_eq_bind, Option.bind_eq_some_iff] at hx
    obtain ⟨x, hx1, ys, hx2, hx3⟩ := hx
    simp at hx3; subst hx3
    obtain ⟨u, hu, hr⟩ := resA_sound hT h hx1
    obtain ⟨us, hus, hl1, hl2, hrs⟩ := resL_sound hT h hx2
    refine ⟨u :: us, ?_, by simp [hl1], by simp [hl2], ?_⟩
    · rw [List.mapM_cons, bind_run hu, bind_run hus]; rfl
    · intro i y v hy hv
      cases i with
      | zero => simp at hy hv; subst hy; subst hv; exact hr
      | succ i => exact hrs i y v (by simpa using hy) (by simpa using hv)

def resVal : List Value → Value
  | [u] => u
  | us => .tuple us.toArray

theorem results_run {fn : Func} {us : List Value} (h : (fn.results.toList.mapM (readVar a.tmps)).run P w = .ok us w) :
    (results fn a.tmps).run P w = .ok (resVal us) w := by
  rw [results_eq, Sem.run_bind, Array.mapM_eq_mapM_toList, Sem.run_map, h]
  simp only [Result.andThen_ok, Sem.run_pure]
  congr 1
  match us with
  | [] => rfl
  | [u] => rfl
  | u :: v :: r => simp [resVal]

theorem extsOf_some : ∀ (n k : Nat) (st : St) (xs : List (List AV)), ((List.range' k n).foldr (fun j acc => match lk (1000 + j) st.boxes, acc with | some cs, some l => some (cs :: l) | _, _ => none) (some [])) = some xs →
    xs.length = n ∧ ∀ (j : Nat) cs, xs[j]? = some cs → lk (1000 + (k + j)) st.boxes = some cs
  | 0, k, st, xs, h => by simp at h; subst h; simp
  | n + 1, k, st, xs, h => by
    rw [List.range'_succ, List.foldr_cons] at h
    split at h
    · rename_i cs l h1 h2
      injection h with h; subst h
      obtain ⟨g1, g2⟩ := extsOf_some n (k + 1) st l h2
      refine ⟨by simp [g1], ?_⟩
      intro j c hj
      cases j with
      | zero => simp at hj; subst hj; exact h1
      | succ j =>
        have := g2 j c (by simpa using hj)
        rwa [show k + 1 + j = k + (j + 1) by omega] at this
    · cases h

/-- What lies at the end of a call, but for the result. -/
theorem Inv.post (h : Inv X M0 w0 M ρ st a w) {Q : PV → List (List AV) → Prop} {r : PV} {v : Value} {xs : List (List AV)} (hX : X.Nodup) (hx : extsOf X.length st = some xs) (hnb : ∀ l ∈ xs, AV.noBoxL l = true) (hq : Q r xs) (hrp : Rp M r v) (hfresh : ∀ b ∈ r.blks, w0.heap.size ≤ b ∧ b < w.heap.size) (htip : TipOK M w r) :
    Post P M0 X w0 Q (.returned v) w v M r xs := by
  unfold extsOf at hx
  rw [List.range_eq_range'] at hx
  obtain ⟨h1, h2⟩ := extsOf_some _ _ _ _ hx
  refine { ret := rfl, q := hq, rp := hrp, le := h.le, old := h.old, agree := h.agree, os := h.os, tape := h.tape, output := h.output, size := h.size, frame := h.frame, ext := ⟨h1.symm, hX, ?_⟩, fresh := hfresh, tip := htip }
  intro j cs b hj hb
  have h3 := h2 j cs hj
  rw [Nat.zero_add] at h3
  obtain ⟨b', g1, ⟨⟨vs, T, g2, g3, g4⟩, g5, g6⟩, _⟩ := h.boxes _ _ h3
  have h4 := h.ext j b hb
  obtain rfl : b = b' := by rw [h4] at g1; injection g1
  exact ⟨⟨vs, T, g2, g3, fun i c hi => ⟨(g4 i c hi).1.noBox (noBoxL_mem (hnb cs (List.mem_of_getElem? hj)) c (List.mem_of_getElem? hi)), (g4 i c hi).2⟩⟩, g5, g6⟩

theorem fin_q (h : Inv X M0 w0 M ρ st a w) {Q : PV → List (List AV) → Prop} {r : PV} {v : Value} {xs : List (List AV)} (hX : X.Nodup) (hx : extsOf X.length st = some xs) (hnb : ∀ l ∈ xs, AV.noBoxL l = true) (hq : finQ Q r xs st) (hrp : Rp M r v) :
    ∃ r', Post P M0 X w0 Q (.returned v) w v M r' xs := by
  rcases hq with hq | ⟨hU, htip, hq⟩
  · exact ⟨r.erase, h.post hX hx hnb hq hrp.erase (by simp [PV.blks_erase]) (by cases r <;> simp [PV.erase, TipOK])⟩
  · refine ⟨r, h.post hX hx hnb hq hrp (fun b hb => ⟨(h.U b (hU b hb)).1, (h.U b (hU b hb)).2.1⟩) ?_⟩
    unfold TipOK
    split
    · rename_i s b off sz es
      rcases htip with htip | htip
      · cases htip
      · exact (h.tips s b off _ htip).2
    · trivial

theorem chunk_ok {sz : Nat} (hsz : 0 < sz) : ∀ (n : Nat) (l : List PV) (vs : List Value), l.length = n * sz → vs.length = l.length → (∀ (j : Nat) c v, l[j]? = some c → vs[j]? = some v → Rp M c v ∧ v.oneCell' = true) → FlatR M sz (chunk sz n l) vs ∧ (chunk sz n l).length = n
  | 0, l, vs, hl, hv, h => by
    obtain rfl : l = [] := List.eq_nil_of_length_eq_zero (by simpa using hl)
    obtain rfl : vs = [] := List.eq_nil_of_length_eq_zero (by simpa using hv)
    exact ⟨⟨by simp [chunk], by simp [chunk], by simp [chunk]⟩, rfl⟩
  | n + 1, l, vs, hl, hv, h => by
    have hle : sz ≤ l.length := by rw [hl, Nat.add_mul]; omega
    obtain ⟨ih, ihl⟩ := chunk_ok hsz n (l.drop sz) (vs.drop sz) (by rw [List.length_drop, hl, Nat.add_mul]; omega) (by simp [hv]) (fun j c v hc hv => by
      rw [List.getElem?_drop] at hc hv
      exact h _ c v hc hv)
    have hone : ∀ c : PV, (∃ v, Rp M c v ∧ v.oneCell' = true) → c.cells = [c] := by
      rintro c ⟨v, hc, h1⟩
      cases hc <;> first | rfl | simp [Value.oneCell'] at h1
    have hhead : FlatR M sz [if sz = 1 then l.headD default else .agg (l.take sz)] (vs.take sz) := by
      have hcells : (if sz = 1 then l.headD default else .agg (l.take sz)).cells = l.take sz := by
        split
        · rename_i e
          subst e
          cases l with
          | nil => simp at hle
          | cons c l =>
            cases vs with
            | nil => simp at hv
            | cons v vs => simpa using hone c ⟨v, h 0 c v rfl rfl⟩
        · rfl
      refine ⟨?_, by simp; omega, ?_⟩
      · intro e he
        rw [List.mem_singleton] at he
        subst he
        rw [hcells]; simp; omega
      · intro i j e c v hi hj hv'
        cases i with
        | succ i => simp at hi
        | zero =>
          simp only [List.getElem?_cons_zero, Option.some.injEq] at hi
          subst hi
          rw [hcells] at hj
          have hjl : j < sz := by have := (List.getElem?_eq_some_iff.1 hj).1; simp at this; omega
          rw [List.getElem?_take_of_lt hjl] at hj
          rw [Nat.zero_mul, Nat.zero_add, List.getElem?_take_of_lt hjl] at hv'
          exact h j c v hj hv'
    have := hhead.append ih
    rw [List.take_append_drop] at this
    exact ⟨this, by simp [chunk, ihl]⟩

theorem fin_sound (hT : TabOK P tab) {fn : Func} {Q : PV → List (List AV) → Prop} (hX : X.Nodup) {e : Exit} (h : Inv X M0 w0 M ρ st a w) (hk : fin tab fn X.length Q e st) :
    bodyPost P fn (fun e w' => ∃ v M' r exts', Post P M0 X w0 Q e w' v M' r exts') e a w := by
  have main : (e = .normal ∨ e = .ret) → (bindK (extsOf X.length st) fun xs => (∀ l ∈ xs, AV.noBoxL l = true) ∧
      match fn.results.toList with
      | [rv] => (match resA tab st rv with
        | some (.pv r) => finQ Q r xs st
        | some (.msl i sz len) => ∃ l, (bind (lk i st.boxes) allPV) = some l ∧ l.length = len * sz ∧ i < 1000 ∧ 0 < sz ∧
            ∀ b, ¬ st.U b → ((∀ b' ∈ PV.blksL (chunk sz len l), st.U b') ∧ Q (.own 0 (some (b, 0)) sz (chunk sz len l)) xs) ∨ Q (PV.erase (.sl sz (chunk sz len l))) xs
        | _ => False)
      | rvs => bindK (bind (rvs.mapM (resA tab st)) allPV) fun rs => finQ Q (.tup rs) xs st) →
      a.defers = [] ∧ ∃ v, (results fn a.tmps).run P w = .ok v w ∧ ∃ v' M' r exts', Post P M0 X w0 Q (.returned v) w v' M' r exts' := by
    intro _ hk
    refine ⟨h.defers, ?_⟩
    rw [bindK_iff] at hk
    obtain ⟨xs, hx, hnb, hk⟩ := hk
    split at hk
    · rename_i rv hrv
      have one : ∀ x, resA tab st rv = some x → ∃ u, (results fn a.tmps).run P w = .ok u w ∧ RpA M ρ x u := by
        intro x hxr
        obtain ⟨u, hu, hr⟩ := resA_sound hT h hxr
        refine ⟨u, results_run (us := [u]) ?_, hr⟩
        rw [hrv, List.mapM_cons, bind_run hu]
        simp
      split at hk
      · rename_i r hr
        obtain ⟨u, hu, hR⟩ := one _ hr
        cases hR with
        | pv _ _ hR =>
          obtain ⟨r', p⟩ := fin_q (P := P) h hX hx hnb hk hR
          exact ⟨u, hu, u, M, r', xs, p⟩
      · rename_i i sz len hr
        obtain ⟨u, hu, hR⟩ := one _ hr
        obtain ⟨l, hl, hll, hi, hsz, hq⟩ := hk
        cases hR with
        | msl _ _ _ b hb =>
          cases hcs : lk i st.boxes with
          | none => simp [hcs] at hl
          | some cs =>
            simp only [hcs, Option.bind_eq_bind, Option.bind_some] at hl
            have hcs' := allPV_some hl
            obtain ⟨b', g1, hbox, hBX⟩ := h.boxes i cs hcs
            obtain rfl : b = b' := by rw [hb] at g1; injection g1
            obtain ⟨vs, T, g2, g3, g4⟩ := hbox.at_
            have hB : w0.heap.size ≤ b := by
              rcases hBX with hB | hB
              · exact hB
              · obtain ⟨j, hj, e⟩ := List.getElem_of_mem hB
                have := h.ext j b (by rw [← e]; exact List.getElem?_eq_getElem hj)
                have := h.inj i (1000 + j) b hb this
                omega
            have hvl : vs.toList.length = l.length := by
              have := congrArg List.length hcs'
              simp at this
              simp; omega
            have hU : ¬ st.U b := fun hu => by have := (h.U b hu).2.2; rw [hbox.cap] at this; cases this
            obtain ⟨hfl, hcl⟩ := chunk_ok (M := M) hsz len l vs.toList hll hvl (by
              intro j c v hc hv
              have hc' : cs[j]? = some (.pv c) := by rw [hcs']; simp [hc]
              have := g4 j _ hc'
              have e1 : vs.getD j undef = v := by
                have hv' : vs[j]? = some v := by simpa using hv
                simp [Array.getD_eq_getD_getElem?, hv']
              rw [e1] at this
              obtain ⟨h1, h2⟩ := this
              cases h1 with | pv _ _ h1 => exact ⟨h1, h2⟩)
            have hle1 : M.Le (M.row b 0 vs.toList) := Mem.row_le (fun o _ _ => hbox.cell o)
            have hle2 : (M.row b 0 vs.toList).Le ((M.row b 0 vs.toList).setCap b (0 + len * sz)) := Mem.setCap_le (.inl hbox.cap)
            have hle := hle1.trans hle2
            have hcell : ∀ b', b' ≠ b → ((M.row b 0 vs.toList).setCap b (0 + len * sz)).cell b' = M.cell b' ∧ ((M.row b 0 vs.toList).setCap b (0 + len * sz)).cap b' = M.cap b' := by
              intro b' hne
              refine ⟨?_, ?_⟩
              · funext o
                simp only [Mem.setCap, Mem.row]
                rw [if_neg (by rintro ⟨e, _⟩; exact hne e)]
              · simp only [Mem.setCap, Mem.row]
                rw [if_neg hne]
            have hrp : Rp ((M.row b 0 vs.toList).setCap b (0 + len * sz)) (.own 0 (some (b, 0)) sz (chunk sz len l)) (.slice (some ⟨b, 0, none⟩) len len) := by
              have := FlatR.ownOf (s := 0) (b := b) (off := 0) (cap := len) (hfl.mono hle) (by omega) (by simp [Mem.setCap]) (by
                intro k v hv
                exact Mem.row_cell (M := M) hv)
              rwa [hcl] at this
            have hag : Agree ((M.row b 0 vs.toList).setCap b (0 + len * sz)) w := by
              refine ⟨?_, ?_⟩
              · intro b' o v hv
                by_cases e : b' = b
                · subst e
                  have hv' : (if b' = b' ∧ 0 ≤ o ∧ o < 0 + vs.toList.length then vs.toList[o - 0]? else M.cell b' o) = some v := hv
                  split at hv'
                  · simp only [World.cell?, g2]
                    simpa using hv'
                  · rw [hbox.cell] at hv'; cases hv'
                · rw [(hcell b' e).1] at hv
                  exact h.agree.cell b' o v hv
              · intro b' n hn
                by_cases e : b' = b
                · rw [e]; exact hbox.lt
                · rw [(hcell b' e).2] at hn
                  exact h.agree.cap b' n hn
            have hx2 := hx
            unfold extsOf at hx2
            rw [List.range_eq_range'] at hx2
            obtain ⟨k1, k2⟩ := extsOf_some _ _ _ _ hx2
            have hpost : ∀ r, Q r xs → Rp ((M.row b 0 vs.toList).setCap b (0 + len * sz)) r (.slice (some ⟨b, 0, none⟩) len len) → (∀ b' ∈ r.blks, w0.heap.size ≤ b' ∧ b' < w.heap.size) → TipOK ((M.row b 0 vs.toList).setCap b (0 + len * sz)) w r →
                Post P M0 X w0 Q (.returned (.slice (some ⟨b, 0, none⟩) len len)) w (.slice (some ⟨b, 0, none⟩) len len) ((M.row b 0 vs.toList).setCap b (0 + len * sz)) r xs := by
              intro r hq hr hf ht
              refine { ret := rfl, q := hq, rp := hr, le := h.le.trans hle, old := ?_, agree := hag, os := h.os, tape := h.tape, output := h.output, size := h.size, frame := h.frame, ext := ⟨k1.symm, hX, ?_⟩, fresh := hf, tip := ht }
              · intro b' hb'
                have hne : b' ≠ b := by omega
                rw [(hcell b' hne).1, (hcell b' hne).2]
                exact h.old b' hb'
              · intro j cs2 b2 hj hb2
                have h3 := k2 j cs2 hj
                rw [Nat.zero_add] at h3
                obtain ⟨b3, f1, ⟨⟨vs2, T2, f2, f3, f4⟩, f5, f6⟩, _⟩ := h.boxes _ _ h3
                have h4 := h.ext j b2 hb2
                obtain rfl : b2 = b3 := by rw [h4] at f1; injection f1
                have hne : b2 ≠ b := fun e => by subst e; have := h.inj _ _ _ h4 hb; omega
                refine ⟨⟨vs2, T2, f2, f3, fun i2 c hi2 => ⟨((f4 i2 c hi2).1.mono hle (fun _ _ h => h)).noBox (noBoxL_mem (hnb cs2 (List.mem_of_getElem? hj)) c (List.mem_of_getElem? hi2)), (f4 i2 c hi2).2⟩⟩, fun o => by rw [(hcell b2 hne).1]; exact f5 o, by rw [(hcell b2 hne).2]; exact f6⟩
            rcases hq b hU with hq | hq
            · obtain ⟨hU2, hq⟩ := hq
              have hblk : ∀ b' ∈ (PV.own 0 (some (b, 0)) sz (chunk sz len l)).blks, w0.heap.size ≤ b' ∧ b' < w.heap.size := by
                intro b' hb'
                simp only [PV.blks, List.mem_append, List.mem_singleton] at hb'
                rcases hb' with rfl | hb'
                · exact ⟨hB, hbox.lt⟩
                · exact ⟨(h.U b' (hU2 b' hb')).1, (h.U b' (hU2 b' hb')).2.1⟩
              refine ⟨_, hu, _, _, _, xs, hpost _ hq hrp hblk ⟨⟨vs, T, 0 + len * sz, g2, by simp [Mem.setCap], ?_⟩, ?_⟩⟩
              · have : vs.size = vs.toList.length := by simp
                omega
              · intro o ho
                rw [hcl] at ho
                simp only [Mem.setCap, Mem.row]
                rw [if_neg (by rintro ⟨_, _, h3⟩; omega)]
                exact hbox.cell o
            · exact ⟨_, hu, _, _, _, xs, hpost _ hq hrp.toSl.erase (by simp [PV.blks_erase]) (by simp [PV.erase, TipOK])⟩
      · exact hk.elim
    · rename_i hne
      rw [bindK_iff] at hk
      obtain ⟨rs, hrs, hq⟩ := hk
      simp only [Option.bind_eq_bind, Option.bind_eq_some_iff] at hrs
      obtain ⟨ys, hys, hrs⟩ := hrs
      obtain ⟨us, hus, hl1, hl2, hR⟩ := resL_sound hT h hys
      have hrs' := allPV_some hrs
      have hrun := results_run hus
      have hne1 : ∀ u, us ≠ [u] := by
        intro u e
        rw [e] at hl1
        cases hrl : fn.results.toList with
        | nil => rw [hrl] at hl1; simp at hl1
        | cons r1 rr =>
          cases rr with
          | nil => exact hne r1 hrl
          | cons _ _ => rw [hrl] at hl1; simp at hl1
      have hrun' : (results fn a.tmps).run P w = .ok (.tuple us.toArray) w := by
        rw [hrun]
        congr 1
        unfold resVal
        split
        · exact absurd rfl (hne1 _)
        · rfl
      obtain ⟨r', p⟩ := fin_q (P := P) (v := .tuple us.toArray) h hX hx hnb hq (.tup rs us (by rw [hl2, hrs']; simp) (fun i c v hc hv => by
        have := hR i (.pv c) v (by rw [hrs']; simp [hc]) hv
        cases this with | pv _ _ this => exact this))
      exact ⟨_, hrun', _, M, r', xs, p⟩
  cases e with
  | normal => exact main (.inl rfl) hk
  | ret => exact main (.inr rfl) hk
  | exit id => exact hk.elim
  | goto l => exact hk.elim
  | panic c => exact hk.elim
  | outgrown => exact hk.elim

/-- THE CONTRACT OF A FUNCTION OUT OF ITS BODY. -/
theorem AC.intro (hT : TabOK P tab) (hm : P.follows .mixedOrders = true) {f : FuncId} {fn : Func} {c : Code} {args : List AV} {exts : List (List AV)} {Q : PV → List (List AV) → Prop} (hf : P.funcs[f]? = some fn) (hb : fn.body = some c) (hname : (fn.name == "runtime.NumGoroutine") = false)
    (h : awp P tab c (fin tab fn exts.length Q) { tmps := args ++ List.replicate (fn.ntmps - args.length) .bot, boxes := (exts.zipIdx 1000).map (fun p => (p.2, p.1)), tips := [], U := fun _ => False }) : AC P f args exts Q := by
  refine ⟨⟨fn, hf, by rw [hb]; rfl, hname⟩, ?_⟩
  intro M X w vs hA hE hl hargs
  refine calls_of_wp hf hb ?_
  have hXlt : ∀ b ∈ X, b < w.heap.size := by
    intro b hbX
    obtain ⟨j, hj, rfl⟩ := List.getElem_of_mem hbX
    exact (hE.box j (exts[j]'(by rw [← hE.len]; exact hj)) X[j] (List.getElem?_eq_getElem _) (List.getElem?_eq_getElem hj)).lt
  have hlk : ∀ (l : List (List AV)) (k i : Nat) cs, lk i ((l.zipIdx k).map (fun p => (p.2, p.1))) = some cs → k ≤ i ∧ l[i - k]? = some cs := by
    intro l
    induction l with
    | nil => intro k i cs h; simp [lk] at h
    | cons x l ih =>
      intro k i cs h
      simp only [List.zipIdx_cons, List.map_cons, lk] at h
      split at h
      · rename_i e
        injection h with h; subst h
        exact ⟨by omega, by simp [e]⟩
      · obtain ⟨h1, h2⟩ := ih (k + 1) i cs h
        exact ⟨by omega, by rw [show i - k = (i - (k + 1)) + 1 by omega]; simpa using h2⟩
  have hlk2 : ∀ (l : List (List AV)) (k i : Nat), k ≤ i → i - k < l.length → (lk i ((l.zipIdx k).map (fun p => (p.2, p.1)))).isSome = true := by
    intro l
    induction l with
    | nil => intro k i _ h; simp at h
    | cons x l ih =>
      intro k i h1 h2
      simp only [List.zipIdx_cons, List.map_cons, lk]
      split
      · rfl
      · exact ih (k + 1) i (by omega) (by simp at h2; omega)
  have hinv : Inv X M w M (extρ X) { tmps := args ++ List.replicate (fn.ntmps - args.length) .bot, boxes := (exts.zipIdx 1000).map (fun p => (p.2, p.1)), tips := [], U := fun _ => False } { tmps := vs ++ Array.replicate (fn.ntmps - vs.size) undef, defers := [] } w := by
    refine { defers := rfl, len := by simp [hl], tmps := ?_, os := rfl, tape := rfl, output := rfl, size := Nat.le_refl _, frame := fun _ _ _ => rfl, agree := hA, boxes := ?_, dom := ?_, inj := ?_, tips := by simp [lk], tipinj := by simp [lk], U := fun b hb => hb.elim, le := Mem.Le.refl _, old := fun _ _ => ⟨rfl, rfl⟩, ext := ?_, extlt := hXlt }
    · intro t x hx
      by_cases ht : t < args.length
      · rw [List.getElem?_append_left ht] at hx
        have e1 : (vs ++ Array.replicate (fn.ntmps - vs.size) undef).getD t undef = vs.getD t undef := by
          simp [Array.getD_eq_getD_getElem?, Array.getElem?_append_left (show t < vs.size by omega)]
        rw [e1]; exact hargs t x hx
      · rw [List.getElem?_append_right (by omega)] at hx
        have := List.mem_of_getElem? hx
        rw [List.mem_replicate] at this
        rw [this.2]; exact .bot _
    · intro i cs hi
      obtain ⟨h1, h2⟩ := hlk exts 1000 i cs hi
      have hlt : i - 1000 < X.length := by rw [hE.len]; exact (List.getElem?_eq_some_iff.1 h2).1
      refine ⟨X[i - 1000], ?_, hE.box (i - 1000) cs _ h2 (List.getElem?_eq_getElem hlt), .inr (List.getElem_mem hlt)⟩
      unfold extρ
      rw [if_neg (by omega)]
      exact List.getElem?_eq_getElem hlt
    · intro i b hi
      unfold extρ at hi
      split at hi
      · cases hi
      · have hlt := (List.getElem?_eq_some_iff.1 hi).1
        exact hlk2 exts 1000 i (by omega) (by rw [← hE.len]; exact hlt)
    · intro i j b hi hj
      unfold extρ at hi hj
      split at hi
      · cases hi
      · split at hj
        · cases hj
        · have := (List.getElem?_inj (List.getElem?_eq_some_iff.1 hi).1 hE.nodup).1 (hi.trans hj.symm)
          omega
    · intro j b hb
      unfold extρ
      rw [if_neg (by omega)]
      rwa [show 1000 + j - 1000 = j by omega]
  refine awp_sound hT hm c (fun e a w hf => ?_) ⟨M, extρ X, _, hinv, h⟩
  obtain ⟨M', ρ', st', hi, hk⟩ := hf
  rw [← hE.len] at hk
  exact fin_sound hT hE.nodup hi hk

end
end Go.Ax
