/- The abstract layer, part 15b: calls to which boxes are lent. -/
import Derived.Test.YtbbncbojkkackaaAxO
set_option linter.unusedSimpArgs false
namespace Go.Ax

theorem mem_dedup {l : List Nat} {i : Nat} : i ∈ dedup l ↔ i ∈ l := by
  revert i
  induction l with
  | nil => intro i; simp [dedup]
  | cons x l ih =>
    intro i
    simp only [dedup]
    split
    · rename_i h
      rw [ih] at h
      rw [ih, List.mem_cons]
      constructor
      · exact .inr
      · rintro (rfl | h')
        · exact h
        · exact h'
    · simp [ih]

theorem nodup_dedup (l : List Nat) : (dedup l).Nodup := by
  induction l with
  | nil => simp [dedup]
  | cons x l ih =>
    simp only [dedup]
    split
    · exact ih
    · rename_i h
      exact List.nodup_cons.2 ⟨h, ih⟩

theorem posIn_getElem? {ids : List Nat} {i : Nat} (h : i ∈ ids) : ids[posIn i ids]? = some i := by
  induction ids with
  | nil => cases h
  | cons x ids ih =>
    simp only [posIn]
    split
    · rename_i e; simp [e]
    · rename_i e
      rcases List.mem_cons.1 h with rfl | h
      · exact absurd rfl e
      · simpa using ih h

theorem posIn_of {ids : List Nat} (hn : ids.Nodup) {i j : Nat} (h : ids[j]? = some i) : posIn i ids = j := by
  have h1 := posIn_getElem? (List.mem_of_getElem? h)
  exact (List.getElem?_inj (List.getElem?_eq_some_iff.1 h1).1 hn).1 (h1.trans h.symm)

theorem renL_eq (ids : List Nat) (l : List AV) : AV.renL ids l = l.map (AV.ren ids) := by
  induction l with
  | nil => rfl
  | cons x l ih => simp [AV.renL, ih]

theorem ids_of_mem {l : List AV} {x : AV} {i : Nat} (hx : x ∈ l) (hi : i ∈ AV.ids x) : i ∈ AV.idsL l := by
  induction l with
  | nil => cases hx
  | cons y l ih =>
    simp only [AV.idsL, List.mem_append]
    rcases List.mem_cons.1 hx with rfl | hx
    · exact .inl hi
    · exact .inr (ih hx)

theorem RpA.ren {M : Mem} {ρ ρ' : Nat → Option Nat} {ids : List Nat} (hρ : ∀ i ∈ ids, ∀ b, ρ i = some b → ρ' (1000 + posIn i ids) = some b) {x : AV} {v : Value} (h : RpA M ρ x v) (hx : ∀ i ∈ AV.ids x, i ∈ ids) : RpA M ρ' (AV.ren ids x) v := by
  induction h with
  | bot v => exact .bot v
  | undef => exact .undef
  | pv x v h => exact .pv x v h
  | box i off b h => exact .box _ off b (hρ i (hx i (by simp [AV.ids])) b h)
  | ro cs b off F hm hr => exact .ro cs b off F hm hr
  | fn f caps vs hl h ih =>
    simp only [AV.ren, renL_eq]
    refine .fn f _ vs (by simp [hl]) ?_
    intro i c v hc hv
    rw [List.getElem?_map, Option.map_eq_some_iff] at hc
    obtain ⟨c', hc', rfl⟩ := hc
    exact ih i c' v hc' hv fun j hj => hx j (by simp only [AV.ids]; exact ids_of_mem (List.mem_of_getElem? hc') hj)
  | msl i sz len b h => exact .msl _ sz len b (hρ i (hx i (by simp [AV.ids])) b h)

theorem lk_setBoxes : ∀ (ids : List Nat) (xs : List (List AV)) (bx : List (Nat × List AV)) (i : Nat), ids.Nodup → xs.length = ids.length → lk i (setBoxes ids xs bx) = if i ∈ ids then xs[posIn i ids]? else lk i bx
  | [], xs, bx, i, _, _ => by simp [setBoxes]
  | k :: ids, [], bx, i, _, h => by simp at h
  | k :: ids, x :: xs, bx, i, hn, hl => by
    obtain ⟨h1, h2⟩ := List.nodup_cons.1 hn
    simp only [setBoxes]
    rw [lk_setBoxes ids xs _ i h2 (by simpa using hl), lk_ups]
    by_cases e : i = k
    · subst e
      simp [h1, posIn]
    · simp only [List.mem_cons, e, false_or, if_false, posIn]
      split <;> rfl

section
variable {P : Program} {tab : Tab} {X : List Nat} {M0 : Mem} {w0 : World} {M : Mem} {ρ : Nat → Option Nat} {st : St} {a : Act} {w : World}

theorem map_some_getElem? {ids : List Nat} {bx : List (Nat × List AV)} {exts : List (List AV)} (h : ids.map (fun i => lk i bx) = exts.map some) : exts.length = ids.length ∧ ∀ (j : Nat) i, ids[j]? = some i → ∃ cs, exts[j]? = some cs ∧ lk i bx = some cs := by
  have hl : exts.length = ids.length := by have := congrArg List.length h; simpa using this.symm
  refine ⟨hl, fun j i hi => ?_⟩
  have := congrArg (fun l => l[j]?) h
  simp only [List.getElem?_map, hi, Option.map_some] at this
  cases he : exts[j]? with
  | none => rw [he] at this; cases this
  | some cs => rw [he] at this; exact ⟨cs, rfl, by simpa using this⟩

theorem Inv.lent (h : Inv X M0 w0 M ρ st a w) {ids : List Nat} {exts xs : List (List AV)} {X' : List Nat} (hn : ids.Nodup) (hX' : X' = ids.map (fun i => (ρ i).getD 0)) (hids : ids.map (fun i => lk i st.boxes) = exts.map some) (hxl : xs.length = exts.length) (hxb : ∀ l ∈ xs, AV.noBoxL l = true)
    {Q : PV → List (List AV) → Prop} {e : Ending} {w' : World} {v : Value} {M' : Mem} {r : PV} (p : Post P M X' w Q e w' v M' r xs) : Inv X M0 w0 M' ρ { st with boxes := setBoxes ids xs st.boxes } a w' := by
  obtain ⟨hel, hex⟩ := map_some_getElem? hids
  have hρ : ∀ (j : Nat) i, ids[j]? = some i → ∃ b cs, ρ i = some b ∧ X'[j]? = some b ∧ lk i st.boxes = some cs ∧ BoxAt M ρ w b cs ∧ (w0.heap.size ≤ b ∨ b ∈ X) := by
    intro j i hi
    obtain ⟨cs, _, h2⟩ := hex j i hi
    obtain ⟨b, h3, h4, h5⟩ := h.boxes i cs h2
    exact ⟨b, cs, h3, by rw [hX', List.getElem?_map, hi]; simp [h3], h2, h4, h5⟩
  have hin : ∀ b ∈ X', ∃ i cs, i ∈ ids ∧ ρ i = some b ∧ BoxAt M ρ w b cs ∧ (w0.heap.size ≤ b ∨ b ∈ X) := by
    intro b hb
    rw [hX', List.mem_map] at hb
    obtain ⟨i, hi, e⟩ := hb
    obtain ⟨j, hj, e2⟩ := List.getElem_of_mem hi
    obtain ⟨b', cs, h1, _, _, h4, h5⟩ := hρ j i (by rw [← e2]; exact List.getElem?_eq_getElem hj)
    rw [h1] at e
    simp at e
    subst e
    exact ⟨i, cs, hi, h1, h4, h5⟩
  have hlk := fun i => lk_setBoxes ids xs st.boxes i hn (by rw [hxl, hel])
  refine { h with
    tmps := fun t x hx => (h.tmps t x hx).mono p.le (fun _ _ h => h)
    os := p.os.trans h.os, tape := p.tape.trans h.tape, output := p.output.trans h.output, size := Nat.le_trans h.size p.size
    frame := fun k hk hX => ?_, agree := p.agree, boxes := ?_, dom := ?_, tips := ?_, U := ?_, le := h.le.trans p.le, old := ?_ }
  · rw [p.frame k (Nat.lt_of_lt_of_le hk h.size) (fun hkx => ?_)]
    · exact h.frame k hk hX
    · obtain ⟨i, cs, _, _, _, hb⟩ := hin k hkx
      rcases hb with hb | hb
      · omega
      · exact hX hb
  · intro i cs hi
    simp only [hlk] at hi
    split at hi
    · rename_i him
      have hp := posIn_getElem? him
      obtain ⟨b, cs0, h1, h2, _, _, h5⟩ := hρ _ i hp
      obtain ⟨⟨vs, T, g1, g2, g3⟩, g4, g5⟩ := p.ext.box _ cs b hi h2
      exact ⟨b, h1, ⟨⟨vs, T, g1, g2, fun j c hj => ⟨(g3 j c hj).1.noBox (noBoxL_mem (hxb cs (List.mem_of_getElem? hi)) c (List.mem_of_getElem? hj)), (g3 j c hj).2⟩⟩, g4, g5⟩, h5⟩
    · rename_i him
      obtain ⟨b, h1, h2, h3⟩ := h.boxes i cs hi
      have hbX : b ∉ X' := fun hb => by
        obtain ⟨i', _, hi', h1', _⟩ := hin b hb
        exact him ((h.inj i i' b h1 h1') ▸ hi')
      exact ⟨b, h1, h2.keep p.le (fun _ _ h => h) (p.frame b h2.lt hbX) (fun o => by rw [(p.old b h2.lt).1]) (p.old b h2.lt).2, h3⟩
  · intro i b hi
    simp only [hlk]
    split
    · rename_i him
      have hp := posIn_getElem? him
      have := (List.getElem?_eq_some_iff.1 hp).1
      rw [List.getElem?_eq_getElem (by omega)]; rfl
    · exact h.dom i b hi
  · intro s b off hw hs
    obtain ⟨h1, ⟨vs, T, n, h2, h3, h4⟩, h5⟩ := h.tips s b off hw hs
    have hlt : b < w.heap.size := (Array.getElem?_eq_some_iff.1 h2).1
    have hbX : b ∉ X' := fun hb => by
      obtain ⟨_, _, _, _, hbox, _⟩ := hin b hb
      rw [hbox.cap] at h3; cases h3
    exact ⟨h1, ⟨vs, T, n, by rw [p.frame b hlt hbX, h2], by rw [(p.old b hlt).2, h3], h4⟩, fun o ho => by rw [(p.old b hlt).1, h5 o ho]⟩
  · intro b hb
    obtain ⟨h1, h2, h3⟩ := h.U b hb
    exact ⟨h1, Nat.lt_of_lt_of_le h2 p.size, by rw [(p.old b h2).2]; exact h3⟩
  · intro b hb
    have hlt := Nat.lt_of_lt_of_le hb h.size
    exact ⟨(p.old b hlt).1.trans (h.old b hb).1, (p.old b hlt).2.trans (h.old b hb).2⟩

theorem callX_calls (h : Inv X M0 w0 M ρ st a w) {f : Operand} {args : Array Operand} {argTypes : Array TypeId} {o : Oper} (ho : o.op = .call { callee := .value f, args, argTypes }) {K : St → Prop} (hk : callX P tab o f args argTypes st K) :
    ∃ g vs, (execOp a.eval o).run P w = .ok (.enter g vs) w ∧ Calls P g vs w fun e w' => ∃ u M' st' v, e = .returned u ∧ Inv X M0 w0 M' ρ st' a w' ∧ RpA M' ρ v u ∧ K (st'.put o.dst v) := by
  unfold callX at hk
  split at hk
  · rename_i g caps hf
    obtain ⟨hsz, exts, hids, hnb, Q, hac, hk⟩ := hk
    have hfv := h.evl f
    rw [hf] at hfv
    generalize hv : a.eval f = fv at hfv
    cases hfv with
    | fn _ _ cvs hl hr =>
      obtain ⟨ha1, ha2⟩ := argsT_ok (tab := tab) h (f := f) hsz
      obtain ⟨hb1, hb2⟩ := args_append (vs := args.map a.eval) (caps' := cvs.toArray) (by simpa using ha1) ha2 (by simpa using hl.symm) (fun i x hx => by
        have hlt : i < cvs.length := by rw [hl]; exact (List.getElem?_eq_some_iff.1 hx).1
        have e1 : cvs.toArray.getD i undef = cvs[i] := by simp [Array.getD, hlt]
        rw [e1]; exact hr i x _ hx (List.getElem?_eq_getElem hlt))
      refine ⟨g, _, run_call ho hv hac.1, ?_⟩
      generalize has : argsT tab (evl st.tmps) { callee := .value f, args, argTypes } ++ caps = as at *
      generalize hidsE : dedup (AV.idsL as) = ids at *
      have hn : ids.Nodup := by rw [← hidsE]; exact nodup_dedup _
      have hmem : ∀ i, i ∈ ids ↔ i ∈ AV.idsL as := fun i => by rw [← hidsE]; exact mem_dedup
      obtain ⟨hel, hex⟩ := map_some_getElem? hids
      have hbox : ∀ (j : Nat) i, ids[j]? = some i → ∃ b cs, ρ i = some b ∧ exts[j]? = some cs ∧ BoxAt M ρ w b cs := by
        intro j i hi
        obtain ⟨cs, h1, h2⟩ := hex j i hi
        obtain ⟨b, h3, h4, _⟩ := h.boxes i cs h2
        exact ⟨b, cs, h3, h1, h4⟩
      have hXj : ∀ (j : Nat) i b, ids[j]? = some i → ρ i = some b → (ids.map (fun i => (ρ i).getD 0))[j]? = some b := by
        intro j i b hi hb
        rw [List.getElem?_map, hi]; simp [hb]
      have hE : ExtOK M (ids.map (fun i => (ρ i).getD 0)) exts w := by
        refine ⟨by simp [hel], ?_, ?_⟩
        · unfold List.Nodup
          rw [List.pairwise_map]
          refine List.Pairwise.imp_of_mem ?_ hn
          intro i j hi hj hne
          obtain ⟨ki, hki, ei⟩ := List.getElem_of_mem hi
          obtain ⟨kj, hkj, ej⟩ := List.getElem_of_mem hj
          obtain ⟨bi, _, h1, _⟩ := hbox ki i (by rw [← ei]; exact List.getElem?_eq_getElem hki)
          obtain ⟨bj, _, h2, _⟩ := hbox kj j (by rw [← ej]; exact List.getElem?_eq_getElem hkj)
          rw [h1, h2]
          intro e
          simp at e
          subst e
          exact hne (h.inj i j _ h1 h2)
        · intro j cs b hj hb
          have hjl : j < ids.length := by rw [← hel]; exact (List.getElem?_eq_some_iff.1 hj).1
          obtain ⟨b', cs', h1, h2, ⟨vs, T, g1, g2, g3⟩, g4, g5⟩ := hbox j ids[j] (List.getElem?_eq_getElem hjl)
          rw [hXj j ids[j] b' (List.getElem?_eq_getElem hjl) h1] at hb
          injection hb with hb; subst hb
          rw [hj] at h2; injection h2 with h2; subst h2
          exact ⟨⟨vs, T, g1, g2, fun i c hi => ⟨(g3 i c hi).1.noBox (noBoxL_mem (hnb cs (List.mem_of_getElem? hj)) c (List.mem_of_getElem? hi)), (g3 i c hi).2⟩⟩, g4, g5⟩
      have hcall := hac.2 M (ids.map (fun i => (ρ i).getD 0)) w (args.map a.eval ++ cvs.toArray) h.agree hE (by rw [renL_eq, List.length_map]; exact hb1) (fun i x hx => by
        rw [renL_eq, List.getElem?_map, Option.map_eq_some_iff] at hx
        obtain ⟨y, hy, rfl⟩ := hx
        refine (hb2 i y hy).ren ?_ (fun k hk' => (hmem k).2 (ids_of_mem (List.mem_of_getElem? hy) hk'))
        intro k hk' b hb
        have hp := posIn_getElem? hk'
        unfold extρ
        rw [if_neg (by omega), show 1000 + posIn k ids - 1000 = posIn k ids by omega]
        exact hXj _ k b hp hb)
      refine hcall.mono ?_
      rintro e w' ⟨v, M', r, xs, p⟩
      have hxl : xs.length = exts.length := by have := p.ext.len; rw [List.length_map] at this; omega
      obtain ⟨hxb, hk'⟩ := hk r xs p.q hxl (fun b hb hu => by have := (p.fresh b hb).1; have := (h.U b hu).2.1; omega)
      have hg := h.lent hn rfl hids hxl hxb p
      have hreg := hg.reg o.dst (n := w.heap.size) p.tip p.rp.capBlks (fun b hb => ⟨Nat.le_trans h.size (p.fresh b hb).1, p.fresh b hb⟩) (fun s b off hw hs => by
        obtain ⟨_, ⟨vs2, T2, n2, h2, _⟩, _⟩ := h.tips s b off hw hs
        exact (Array.getElem?_eq_some_iff.1 h2).1)
      exact ⟨v, M', _, _, p.ret, hreg, .pv _ _ (regP_ok p.rp), hk'⟩
  · exact hk.elim

end
end Go.Ax
