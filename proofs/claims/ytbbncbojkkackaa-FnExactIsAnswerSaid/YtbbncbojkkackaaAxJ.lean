/- The abstract layer, part 10: how a world and the abstract state belong together; what keeps that. -/
import Derived.Test.YtbbncbojkkackaaAxI
import Derived.Laws.CopyRow
set_option linter.unusedSimpArgs false
namespace Go.Ax

structure Inv (X : List Nat) (M0 : Mem) (w0 : World) (M : Mem) (ρ : Nat → Option Nat) (st : St) (a : Act) (w : World) : Prop where
  defers : a.defers = []
  len : a.tmps.size = st.tmps.length
  tmps : ∀ (t : Nat) x, st.tmps[t]? = some x → RpA M ρ x (a.tmps.getD t undef)
  os : w.os = w0.os
  tape : w.tape = w0.tape
  output : w.output = w0.output
  size : w0.heap.size ≤ w.heap.size
  frame : ∀ k, k < w0.heap.size → k ∉ X → w.heap[k]? = w0.heap[k]?
  agree : Agree M w
  boxes : ∀ i cs, lk i st.boxes = some cs → ∃ b, ρ i = some b ∧ BoxAt M ρ w b cs ∧ (w0.heap.size ≤ b ∨ b ∈ X)
  dom : ∀ i b, ρ i = some b → (lk i st.boxes).isSome = true
  inj : ∀ i j b, ρ i = some b → ρ j = some b → i = j
  tips : ∀ s b off hw, lk s st.tips = some (some (b, off), hw) → w0.heap.size ≤ b ∧
    (∃ vs T n, w.heap[b]? = some (.cells vs T (0, 0)) ∧ M.cap b = some n ∧ n ≤ vs.size) ∧ ∀ o, off + hw ≤ o → M.cell b o = none
  tipinj : ∀ s s' b off off' hw hw', lk s st.tips = some (some (b, off), hw) → lk s' st.tips = some (some (b, off'), hw') → s = s'
  U : ∀ b, st.U b → w0.heap.size ≤ b ∧ b < w.heap.size ∧ (M.cap b).isSome = true
  le : M0.Le M
  old : ∀ b, b < w0.heap.size → M.cell b = M0.cell b ∧ M.cap b = M0.cap b
  ext : ∀ (j : Nat) b, X[j]? = some b → ρ (1000 + j) = some b
  extlt : ∀ b ∈ X, b < w0.heap.size

theorem lk_ups {α : Type} (k d : Nat) (v : α) : ∀ l : List (Nat × α), lk k (ups d v l) = if k = d then some v else lk k l
  | [] => by simp only [ups, lk]
  | (j, x) :: l => by
    simp only [ups]
    by_cases h : d = j
    · subst h
      simp only [if_true, lk]
      by_cases h2 : k = d <;> simp [h2]
    · simp only [h, if_false, lk]
      rw [lk_ups k d v l]
      by_cases h2 : k = j
      · have : ¬ k = d := by omega
        simp [h2, this]
        intro h3; omega
      · simp [h2]

theorem lk_del {α : Type} (k d : Nat) : ∀ l : List (Nat × α), lk k (del d l) = if k = d then none else lk k l
  | [] => by simp [del, lk]
  | (j, x) :: l => by
    simp only [del]
    by_cases h : d = j
    · subst h
      simp only [if_true]
      rw [lk_del k d l]
      by_cases h2 : k = d <;> simp [h2, lk]
    · simp only [h, if_false, lk]
      rw [lk_del k d l]
      by_cases h2 : k = j
      · have : ¬ k = d := by omega
        simp [h2]
        intro h3; omega
      · simp [h2]

section
variable {P : Program} {tab : Tab} {X : List Nat} {M0 : Mem} {w0 : World} {M : Mem} {ρ : Nat → Option Nat} {st : St} {a : Act} {w : World}

theorem Inv.evl (h : Inv X M0 w0 M ρ st a w) (x : Operand) : RpA M ρ (evl st.tmps x) (a.eval x) := by
  cases x with
  | tmp t =>
    simp only [Ax.evl, Act.eval]
    cases ht : st.tmps[t]? with
    | none => rw [List.getD_eq_getElem?_getD, ht]; exact .bot _
    | some y => rw [List.getD_eq_getElem?_getD, ht]; exact h.tmps t y ht
  | const v =>
    simp only [Ax.evl, Act.eval]
    split
    · exact .pv _ _ (.lit _ ‹_›)
    · exact .bot _
  | func f =>
    have : RpA M ρ (.fn f []) (.func (.func f) #[] ([] : List Value).toArray) := .fn f [] [] rfl (by simp)
    exact this
  | global g => exact .bot _

theorem Inv.boxesOK (h : Inv X M0 w0 M ρ st a w) : BoxesOK M ρ w st.boxes := fun i cs hi => let ⟨b, h1, h2, _⟩ := h.boxes i cs hi; ⟨b, h1, h2⟩

theorem Inv.put (h : Inv X M0 w0 M ρ st a w) {d : Option Tmp} {v : AV} {u : Value} (hv : RpA M ρ v u) : Inv X M0 w0 M ρ (st.put d v) (a.put d u) w := by
  cases d with
  | none => exact h
  | some d =>
    refine { h with len := ?_, tmps := ?_ }
    · simp [Act.put, St.put, h.len]
    · intro t x hx
      simp only [St.put, List.getElem?_set] at hx
      by_cases hd : d = t
      · subst hd
        simp only [if_true] at hx
        split at hx
        · rename_i hlt
          injection hx with hx; subst hx
          have hlt' : d < a.tmps.size := by rw [h.len]; exact hlt
          have e1 : (a.put (some d) u).tmps.getD d undef = u := by simp [Act.put, Array.getD, hlt']
          rwa [e1]
        · cases hx
      · simp only [hd, if_false] at hx
        have e1 : (a.put (some d) u).tmps.getD t undef = a.tmps.getD t undef := by
          simp [Act.put, Array.getD_eq_getD_getElem?, Array.getElem?_setIfInBounds_ne hd]
        rw [e1]
        exact h.tmps t x hx

theorem Agree.cellNone (h : Agree M w) {b o : Nat} (hb : w.heap.size ≤ b) : M.cell b o = none := by
  cases hc : M.cell b o with
  | none => rfl
  | some v =>
    have h1 := h.cell b o v hc
    simp [World.cell?, Array.getElem?_eq_none hb] at h1

theorem Agree.capNone (h : Agree M w) {b : Nat} (hb : w.heap.size ≤ b) : M.cap b = none := by
  cases hc : M.cap b with
  | none => rfl
  | some v => have := h.cap b v hc; omega

theorem BoxAt.lt {b : Nat} {cs : List AV} (h : BoxAt M ρ w b cs) : b < w.heap.size := by
  obtain ⟨vs, T, hh, _⟩ := h.at_
  exact (Array.getElem?_eq_some_iff.1 hh).1

/-- A box is a box in a later world, where its block has stayed. -/
theorem BoxAt.keep {M' : Mem} {ρ' : Nat → Option Nat} {w' : World} {b : Nat} {cs : List AV} (h : BoxAt M ρ w b cs) (hM : M.Le M') (hρ : ∀ i b, ρ i = some b → ρ' i = some b)
    (hb : w'.heap[b]? = w.heap[b]?) (hc : ∀ o, M'.cell b o = M.cell b o) (hcap : M'.cap b = M.cap b) : BoxAt M' ρ' w' b cs := by
  obtain ⟨vs, T, hh, hs, hr⟩ := h.at_
  exact ⟨⟨vs, T, by rw [hb, hh], hs, fun j c hj => ⟨(hr j c hj).1.mono hM hρ, (hr j c hj).2⟩⟩, fun o => by rw [hc, h.cell], by rw [hcap, h.cap]⟩

/-- Memory has grown; boxes, tips and used blocks are as they were. -/
theorem Inv.grow (h : Inv X M0 w0 M ρ st a w) {M' : Mem} {w' : World} (hM : M.Le M') (hos : w'.os = w.os) (htape : w'.tape = w.tape) (hout : w'.output = w.output) (hsize : w.heap.size ≤ w'.heap.size)
    (hfr : ∀ k, k < w.heap.size → w'.heap[k]? = w.heap[k]?) (hag : Agree M' w') (hold : ∀ b, b < w.heap.size → M'.cell b = M.cell b ∧ M'.cap b = M.cap b) : Inv X M0 w0 M' ρ st a w' :=
  { h with
    tmps := fun t x hx => (h.tmps t x hx).mono hM (fun _ _ h => h)
    os := hos.trans h.os, tape := htape.trans h.tape, output := hout.trans h.output, size := Nat.le_trans h.size hsize
    frame := fun k hk hX => by rw [hfr k (Nat.lt_of_lt_of_le hk h.size)]; exact h.frame k hk hX
    agree := hag
    boxes := fun i cs hi => by
      obtain ⟨b, h1, h2, h3⟩ := h.boxes i cs hi
      exact ⟨b, h1, h2.keep hM (fun _ _ h => h) (hfr b h2.lt) (fun o => by rw [(hold b h2.lt).1]) (hold b h2.lt).2, h3⟩
    tips := fun s b off hw hs => by
      obtain ⟨h1, ⟨vs, T, n, h2, h3, h4⟩, h5⟩ := h.tips s b off hw hs
      have hlt : b < w.heap.size := (Array.getElem?_eq_some_iff.1 h2).1
      exact ⟨h1, ⟨vs, T, n, by rw [hfr b hlt, h2], by rw [(hold b hlt).2, h3], h4⟩, fun o ho => by rw [(hold b hlt).1, h5 o ho]⟩
    U := fun b hb => ⟨(h.U b hb).1, Nat.lt_of_lt_of_le (h.U b hb).2.1 hsize, by rw [(hold b (h.U b hb).2.1).2]; exact (h.U b hb).2.2⟩
    le := h.le.trans hM
    old := fun b hb => by
      have hlt := Nat.lt_of_lt_of_le hb h.size
      exact ⟨(hold b hlt).1.trans (h.old b hb).1, (hold b hlt).2.trans (h.old b hb).2⟩ }

theorem Inv.drew (h : Inv X M0 w0 M ρ st a w) : Inv X M0 w0 M ρ st a w.drew :=
  h.grow (Mem.Le.refl _) rfl rfl rfl (Nat.le_refl _) (fun _ _ => rfl) ⟨h.agree.cell, h.agree.cap⟩ (fun _ _ => ⟨rfl, rfl⟩)

theorem alloc_heap (w : World) (o : Obj) (k : Nat) (h : k < w.heap.size) : (w.alloc o).heap[k]? = w.heap[k]? := by
  show (w.heap.push o)[k]? = _
  rw [Array.getElem?_push, if_neg (by omega)]

theorem alloc_new (w : World) (o : Obj) : (w.alloc o).heap[w.heap.size]? = some o := by
  show (w.heap.push o)[w.heap.size]? = _
  simp

/-- A new block that nothing speaks of. -/
theorem Inv.alloc (h : Inv X M0 w0 M ρ st a w) (o : Obj) : Inv X M0 w0 M ρ st a (w.alloc o) :=
  h.grow (Mem.Le.refl _) rfl rfl rfl (by simp) (fun k hk => alloc_heap w o k hk)
    ⟨fun b o' v hv => by
      have h1 := h.agree.cell b o' v hv
      have hlt : b < w.heap.size := by
        have := World.block_lt_of_cell? w ⟨b, o', none⟩ h1
        exact this
      rw [World.cell?_alloc_lt _ _ _ hlt]; exact h1, fun b n hb => by have := h.agree.cap b n hb; simp; omega⟩ (fun _ _ => ⟨rfl, rfl⟩)

def updρ (ρ : Nat → Option Nat) (d b : Nat) : Nat → Option Nat := fun i => if i = d then some b else ρ i

/-- A new box. -/
theorem Inv.newBox (h : Inv X M0 w0 M ρ st a w) {d : Nat} {cs : List AV} {vs : Array Value} {T : TypeId} (hd : lk d st.boxes = none) (hs : vs.size = cs.length)
    (hc : ∀ (j : Nat) c, cs[j]? = some c → RpA M ρ c (vs.getD j undef) ∧ (vs.getD j undef).oneCell' = true) :
    Inv X M0 w0 M (updρ ρ d w.heap.size) { st with boxes := ups d cs st.boxes } a (w.alloc (.cells vs T)) := by
  have hρd : ρ d = none := by
    cases hr : ρ d with
    | none => rfl
    | some b => have := h.dom d b hr; rw [hd] at this; cases this
  have hρ : ∀ i b, ρ i = some b → updρ ρ d w.heap.size i = some b := by
    intro i b hi
    unfold updρ
    split
    · rename_i e; subst e; rw [hρd] at hi; cases hi
    · exact hi
  have h' := h.alloc (.cells vs T)
  have hlt : ∀ i b, ρ i = some b → b < w.heap.size := by
    intro i b hi
    obtain ⟨cs', hcs'⟩ := Option.isSome_iff_exists.1 (h.dom i b hi)
    obtain ⟨b', h1, h2, _⟩ := h.boxes i cs' hcs'
    obtain rfl : b = b' := by rw [hi] at h1; injection h1
    exact h2.lt
  refine { h' with tmps := fun t x hx => (h'.tmps t x hx).mono (Mem.Le.refl _) hρ, boxes := ?_, dom := ?_, inj := ?_, ext := fun j b hb => hρ _ _ (h.ext j b hb) }
  · intro i cs' hi
    simp only [lk_ups] at hi
    by_cases e : i = d
    · subst e
      simp only [if_true, Option.some.injEq] at hi
      subst hi
      refine ⟨w.heap.size, by simp [updρ], ⟨⟨vs, T, alloc_new _ _, hs, fun j c hj => ⟨(hc j c hj).1.mono (Mem.Le.refl _) hρ, (hc j c hj).2⟩⟩, fun o => h.agree.cellNone (Nat.le_refl _), h.agree.capNone (Nat.le_refl _)⟩, .inl h.size⟩
    · simp only [e, if_false] at hi
      obtain ⟨b, h1, h2, h3⟩ := h'.boxes i cs' hi
      exact ⟨b, hρ _ _ h1, h2.keep (Mem.Le.refl _) hρ rfl (fun _ => rfl) rfl, h3⟩
  · intro i b hi
    simp only [lk_ups]
    by_cases e : i = d
    · simp [e]
    · simp only [updρ, e, if_false] at hi
      simp only [e, if_false]
      exact h.dom i b hi
  · intro i j b hi hj
    simp only [updρ] at hi hj
    split at hi <;> split at hj
    · omega
    · injection hi with hi
      have := hlt j b hj; omega
    · injection hj with hj
      have := hlt i b hi; omega
    · exact h.inj i j b hi hj

/-- A box is turned. -/
theorem Inv.setBox (h : Inv X M0 w0 M ρ st a w) {i b : Nat} {cs cs' : List AV} {vs vs' : Array Value} {T : TypeId} (hi : lk i st.boxes = some cs) (hρi : ρ i = some b) (hb : w.heap[b]? = some (.cells vs T (0, 0))) (hs : vs'.size = cs'.length)
    (hc : ∀ (j : Nat) c, cs'[j]? = some c → RpA M ρ c (vs'.getD j undef) ∧ (vs'.getD j undef).oneCell' = true) :
    Inv X M0 w0 M ρ { st with boxes := ups i cs' st.boxes } a (w.setRow b vs') := by
  obtain ⟨b', h1, hbox, hBX⟩ := h.boxes i cs hi
  obtain rfl : b = b' := by rw [hρi] at h1; injection h1
  have hne : ∀ k, k ≠ b → (w.setRow b vs').heap[k]? = w.heap[k]? := fun k hk => setRow_other w b k vs' hk
  refine { h with os := h.os, tape := h.tape, output := h.output, size := by rw [size_setRow]; exact h.size, frame := ?_, agree := ?_, boxes := ?_, dom := ?_, tips := ?_, U := ?_ }
  · intro k hk hX
    rcases hBX with hB | hB
    · rw [hne k (by omega)]; exact h.frame k hk hX
    · rw [hne k (fun e => hX (e ▸ hB))]; exact h.frame k hk hX
  · refine ⟨fun b' o v hv => ?_, fun b' n hb' => by rw [size_setRow]; exact h.agree.cap b' n hb'⟩
    have hbb : b' ≠ b := fun e => by subst e; rw [hbox.cell o] at hv; cases hv
    rw [cell_setRow_other _ _ _ _ hbb]
    exact h.agree.cell b' o v hv
  · intro i' cs2 hi'
    simp only [lk_ups] at hi'
    by_cases e : i' = i
    · subst e
      simp only [if_true, Option.some.injEq] at hi'
      subst hi'
      exact ⟨b, hρi, ⟨⟨vs', T, setRow_heap w b vs vs' T (0, 0) hb, hs, hc⟩, hbox.cell, hbox.cap⟩, hBX⟩
    · simp only [e, if_false] at hi'
      obtain ⟨b2, h2, h3, h4⟩ := h.boxes i' cs2 hi'
      have : b2 ≠ b := fun e2 => e (h.inj i' i b (e2 ▸ h2) hρi)
      exact ⟨b2, h2, h3.keep (Mem.Le.refl _) (fun _ _ h => h) (hne _ this) (fun _ => rfl) rfl, h4⟩
  · intro i' b' hi'
    simp only [lk_ups]
    split
    · rfl
    · exact h.dom i' b' hi'
  · intro s b' off hw hs'
    obtain ⟨h2, ⟨vs2, T2, n, h3, h4, h5⟩, h6⟩ := h.tips s b' off hw hs'
    have : b' ≠ b := fun e => by subst e; rw [hbox.cap] at h4; cases h4
    exact ⟨h2, ⟨vs2, T2, n, by rw [hne _ this, h3], h4, h5⟩, h6⟩
  · intro b' hb'
    rw [size_setRow]
    exact h.U b' hb'

end
end Go.Ax
