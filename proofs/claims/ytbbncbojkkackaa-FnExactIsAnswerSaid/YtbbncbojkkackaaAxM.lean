/- The abstract layer, part 13: append is sound; a literal of a slice's type; a slice against nil. -/
import Derived.Test.YtbbncbojkkackaaAxL
set_option linter.unusedSimpArgs false
namespace Go.Ax
section
variable {P : Program} {tab : Tab} {X : List Nat} {M0 : Mem} {w0 : World} {M : Mem} {ρ : Nat → Option Nat} {st : St} {a : Act} {w : World}

theorem Inv.delTip (h : Inv X M0 w0 M ρ st a w) (s0 : Nat) : Inv X M0 w0 M ρ { st with tips := del s0 st.tips } a w :=
  { h with
    tips := fun s b off hw hs => by
      simp only [lk_del] at hs
      split at hs
      · cases hs
      · exact h.tips s b off hw hs
    tipinj := fun s s' b off off' hw hw' hs hs' => by
      simp only [lk_del] at hs hs'
      split at hs
      · cases hs
      · split at hs'
        · cases hs'
        · exact h.tipinj s s' b off off' hw hw' hs hs' }

theorem Inv.addTip (h : Inv X M0 w0 M ρ st a w) (d : Nat) {b off hw n : Nat} {vs : Array Value} {T : TypeId} (hb : w.heap[b]? = some (.cells vs T (0, 0))) (hcap : M.cap b = some n) (hn : n ≤ vs.size)
    (hc : ∀ o, off + hw ≤ o → M.cell b o = none) (hB : w0.heap.size ≤ b) (hother : ∀ s off' hw', lk s st.tips ≠ some (some (b, off'), hw')) (U' : Nat → Prop) (hU' : ∀ x, U' x → st.U x ∨ x = b) :
    Inv X M0 w0 M ρ { st with tips := ups d (some (b, off), hw) st.tips, U := U' } a w :=
  { h with
    tips := fun s b' off' hw' hs => by
      simp only [lk_ups] at hs
      split at hs
      · injection hs with hs; injection hs with h1 h2; injection h1 with h1; injection h1 with h1 h3
        subst h1; subst h2; subst h3
        exact ⟨hB, ⟨vs, T, n, hb, hcap, hn⟩, hc⟩
      · exact h.tips s b' off' hw' hs
    tipinj := fun s s' b' off1 off2 hw1 hw2 hs hs' => by
      simp only [lk_ups] at hs hs'
      split at hs <;> split at hs'
      · omega
      · injection hs with hs; injection hs with h1 h2; injection h1 with h1; injection h1 with h1 h3
        subst h1
        exact absurd hs' (hother _ _ _)
      · injection hs' with hs'; injection hs' with h1 h2; injection h1 with h1; injection h1 with h1 h3
        subst h1
        exact absurd hs (hother _ _ _)
      · exact h.tipinj s s' b' off1 off2 hw1 hw2 hs hs'
    U := fun x hx => by
      rcases hU' x hx with hx | hx
      · exact h.U x hx
      · rw [hx]; exact ⟨hB, (Array.getElem?_eq_some_iff.1 hb).1, by rw [hcap]; rfl⟩ }

theorem Inv.noTip (h : Inv X M0 w0 M ρ st a w) (d hw : Nat) (U' : Nat → Prop) (hU' : ∀ x, U' x → st.U x) : Inv X M0 w0 M ρ { st with tips := ups d (none, hw) st.tips, U := U' } a w :=
  { h with
    tips := fun s b' off' hw' hs => by
      simp only [lk_ups] at hs
      split at hs
      · injection hs with hs; injection hs with h1 h2; cases h1
      · exact h.tips s b' off' hw' hs
    tipinj := fun s s' b' off1 off2 hw1 hw2 hs hs' => by
      simp only [lk_ups] at hs hs'
      split at hs
      · injection hs with hs; injection hs with h1 h2; cases h1
      · split at hs'
        · injection hs' with hs'; injection hs' with h1 h2; cases h1
        · exact h.tipinj s s' b' off1 off2 hw1 hw2 hs hs'
    U := fun x hx => h.U x (hU' x hx) }

/-- A new block that holds this row, and is known to. -/
theorem Inv.newRow (h : Inv X M0 w0 M ρ st a w) (news : List Value) (rest : Array Value) (T : TypeId) (n : Nat) :
    Inv X M0 w0 ((M.row w.heap.size 0 news).setCap w.heap.size n) ρ st a (w.alloc (.cells (news.toArray ++ rest) T)) := by
  have hle : M.Le ((M.row w.heap.size 0 news).setCap w.heap.size n) :=
    (Mem.row_le (fun o _ _ => h.agree.cellNone (Nat.le_refl _))).trans (Mem.setCap_le (.inl (h.agree.capNone (Nat.le_refl _))))
  refine h.grow hle rfl rfl rfl (by simp) (fun k hk => alloc_heap w _ k hk) ⟨fun b o v hv => ?_, fun b m hb => ?_⟩ (fun b hb => ?_)
  · simp only [Mem.setCap, Mem.row] at hv
    split at hv
    · rename_i hc
      obtain ⟨rfl, _, h2⟩ := hc
      rw [World.cell?_alloc_new]
      simp only [Nat.sub_zero] at hv
      have hlt := (List.getElem?_eq_some_iff.1 hv).1
      rw [Array.getElem?_append_left (by simpa using hlt)]
      simpa using hv
    · have h1 := h.agree.cell b o v hv
      have hlt : b < w.heap.size := World.block_lt_of_cell? w ⟨b, o, none⟩ h1
      rw [World.cell?_alloc_lt _ _ _ hlt]; exact h1
  · simp only [Mem.setCap, Mem.row] at hb
    simp only [World.size_alloc]
    split at hb
    · omega
    · have := h.agree.cap b m hb; omega
  · refine ⟨?_, ?_⟩
    · funext o
      simp only [Mem.setCap, Mem.row]
      rw [if_neg (by rintro ⟨e, _⟩; omega)]
    · simp only [Mem.setCap, Mem.row]
      rw [if_neg (by omega)]

/-- Cells are laid behind a row's end. -/
theorem Inv.inplace (h : Inv X M0 w0 M ρ st a w) {s0 b off hw : Nat} (hs : lk s0 st.tips = some (some (b, off), hw)) {vs : Array Value} {T : TypeId} (hb : w.heap[b]? = some (.cells vs T (0, 0))) (news : List Value) (hfit : off + hw + news.length ≤ vs.size) :
    Inv X M0 w0 (M.row b (off + hw) news) ρ { st with tips := del s0 st.tips } a (w.setRow b (lay vs.toList (off + hw) news).toArray) := by
  obtain ⟨hB, ⟨vs', T', n, hb', hcap, hn⟩, hfree⟩ := h.tips s0 b off hw hs
  obtain ⟨rfl, rfl⟩ : vs = vs' ∧ T = T' := by rw [hb] at hb'; injection hb' with hb'; injection hb' with h1 h2; exact ⟨h1, h2⟩
  have hle : M.Le (M.row b (off + hw) news) := Mem.row_le (fun o h1 _ => hfree o h1)
  have hne : ∀ k, k ≠ b → (w.setRow b (lay vs.toList (off + hw) news).toArray).heap[k]? = w.heap[k]? := fun k hk => setRow_other w b k _ hk
  have hcell : ∀ b', b' ≠ b → (M.row b (off + hw) news).cell b' = M.cell b' := by
    intro b' hb'
    funext o
    simp only [Mem.row]
    rw [if_neg (by rintro ⟨e, _⟩; exact hb' e)]
  have h0 := h.delTip s0
  refine { h0 with
    tmps := fun t x hx => (h0.tmps t x hx).mono hle (fun _ _ h => h), size := by rw [size_setRow]; exact h.size, frame := fun k hk hX => by rw [hne k (by omega)]; exact h.frame k hk hX, agree := ⟨?_, ?_⟩, boxes := ?_, tips := ?_, U := fun x hx => by rw [size_setRow]; exact h.U x hx, le := h.le.trans hle,
    old := fun b' hb' => by rw [hcell b' (by omega)]; exact h.old b' hb' }
  · intro b' o v hv
    by_cases e : b' = b
    · subst e
      rw [cell_setRow_same w b' o vs _ T (0, 0) hb]
      have hl : off + hw + news.length ≤ vs.toList.length := by simpa using hfit
      simp only [List.getElem?_toArray]
      rw [lay_getElem? _ _ _ hl]
      have hv' : (if b' = b' ∧ off + hw ≤ o ∧ o < off + hw + news.length then news[o - (off + hw)]? else M.cell b' o) = some v := hv
      by_cases c1 : o < off + hw
      · rw [if_pos c1]
        rw [if_neg (by omega)] at hv'
        have := h.agree.cell b' o v hv'
        simpa [World.cell?, hb] using this
      · rw [if_neg c1]
        by_cases c2 : o < off + hw + news.length
        · rw [if_pos c2]
          rw [if_pos ⟨rfl, by omega, c2⟩] at hv'
          exact hv'
        · rw [if_neg c2]
          rw [if_neg (by omega)] at hv'
          have := h.agree.cell b' o v hv'
          simpa [World.cell?, hb] using this
    · rw [cell_setRow_other _ _ _ _ e]
      rw [hcell b' e] at hv
      exact h.agree.cell b' o v hv
  · intro b' m hm
    rw [size_setRow]
    exact h.agree.cap b' m hm
  · intro i cs hi
    obtain ⟨bb, h1, h2, h3⟩ := h.boxes i cs hi
    have : bb ≠ b := fun e => by subst e; rw [h2.cap] at hcap; cases hcap
    exact ⟨bb, h1, h2.keep hle (fun _ _ h => h) (hne _ this) (fun o => by rw [hcell _ this]) rfl, h3⟩
  · intro s b' off' hw' hs'
    have hs2 := hs'
    simp only [lk_del] at hs2
    split at hs2
    · cases hs2
    · rename_i hss
      obtain ⟨h1, ⟨vs2, T2, n2, h2, h3, h4⟩, h5⟩ := h0.tips s b' off' hw' hs'
      have : b' ≠ b := fun e => by subst e; exact hss (h.tipinj s s0 _ _ _ _ _ hs2 hs)
      exact ⟨h1, ⟨vs2, T2, n2, by rw [hne _ this, h2], h3, h4⟩, fun o ho => by rw [hcell _ this]; exact h5 o ho⟩

/-- Where a slice's elements come from, as append asks for them. -/
theorem src_ok (hT : TabOK P tab) (hA : Agree M w) {j : TI} {tx : TypeId} {x : AV} {v : Value} {ys : List PV} (hx : RpA M ρ x v) (hj : 0 < j.size) (h : srcA tab j tx x = some ys) :
    ∃ news, Src P j.size tx v ys.length news w ∧ FlatR M j.size ys news := by
  unfold srcA at h
  split at h
  · rename_i s1 s2 z s ht
    split at h
    · rename_i hsz
      injection h with h; subst h
      obtain rfl := hx.lit_inv
      obtain ⟨d, hd, hok⟩ := (hT tx _ ht).und
      cases d <;> simp only [tdOK] at hok
      have hl : (s.data.toList.map fun b => PV.lit (.int .u8 b.toNat)).length = s.size := by rw [List.length_map, Array.length_toList]; rfl
      refine ⟨byteCells s, ?_, ⟨?_, ?_, ?_⟩⟩
      · rw [hl, hsz]; exact Src.ofString w hd s
      · intro e he
        rw [List.mem_map] at he
        obtain ⟨b, _, rfl⟩ := he
        simp [PV.cells, hsz]
      · rw [hl, hsz, Nat.mul_one]; exact byteCells_length s
      · intro i k e c u hi hk hu
        rw [List.getElem?_map, Option.map_eq_some_iff] at hi
        obtain ⟨b, hb, rfl⟩ := hi
        cases k with
        | succ k => simp [PV.cells] at hk
        | zero =>
          simp [PV.cells] at hk
          subst hk
          rw [hsz] at hu
          simp only [Nat.mul_one, Nat.add_zero, byteCells, List.getElem?_map, hb, Option.map_some, Option.some.injEq] at hu
          subst hu
          exact ⟨.lit _ rfl, rfl⟩
    · cases h
  · rename_i s1 s2 el z x ht
    split at h
    · rename_i sz es hes
      split at h
      · rename_i hsz
        injection h with h; subst h
        obtain ⟨d, hd, hok⟩ := (hT tx _ ht).und
        cases d <;> simp only [tdOK] at hok
        cases hx with
        | pv _ _ hx =>
          have hsz' : es = [] ∨ 0 < sz := by rcases hsz with h | h; exact .inr (by omega); exact .inl h
          obtain ⟨a', cap, vals, rfl, hcap, hsrc, hfl⟩ := hx.flat hes hsz'
          rcases hsz with rfl | rfl
          · rcases hsrc with rfl | ⟨b, off, rfl, hc⟩
            · obtain rfl : vals = [] := List.eq_nil_of_length_eq_zero (by simpa using hfl.len)
              refine ⟨[], ?_, hfl⟩
              cases a' with
              | none => exact Src.ofNil w hd cap
              | some ad => exact Src.ofSlice w hd ad 0 cap [] (by simp) (by simp) (by simp)
            · exact ⟨vals, Src.ofSlice w hd _ _ _ vals hfl.len (fun k u hu => by rw [add_none]; exact hA.cell _ _ _ (hc k u hu)) (hfl.one hj), hfl⟩
          · obtain rfl : vals = [] := List.eq_nil_of_length_eq_zero (by simpa using hfl.len)
            refine ⟨[], ?_, ⟨by simp, by simp, by simp⟩⟩
            cases a' with
            | none => exact Src.ofNil w hd cap
            | some ad => exact Src.ofSlice w hd ad 0 cap [] (by simp) (by simp) (by simp)
      · cases h
    · cases h
  · cases h

theorem app_sound (hT : TabOK P tab) (h : Inv X M0 w0 M ρ st a w) {t tx ty : TypeId} {s x : AV} {vs_ vx : Value} {d : Option Tmp} {K : AV → Tips → (Nat → Prop) → Prop} (hs : RpA M ρ s vs_) (hx : RpA M ρ x vx) (hk : appK tab t tx s x d st.tips st.U K) :
    ∃ u w' M' tips' U' v, (Builtin.append_ #[t, tx] ty #[vs_, vx]).run P w = .ok u w' ∧ Inv X M0 w0 M' ρ { st with tips := tips', U := U' } a w' ∧ RpA M' ρ v u ∧ K v tips' U' := by
  unfold appK at hk
  split at hk
  · rename_i s1 s2 el z s0 ob sz es d ht
    split at hk
    · rename_i j hj
      rw [bindK_iff] at hk
      obtain ⟨ys, hys, hsz, hpos, htip, hbytes, hlen, hk⟩ := hk
      obtain ⟨news, hsrc, hfl⟩ := src_ok (w := w) hT h.agree hx hpos hys
      obtain ⟨dt, hdt, hok⟩ := (hT t _ ht).und
      cases dt <;> simp only [tdOK] at hok
      subst hok
      obtain ⟨inf, zv, hi, hi1, hi2, hz, _, _, _⟩ := (hT el j hj).info
      cases hs with | pv _ _ hs => ?_
      rw [← hi1] at hsrc
      have grow : ∀ (base : Option Addr) (cap : Nat) (olds : List Value), vs_ = .slice base es.length cap → FlatR M j.size es olds →
          (Builtin.firstCells inf.size es.length (.slice base es.length cap)).run P w.drew = .ok olds.toArray w.drew → cap < es.length + ys.length → 
          ∃ u w' M' tips' U' v, (Builtin.append_ #[t, tx] ty #[vs_, vx]).run P w = .ok u w' ∧ Inv X M0 w0 M' ρ { st with tips := tips', U := U' } a w' ∧ RpA M' ρ v u ∧ K v tips' U' := by
        intro base cap olds hv hfo hfc hg
        subst hv
        have hrun := run_append_grow_src (P := P) w t tx ty el inf zv hdt hi hz base es.length cap olds hfc vx ys.length news hsrc hg (by omega) (growslice_fits hg (by rw [hi2]; exact hbytes))
        have hfa := (hfo.append hfl)
        have hi' := (h.drew.delTip s0).newRow (olds ++ news) (Builtin.zeroCells zv.cells (grownCap w (es.length + ys.length) cap el - (es.length + ys.length))) el (0 + grownCap w (es.length + ys.length) cap el * j.size)
        have hcapge : es.length + ys.length ≤ grownCap w (es.length + ys.length) cap el := grownCap_ge _ _ _ _
        have hrp : Rp ((M.row w.heap.size 0 (olds ++ news)).setCap w.heap.size (0 + grownCap w (es.length + ys.length) cap el * j.size)) (.own d (some (w.heap.size, 0)) j.size (es ++ ys)) (.slice (some ⟨w.heap.size, 0, none⟩) (es ++ ys).length (grownCap w (es.length + ys.length) cap el)) := by
          refine FlatR.ownOf (hfa.mono ?_) (by rw [List.length_append]; exact hcapge) (by simp [Mem.setCap]) ?_
          · exact (Mem.row_le (fun o _ _ => h.agree.cellNone (Nat.le_refl _))).trans (Mem.setCap_le (.inl (h.agree.capNone (Nat.le_refl _))))
          · intro k v hv
            exact Mem.row_cell (M := M) hv
        have hlen2 : (olds ++ news).length = (es ++ ys).length * j.size := by have := hfa.len; simpa using this
        refine ⟨_, _, _, _, _, _, hrun, hi'.addTip d (b := w.heap.size) (off := 0) (hw := (es ++ ys).length * j.size) (vs := (olds ++ news).toArray ++ Builtin.zeroCells zv.cells (grownCap w (es.length + ys.length) cap el - (es.length + ys.length))) (T := el) (n := 0 + grownCap w (es.length + ys.length) cap el * j.size) (alloc_new _ _) (by simp [Mem.setCap]) ?_ ?_ h.size ?_ (fun b => st.U b ∨ obBlk (some (w.heap.size, 0)) b) ?_, .pv _ _ ?_, hk (some (w.heap.size, 0)) (.inr ⟨w.heap.size, fun hu => by have := (h.U _ hu).2.1; omega, rfl⟩) (by simp)⟩
        · have hzs : zv.cells.size = j.size := by
            obtain ⟨inf2, zv2, g1, g2, g3, g4, g5, g6, _⟩ := (hT el j hj).info
            rw [hi] at g1; injection g1 with g1; subst g1
            rw [hz] at g4; injection g4 with g4; subst g4
            omega
          rw [Array.size_append, List.size_toArray, hlen2, size_zeroCells, hzs, List.length_append, ← Nat.add_mul]
          refine Nat.le_trans (Nat.le_of_eq (Nat.zero_add _)) (Nat.mul_le_mul_right _ ?_)
          omega
        · intro o ho
          simp only [Mem.setCap, Mem.row]
          rw [if_neg (by rintro ⟨_, _, h3⟩; omega)]
          exact h.agree.cellNone (Nat.le_refl _)
        · intro s off' hw' hs'
          have hs2 := (h.delTip s0).tips s w.heap.size off' hw' hs'
          obtain ⟨_, ⟨vs2, T2, n2, h2, _⟩, _⟩ := hs2
          have := (Array.getElem?_eq_some_iff.1 h2).1
          omega
        · intro x hx
          rcases hx with hx | ⟨p, hp, rfl⟩
          · exact .inl hx
          · injection hp with hp; subst hp; exact .inr rfl
        · rw [List.length_append] at hrp; exact hrp
      cases hs with
      | own0 _ _ base =>
        by_cases hn : ys.length = 0
        · obtain rfl : ys = [] := List.eq_nil_of_length_eq_zero hn
          obtain rfl : news = [] := List.eq_nil_of_length_eq_zero (by simpa using hfl.len)
          have hrun : (Builtin.append_ #[t, tx] ty #[.slice base 0 0, vx]).run P w = .ok (.slice base 0 0) w := by
            have e1 := hsrc.cells
            simp only [List.length_nil] at e1
            rcases hsrc.kind with ⟨e', hk'⟩ | hk' <;> cases base <;> simp [Builtin.append_, run_underlying hdt, run_underlying hk', sizeOf, typeInfo, hi, hsrc.len, e1, storeCells]
          refine ⟨_, _, M, _, _, _, hrun, (h.delTip s0).noTip d _ (fun b => st.U b ∨ obBlk none b) ?_, ?_, hk none (.inl rfl) (fun _ => rfl)⟩
          · intro x hx
            rcases hx with hx | ⟨p, hp, _⟩
            · exact hx
            · cases hp
          · exact .pv _ _ (.own0 _ _ _)
        · refine grow base 0 [] (by simp) ⟨by simp, by simp, by simp⟩ ?_ (by simp; omega)
          cases base with
          | none => simpa using run_firstCells_none (P := P) w.drew inf.size 0 0 0
          | some ad => simpa using run_firstCells_some (P := P) w.drew inf.size 0 ad 0 0 [] (by simp) (by simp)
      | own _ _ _ b off cap F hcap hend hz' hm hr =>
        have hpv : Rp M (.own s0 (some (b, off)) sz es) (.slice (some ⟨b, off, none⟩) es.length cap) := .own s0 sz es b off cap F hcap hend hz' hm hr
        have htip' : lk s0 st.tips = some (some (b, off), es.length * sz) := by rcases htip with h | h; cases h; exact h
        obtain ⟨hB, ⟨cur, T, n, hcur, hcapn, hncur⟩, hfree⟩ := h.tips s0 b off _ htip'
        have hn' : n = off + cap * sz := by rw [hend] at hcapn; injection hcapn with hcapn; exact hcapn.symm
        subst hn'
        obtain rfl : j.size = sz := by rcases hsz with h | h; exact h; cases h
        obtain ⟨a', cap', olds, hv, hcap', hsrc', hfo⟩ := hpv.flat rfl (.inr hpos)
        injection hv with hv1 _ hv2; subst hv1; subst hv2
        have hfo' : FlatR M j.size es olds := hfo
        by_cases hroom : es.length + ys.length ≤ cap
        · have hnl : news.length = ys.length * j.size := hfl.len
          have hfit : off + es.length * j.size + news.length ≤ cur.size := by
            have : (es.length + ys.length) * j.size ≤ cap * j.size := Nat.mul_le_mul_right _ hroom
            rw [Nat.add_mul] at this
            omega
          have hst := run_storeCells_at P b (off + es.length * j.size) T news 0 cur w hcur (by simpa using hfit) (hfl.one hpos)
          simp only [Nat.add_zero] at hst
          have hst' : (storeCells ⟨b, off + es.length * j.size, none⟩ news).run P w = .ok () (w.setRow b (lay cur.toList (off + es.length * j.size) news).toArray) := hst
          have hrun : (Builtin.append_ #[t, tx] ty #[.slice (some ⟨b, off, none⟩) es.length cap, vx]).run P w = .ok (.slice (some ⟨b, off, none⟩) (es.length + ys.length) cap) (w.setRow b (lay cur.toList (off + es.length * j.size) news).toArray) := by
            have e1 := hsrc.cells
            rw [hi1] at e1
            rcases hsrc.kind with ⟨e', hk'⟩ | hk' <;> simp [Builtin.append_, run_underlying hdt, run_underlying hk', sizeOf, typeInfo, hi, hsrc.len, hroom, e1, add_none, hi1, hst']
          have hin := h.inplace htip' hcur news hfit
          have hle : M.Le (M.row b (off + es.length * j.size) news) := Mem.row_le (fun o h1 _ => hfree o h1)
          refine ⟨_, _, _, _, _, _, hrun, hin.addTip d (b := b) (off := off) (hw := (es ++ ys).length * j.size) (vs := (lay cur.toList (off + es.length * j.size) news).toArray) (T := T) (n := off + cap * j.size) (setRow_heap w b cur _ T (0, 0) hcur) hcapn ?_ ?_ hB ?_ (fun x => st.U x ∨ obBlk (some (b, off)) x) ?_, .pv _ _ ?_, hk (some (b, off)) (.inl rfl) (by simp)⟩
          · rw [List.size_toArray, lay_length _ _ _ (by simpa using hfit)]
            simpa using hncur
          · intro o ho
            rw [List.length_append, Nat.add_mul] at ho
            simp only [Mem.row]
            rw [if_neg (by omega)]
            exact hfree o (by omega)
          · intro s off' hw' hs'
            simp only [lk_del] at hs'
            split at hs'
            · cases hs'
            · rename_i hss
              exact hss (h.tipinj s s0 _ _ _ _ _ hs' htip')
          · intro x hx
            rcases hx with hx | ⟨p, hp, rfl⟩
            · exact .inl hx
            · injection hp with hp; subst hp; exact .inr rfl
          · have := FlatR.ownOf (s := d) (b := b) (off := off) (cap := cap) ((hfo'.append hfl).mono hle) (by rw [List.length_append]; exact hroom) hcapn (by
              intro k v hv
              by_cases hk' : k < olds.length
              · rw [List.getElem?_append_left hk'] at hv
                rcases hsrc' with h0 | ⟨b2, off2, hb2, hc⟩
                · subst h0
                  have h0' : olds.length = 0 := by rw [hfo'.len]; simp
                  omega
                · injection hb2 with hb2; injection hb2 with e1 e2; subst e1; subst e2
                  exact hle.cell _ _ _ (hc k v hv)
              · rw [List.getElem?_append_right (by omega), hfo'.len] at hv
                have := Mem.row_cell (M := M) (b := b) (o0 := off + es.length * j.size) hv
                rwa [show off + es.length * j.size + (k - es.length * j.size) = off + k by have := hfo'.len; omega] at this)
            rw [List.length_append] at this
            exact this
        · refine grow _ cap olds rfl hfo' ?_ (by omega)
          refine run_firstCells_some (P := P) w.drew inf.size es.length _ es.length cap olds (by rw [hi1]; exact hfo'.len) ?_
          intro k u hu
          rcases hsrc' with h0 | ⟨b2, off2, hb2, hc⟩
          · subst h0
            obtain rfl : olds = [] := List.eq_nil_of_length_eq_zero (by simpa using hfo'.len)
            simp at hu
          · injection hb2 with hb2; injection hb2 with e1 e2; subst e1; subst e2
            rw [add_none]
            exact h.agree.cell _ _ _ (hc k u hu)
    · exact hk.elim
  · exact hk.elim

end
end Go.Ax
