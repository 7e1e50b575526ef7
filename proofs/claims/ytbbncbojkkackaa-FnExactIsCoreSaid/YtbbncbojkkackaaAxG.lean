/- The abstract layer, part 7: the rest of what computes or reads, and all of it together. -/
import Derived.Test.YtbbncbojkkackaaAxF
import Derived.Laws.BytesArg
set_option linter.unusedSimpArgs false
namespace Go.Ax
section
variable {P : Program} {tab : Tab} {M : Mem} {ρ : Nat → Option Nat} {w : World}

theorem run_unA {op : UnOp} {a r : AV} {v : Value} (ha : RpA M ρ a v) (h : unA op a = some r) : ∃ u, (Op.unary op v).run P w = .ok u w ∧ RpA M ρ r u := by
  unfold unA at h
  split at h
  · obtain rfl := ha.lit_inv
    injection h with h; subst h
    exact ⟨_, by simp [Op.unary], .pv _ _ (.lit _ rfl)⟩
  · obtain rfl := ha.lit_inv
    injection h with h; subst h
    exact ⟨_, by simp [Op.unary, Op.intArith], .pv _ _ (.lit _ rfl)⟩
  · cases h

theorem bytesOf_some : ∀ {es : List PV} {l : List UInt8}, bytesOf es = some l → ∃ xs : List Int, es = xs.map (fun n => PV.lit (.int .u8 n)) ∧ l = xs.map (fun n => UInt8.ofNat n.toNat)
  | [], l, h => by simp [bytesOf] at h; exact ⟨[], rfl, by simp [← h]⟩
  | x :: es, l, h => by
    unfold bytesOf at h
    split at h
    · cases ‹_ :: _ = []›
    · rename_i n r heq
      injection heq with h1 h2
      subst h1; subst h2
      rw [Option.map_eq_some_iff] at h
      obtain ⟨q, hq, rfl⟩ := h
      obtain ⟨xs, rfl, rfl⟩ := bytesOf_some hq
      exact ⟨n :: xs, by simp, by simp⟩
    · cases h

theorem run_convA (hA : Agree M w) (hT : TabOK P tab) {s d : TypeId} {a r : AV} {v : Value} (ha : RpA M ρ a v) (h : convA tab s d a = some r) : ∃ u, (convert s d v).run P w = .ok u w ∧ RpA M ρ r u := by
  unfold convA at h
  split at h
  · rename_i s1 s2 s3 k0 z1 s4 s5 k z2 k' n hs hd
    obtain rfl := ha.lit_inv
    injection h with h; subst h
    obtain ⟨ds, hds, hok⟩ := (hT s _ hs).und
    obtain ⟨dd, hdd, hok'⟩ := (hT d _ hd).und
    cases ds <;> simp only [tdOK] at hok
    cases dd <;> simp only [tdOK] at hok'
    subst hok'
    exact ⟨_, by simp [convert, run_underlying hds, run_underlying hdd, Conv.intToInt], .pv _ _ (.lit _ rfl)⟩
  · rename_i s1 s2 e z1 s4 s5 z2 x hs hd
    split at h
    · rename_i _ _ _ _ es he hes
      rw [Option.map_eq_some_iff] at h
      obtain ⟨l, hl, rfl⟩ := h
      obtain ⟨xs, rfl, rfl⟩ := bytesOf_some hl
      obtain ⟨ds, hds, hok⟩ := (hT s _ hs).und
      obtain ⟨dd, hdd, hok'⟩ := (hT d _ hd).und
      obtain ⟨de, hde, hoke⟩ := (hT e _ he).und
      cases ds <;> simp only [tdOK] at hok
      cases dd <;> simp only [tdOK] at hok'
      cases de <;> simp only [tdOK] at hoke
      subst hok; subst hoke
      cases ha with
      | pv _ _ ha =>
        obtain ⟨a, cap, rfl, hcap, hel⟩ := ha.elemAt hes
        refine ⟨.string (strOfNums xs), ?_, .pv _ _ (.lit _ rfl)⟩
        cases a with
        | none =>
          cases xs with
          | nil => exact run_convert_bytes_nil (P := P) w s e hds hde 0 cap d hdd
          | cons n xs =>
            obtain ⟨b, off, F, h1, _⟩ := hel 0 _ rfl
            cases h1
        | some ad =>
          obtain ⟨b, off, spot⟩ := ad
          have hsp : xs.length = 0 ∨ spot = none := by
            cases xs with
            | nil => exact .inl rfl
            | cons n xs =>
              obtain ⟨b', off', F, h1, _⟩ := hel 0 _ rfl
              injection h1 with h1; injection h1 with _ _ h1
              exact .inr h1
          rcases hsp with h0 | rfl
          · obtain rfl := List.eq_nil_of_length_eq_zero h0
            simp [convert, run_underlying hds, run_underlying hdd, run_underlying hde, Conv.bytesToString, loadCells, loadCellsFrom, strOfNums]
            rfl
          · have hlen : (List.map (fun n => PV.lit (Value.int IntKind.u8 n)) xs).length = xs.length := by simp
            rw [hlen]
            refine run_convert_bytes_arg w s e hds hde b off xs.length cap xs rfl (fun i hi => ?_) d hdd
            obtain ⟨b', off', F, h1, _, hm, hr⟩ := hel i (.lit (.int .u8 xs[i])) (by simp [hi])
            injection h1 with h1; injection h1 with h2 h3
            subst h2; subst h3
            have h4 := hm 0 _ rfl
            have h5 := hr 0 _ rfl
            generalize hF : F 0 = f0 at h4 h5
            cases h5
            have h6 := hA.cell _ _ _ h4.1
            simp only [Nat.mul_one, Nat.add_zero] at h6
            rw [h6]
            simp [hi]
    · cases h
  · cases h

theorem lenElems {x : PV} {v : Value} {p : Nat × List PV} (h : Rp M x v) (hx : x.elems = some p) : ∃ a cap, v = .slice a p.2.length cap := by
  obtain ⟨sz, es⟩ := p
  obtain ⟨a, cap, rfl, _⟩ := h.elemAt hx
  exact ⟨a, cap, rfl⟩

theorem run_lenA (hT : TabOK P tab) {t ty : TypeId} {x r : AV} {v : Value} (hx : RpA M ρ x v) (h : lenA tab t x = some r) : ∃ u, (Builtin.len_ #[t] ty #[v]).run P w = .ok u w ∧ RpA M ρ r u := by
  unfold lenA at h
  split at h
  · rename_i ht
    obtain rfl := hx.lit_inv
    injection h with h; subst h
    obtain ⟨d, hd, hok⟩ := (hT t _ ht).und
    cases d <;> simp only [tdOK] at hok
    exact ⟨_, by simp [Builtin.len_, run_underlying hd, goInt], .pv _ _ (.lit _ rfl)⟩
  · rename_i ht
    rw [Option.map_eq_some_iff] at h
    obtain ⟨p, hp, rfl⟩ := h
    cases hx with
    | pv _ _ hx =>
      obtain ⟨a, cap, rfl⟩ := lenElems hx hp
      obtain ⟨d, hd, hok⟩ := (hT t _ ht).und
      cases d <;> simp only [tdOK] at hok
      exact ⟨_, by simp [Builtin.len_, run_underlying hd, goInt], .pv _ _ (.lit _ rfl)⟩
  · rename_i ht
    injection h with h; subst h
    cases hx with
    | msl _ _ _ _ _ =>
      obtain ⟨d, hd, hok⟩ := (hT t _ ht).und
      cases d <;> simp only [tdOK] at hok
      exact ⟨_, by simp [Builtin.len_, run_underlying hd, goInt], .pv _ _ (.lit _ rfl)⟩
  · cases h

/-- A bound of a slice expression. -/
def BRel (M : Mem) (ρ : Nat → Option Nat) (a : Option AV) (v : Option Value) : Prop := (a = none ∧ v = none) ∨ ∃ x y, a = some x ∧ v = some y ∧ RpA M ρ x y

theorem run_bounds {isS : Bool} {len cap : Nat} {lo hi : Option AV} {vlo vhi : Option Value} (hlo : BRel M ρ lo vlo) (hhi : BRel M ρ hi vhi) {l h : Int} (hl : boundA 0 lo = some l) (hh : boundA len hi = some h)
    (h0 : 0 ≤ l) (h1 : l ≤ h) (h2 : h ≤ cap) : (Instr.sliceBounds isS len cap vlo vhi none).run P w = .ok (l.toNat, h.toNat, cap) w := by
  rcases hlo with ⟨rfl, rfl⟩ | ⟨x, y, rfl, rfl, hx⟩ <;> rcases hhi with ⟨rfl, rfl⟩ | ⟨x', y', rfl, rfl, hx'⟩ <;> simp only [boundA] at hl hh
  · simp at hl hh; subst hl; subst hh
    simp [Instr.sliceBounds]
  · simp at hl; subst hl
    split at hh <;> simp_all
    obtain rfl := hx'.lit_inv
    have : 0 ≤ h := h1
    simp [Instr.sliceBounds, Instr.sliceBound, asIntOf, *]
  · simp at hh; subst hh
    split at hl <;> simp_all
    obtain rfl := hx.lit_inv
    simp [Instr.sliceBounds, Instr.sliceBound, asIntOf, *]
  · split at hh <;> simp_all
    split at hl <;> simp_all
    obtain rfl := hx.lit_inv
    obtain rfl := hx'.lit_inv
    have e1 : 0 ≤ h := by omega
    have e2 : max h 0 = h := by omega
    simp [Instr.sliceBounds, Instr.sliceBound, asIntOf, *]

theorem run_sliceA (hT : TabOK P tab) {t : TypeId} {x r : AV} {lo hi mx : Option AV} {v : Value} {vlo vhi vmx : Option Value} (hx : RpA M ρ x v) (hlo : BRel M ρ lo vlo) (hhi : BRel M ρ hi vhi) (hmx : BRel M ρ mx vmx)
    (h : sliceA tab t x lo hi mx = some r) : ∃ u, (Instr.sliceAt t v vlo vhi vmx).run P w = .ok u w ∧ RpA M ρ r u := by
  unfold sliceA at h
  split at h
  · rename_i s1 s2 z s ht
    obtain rfl := hx.lit_inv
    obtain ⟨d, hd, hok⟩ := (hT t _ ht).und
    cases d <;> simp only [tdOK] at hok
    obtain rfl : vmx = none := by rcases hmx with ⟨_, h⟩ | ⟨_, _, h, _⟩; exact h; cases h
    split at h
    · rename_i l hh hl hhh
      split at h
      · rename_i hc
        injection h with h; subst h
        have hb := run_bounds (P := P) (w := w) (isS := false) (cap := s.size) hlo hhi hl hhh hc.1 hc.2.1 hc.2.2
        exact ⟨_, by simp [Instr.sliceAt, run_underlying hd, Instr.slice, hb], .pv _ _ (.lit _ rfl)⟩
      · cases h
    · cases h
  · rename_i s1 s2 el z x ht
    obtain ⟨d, hd, hok⟩ := (hT t _ ht).und
    cases d <;> simp only [tdOK] at hok
    subst hok
    obtain rfl : vmx = none := by rcases hmx with ⟨_, h⟩ | ⟨_, _, h, _⟩; exact h; cases h
    cases hx with | pv _ _ hx => ?_
    split at h
    · rename_i j sz es hj
      split at h
      · rename_i l hh hl hhh
        split at h
        · rename_i hc
          obtain ⟨hjs, hsz, h0, h1, h2⟩ := hc
          injection h with h; subst h
          obtain ⟨a, cap, rfl, hcap, hel⟩ := hx.elemAt rfl
          have hb := run_bounds (P := P) (w := w) (isS := true) (cap := cap) hlo hhi hl hhh h0 h1 (by omega)
          refine ⟨.slice (if cap = l.toNat then a else a.map (·.add (l.toNat * j.size))) (hh.toNat - l.toNat) (cap - l.toNat), by simp [Instr.sliceAt, run_underlying hd, Instr.slice, hb, run_sizeOf (hT _ _ hj)], .pv _ _ ?_⟩
          by_cases hlt : l.toNat < hh.toNat
          · obtain ⟨b, off, F0, rfl, _⟩ := hel l.toNat es[l.toNat] (List.getElem?_eq_getElem (by omega))
            have hne : ¬ cap = l.toNat := by omega
            simp only [hne, if_false, Option.map_some, add_none, hjs]
            obtain ⟨ys, hys⟩ : ∃ ys, ys = ((es.drop l.toNat).take (hh.toNat - l.toNat)) := ⟨_, rfl⟩
            rw [← hys]
            have hlen : hh.toNat - l.toNat = ys.length := by rw [hys]; simp; omega
            cases hx with
            | sl0 => simp at h2; omega
            | sl _ _ b2 off2 cap2 F hcap2 hz hm hr =>
              rw [hlen]
              refine .sl sz ys b (off + l.toNat * sz) (cap - l.toNat) (fun i j => F (l.toNat + i) j) (by rw [← hlen]; omega) (fun e he => hz e (by rw [hys] at he; exact List.mem_of_mem_drop (List.mem_of_mem_take he))) ?_ ?_
              · intro i j e c hi hj
                have hi' : i < hh.toNat - l.toNat := by
                  have := (List.getElem?_eq_some_iff.1 hi).1
                  omega
                rw [hys] at hi
                rw [List.getElem?_take_of_lt hi', List.getElem?_drop] at hi
                have := hm _ j e c hi hj
                rwa [show off + l.toNat * sz + i * sz + j = off + (l.toNat + i) * sz + j by rw [Nat.add_mul]; omega]
              · intro i j e c hi hj
                have hi' : i < hh.toNat - l.toNat := by
                  have := (List.getElem?_eq_some_iff.1 hi).1
                  omega
                rw [hys] at hi
                rw [List.getElem?_take_of_lt hi', List.getElem?_drop] at hi
                exact hr _ j e c hi hj
          · have e1 : hh.toNat - l.toNat = 0 := by omega
            rw [e1]
            simp only [List.take_zero]
            exact .sl0 _ _ _
        · cases h
      · cases h
    · rename_i j s ob sz es hj
      split at h
      · rename_i l hh hl hhh
        split at h
        · rename_i hc
          obtain ⟨hjs, hsz, h0, h1, h2⟩ := hc
          obtain ⟨a, cap, rfl, hcap, hel⟩ := hx.elemAt rfl
          have hb := run_bounds (P := P) (w := w) (isS := true) (cap := cap) hlo hhi hl hhh h0 h1 (by omega)
          have hrun : (Instr.sliceAt t (.slice a es.length cap) vlo vhi none).run P w = .ok (.slice (if cap = l.toNat then a else a.map (·.add (l.toNat * j.size))) (hh.toNat - l.toNat) (cap - l.toNat)) w := by
            simp [Instr.sliceAt, run_underlying hd, Instr.slice, hb, run_sizeOf (hT _ _ hj)]
          split at h
          · rename_i hlt
            injection h with h; subst h
            refine ⟨_, hrun, .pv _ _ ?_⟩
            have hne : ¬ cap = l.toNat := by omega
            cases hx with
            | own0 => simp at h2; omega
            | own _ _ _ b off cap2 F hcap2 hend hz hm hr =>
              simp only [hne, if_false, Option.map_some, add_none, hjs]
              obtain ⟨ys, hys⟩ : ∃ ys, ys = ((es.drop l.toNat).take (hh.toNat - l.toNat)) := ⟨_, rfl⟩
              rw [← hys]
              have hlen : hh.toNat - l.toNat = ys.length := by rw [hys]; simp; omega
              rw [hlen]
              refine .own s sz ys b (off + l.toNat * sz) (cap - l.toNat) (fun i j => F (l.toNat + i) j) (by rw [← hlen]; omega) ?_ (fun e he => hz e (by rw [hys] at he; exact List.mem_of_mem_drop (List.mem_of_mem_take he))) ?_ ?_
              · rw [hend]; congr 1
                have : cap * sz = (l.toNat + (cap - l.toNat)) * sz := by congr 1; omega
                rw [this, Nat.add_mul]; omega
              · intro i j e c hi hj
                have hi' : i < hh.toNat - l.toNat := by
                  have := (List.getElem?_eq_some_iff.1 hi).1
                  omega
                rw [hys] at hi
                rw [List.getElem?_take_of_lt hi', List.getElem?_drop] at hi
                have := hm _ j e c hi hj
                rwa [show off + l.toNat * sz + i * sz + j = off + (l.toNat + i) * sz + j by rw [Nat.add_mul]; omega]
              · intro i j e c hi hj
                have hi' : i < hh.toNat - l.toNat := by
                  have := (List.getElem?_eq_some_iff.1 hi).1
                  omega
                rw [hys] at hi
                rw [List.getElem?_take_of_lt hi', List.getElem?_drop] at hi
                exact hr _ j e c hi hj
          · rename_i hlt
            injection h with h; subst h
            refine ⟨_, hrun, .pv _ _ ?_⟩
            have e1 : hh.toNat - l.toNat = 0 := by omega
            rw [e1]
            exact .sl0 _ _ _
        · cases h
      · cases h
    · cases h
  · rename_i s1 s2 el z x k ht
    obtain ⟨d, hd, hok⟩ := (hT t _ ht).und
    cases d <;> simp only [tdOK] at hok
    subst hok
    cases hx with | pv _ _ hx => ?_
    rcases hmx with ⟨h', _⟩ | ⟨_, y, h', rfl, hy⟩
    · cases h'
    · injection h' with h'; subst h'
      obtain rfl := hy.lit_inv
      split at h
      · rename_i j p hj hp hl hh
        injection h with h; subst h
        obtain ⟨a, cap, rfl⟩ := lenElems hx hp
        have hlo' : vlo = none ∨ ∃ k, vlo = some (.int k 0) := by
          rcases hlo with ⟨_, h⟩ | ⟨x, y, rfl, rfl, hx⟩
          · exact .inl h
          · simp only [boundA] at hl
            split at hl <;> simp_all
            exact ⟨_, hx.lit_inv⟩
        have hhi' : ∃ k, vhi = some (.int k 0) := by
          rcases hhi with ⟨rfl, h⟩ | ⟨x, y, rfl, rfl, hx⟩
          · simp [boundA] at hh
          · simp only [boundA] at hh
            split at hh <;> simp_all
            exact ⟨_, hx.lit_inv⟩
        obtain ⟨k2, rfl⟩ := hhi'
        refine ⟨.slice a 0 0, ?_, .pv _ _ (.own0 _ _ _)⟩
        rcases hlo' with rfl | ⟨k1, rfl⟩ <;> simp [Instr.sliceAt, run_underlying hd, Instr.slice, Instr.sliceBounds, Instr.sliceBound, asIntOf, run_sizeOf (hT _ _ hj)]
      · cases h
  · cases h

end
end Go.Ax
