/- The typed table of types against the other one, checked by the kernel. -/
import Derived.Test.YtbbncbojkkackaaTxN
set_option linter.unusedVariables false
set_option linter.unusedSimpArgs false
namespace Go.Tx
open Go.Ax

def zvB : TV Dd → PV → Bool
  | .int k n, .lit (.int k' n') => k == k' && n == n'
  | .bool b, .lit (.bool b') => b == b'
  | .str s, .lit (.string s') => s.data.toList.isEmpty && s'.data.toList.isEmpty
  | .own 0 0 c [], .own 0 none sz [] => Nat.beq (szd c) sz
  | .sl c [], .own 0 none sz [] => Nat.beq (szd c) sz
  | .lit .nilFunc, .lit .nilFunc => true
  | .lit (.pointer none), .lit (.pointer none) => true
  | _, _ => false

theorem empty_bytes {s : ByteArray} (h : s.data.toList.isEmpty = true) : s = ⟨#[]⟩ := by
  obtain ⟨⟨l⟩⟩ := s
  cases l with
  | nil => rfl
  | cons a b => simp at h

theorem zvB_ok {v : TV Dd} {y : PV} (h : zvB v y = true) : y.erase = TV.pv UU v ∧ (v.flat = true ∨ ∃ c, v = .own 0 0 c [] ∧ y = .own 0 none (szd c) []) := by
  unfold zvB at h
  split at h
  · simp only [Bool.and_eq_true, beq_iff_eq] at h
    obtain ⟨rfl, rfl⟩ := h
    exact ⟨rfl, .inl rfl⟩
  · simp only [beq_iff_eq] at h
    subst h
    exact ⟨rfl, .inl rfl⟩
  · simp only [Bool.and_eq_true] at h
    rw [empty_bytes h.1, empty_bytes h.2]
    exact ⟨rfl, .inl rfl⟩
  · rw [beqN] at h
    subst h
    exact ⟨rfl, .inr ⟨_, rfl, rfl⟩⟩
  · rw [beqN] at h
    subst h
    exact ⟨rfl, .inl rfl⟩
  · exact ⟨rfl, .inl rfl⟩
  · exact ⟨rfl, .inl rfl⟩
  · cases h

def zvsB : List (TV Dd) → List PV → Bool
  | [], [] => true
  | v :: vs, y :: ys => zvB v y && zvsB vs ys
  | _, _ => false

theorem zvsB_ok : ∀ {vs : List (TV Dd)} {ys : List PV}, zvsB vs ys = true → ys.length = vs.length ∧ PV.eraseL ys = TV.pvL UU vs ∧ ∀ (i : Nat) v y, vs[i]? = some v → ys[i]? = some y → ZV UU v y
  | [], [], _ => ⟨rfl, rfl, by simp⟩
  | [], _ :: _, h => by simp [zvsB] at h
  | _ :: _, [], h => by simp [zvsB] at h
  | v :: vs, y :: ys, h => by
    simp only [zvsB, Bool.and_eq_true] at h
    obtain ⟨h1, h2⟩ := h
    obtain ⟨g1, g2⟩ := zvB_ok h1
    obtain ⟨f1, f2, f3⟩ := zvsB_ok h2
    refine ⟨by simp [f1], by simp only [PV.eraseL, TV.pvL, g1, f2], ?_⟩
    intro i v' y' p q
    cases i with
    | zero =>
      simp at p q; subst p; subst q
      rcases g2 with g2 | ⟨c, rfl, rfl⟩
      · exact .flat _ _ g2 g1
      · exact .own c
    | succ i => exact f3 i v' y' (by simpa using p) (by simpa using q)

def tkB (tab : Tab) : TK → TD → Bool
  | .str, .str => true
  | .bool, .bool => true
  | .int k, .int k' => k == k'
  | .slice c b, .slice e => match tab e with
    | some j => Nat.beq j.size (szd c) && Nat.beq j.bytes b && Nat.ble 1 (szd c) && zvsB (encd c (dfltd c)) j.zero
    | none => false
  | .struct fs, .struct fs' => fs == fs'
  | .fn, .fn => true
  | .ptr, .ptr => true
  | _, _ => false

theorem tkB_ok {tab : Tab} {k : TK} {d : TD} (h : tkB tab k d = true) : tkOK UU tab k d := by
  unfold tkB at h
  split at h <;> first | trivial | (cases h; done) | skip
  · simpa [tkOK] using h
  · split at h
    · rename_i j hj
      simp only [Bool.and_eq_true, beqN, Nat.ble_eq] at h
      obtain ⟨⟨⟨h1, h2⟩, h3⟩, h4⟩ := h
      refine ⟨j, hj, h1, h2, h3, ?_⟩
      rw [(zvsB_ok h4).2.1]
      exact UU_enc _ _
    · cases h
  · simpa [tkOK] using h

def ttB (tabL : List (Nat × TI)) (p : Nat × TT Dd) : Bool :=
  match lk p.1 tabL with
  | some j => Nat.beq j.size p.2.size && tkB (fun t => lk t tabL) p.2.k j.td && zvsB p.2.zero j.zero && Nat.beq p.2.zero.length p.2.size
  | none => false

theorem ttOK_of {tabL : List (Nat × TI)} {ttL : List (Nat × TT Dd)} (h : ttL.all (ttB tabL) = true) : TTOK UU (fun t => lk t tabL) (fun t => lkT t ttL) := by
  refine ⟨fun t i hi => ?_⟩
  have hi : lk t ttL = some i := by rw [← lkT_eq]; exact hi
  have hm := lk_mem hi
  rw [List.all_eq_true] at h
  have := h _ hm
  unfold ttB at this
  simp only at this
  split at this
  · rename_i j hj
    simp only [Bool.and_eq_true, beqN] at this
    obtain ⟨⟨⟨h1, h2⟩, h3⟩, h4⟩ := this
    obtain ⟨g1, _, g3⟩ := zvsB_ok h3
    exact ⟨j, hj, h1, tkB_ok h2, g1, h4, g3⟩
  · cases this

/-- Entries, one behind the other. -/
theorem allP_nil {U : Uni} {P : Program} : ∀ e ∈ ([] : List (EntP U)), e.Ok P := by simp
theorem allP_cons {U : Uni} {P : Program} {e : EntP U} {l : List (EntP U)} (h : e.Ok P) (hl : ∀ x ∈ l, x.Ok P) : ∀ x ∈ e :: l, x.Ok P := by
  intro x hx
  rcases List.mem_cons.1 hx with e1 | hx
  · rw [e1]; exact h
  · exact hl x hx
theorem allX_nil {U : Uni} {P : Program} : ∀ e ∈ ([] : List (EntX U)), e.Ok P := by simp
theorem allX_cons {U : Uni} {P : Program} {e : EntX U} {l : List (EntX U)} (h : e.Ok P) (hl : ∀ x ∈ l, x.Ok P) : ∀ x ∈ e :: l, x.Ok P := by
  intro x hx
  rcases List.mem_cons.1 hx with e1 | hx
  · rw [e1]; exact h
  · exact hl x hx
end Go.Tx
