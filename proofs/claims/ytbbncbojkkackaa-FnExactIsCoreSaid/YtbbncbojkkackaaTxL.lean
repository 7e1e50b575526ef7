/- Typed execution, part 12: code, and a function's contract. -/
import Derived.Test.YtbbncbojkkackaaTxK
import Derived.Test.YtbbncbojkkackaaAxZ
set_option linter.unusedVariables false
set_option linter.unusedSimpArgs false
namespace Go.Tx
open Go.Ax

section
variable {U : Uni} {R : Type} {P : Program} {tab : Tab} {X : List Nat} {M0 : Mem} {w0 : World}

/-- What a typed state stands for. -/
def FitsT (U : Uni) (X : List Nat) (M0 : Mem) (w0 : World) (s : TS U.D) (a : Act) (w : World) : Prop := ∃ M ρ st, Inv X M0 w0 M ρ st a w ∧ Rel U s st

/-- The orders of the regions that draw them. -/
def ordsB (ord : List (Nat × List Nat)) : Code → Bool
  | .region id ops true => match lkT id ord with
    | some l => Go.Ax.O.ordOK ops l
    | none => false
  | .seq a b => ordsB ord a && ordsB ord b
  | .cond _ x y => ordsB ord x && ordsB ord y
  | .block _ c => ordsB ord c
  | .loop c => ordsB ord c
  | _ => true

/-- The equations of the loops. -/
def Eqs (E : Nat → Env U R) (nt : Nat) (r : R) : Code → (Nat → Exit → TS U.D → Option R) → Prop
  | .seq a b, K => Eqs E nt r a (fun m => thenT U (trun U (E m) b (K m)) (K m)) ∧ Eqs E nt r b K
  | .cond _ x y, K => Eqs E nt r x K ∧ Eqs E nt r y K
  | .block id c, K => Eqs E nt r c (fun m => blockT U id (K m))
  | .loop c, K => (∀ s, (E 0).lp (regId c) s ≠ some r) ∧
      (∀ m s, (E (m + 1)).lp (regId c) s = some r → ∃ sp v, spB sp = true ∧ decS U nt sp s = some v ∧ trun U (E m) c (thenT U ((E m).lp (regId c)) (K m)) (stOf U nt sp v) = some r) ∧
      Eqs E nt r c (fun m => thenT U ((E m).lp (regId c)) (K m))
  | _, _ => True

theorem put_same {st : St} {t : Nat} {y : AV} (h : st.tmps[t]? = some y) : st.put (some t) y = st := by
  unfold St.put
  simp only
  have hlt := (List.getElem?_eq_some_iff.1 h).1
  have : st.tmps.set t y = st.tmps := by
    apply List.ext_getElem?
    intro i
    by_cases e : t = i
    · subst e
      rw [List.getElem?_set_self hlt, h]
    · rw [List.getElem?_set_ne e]
  rw [this]

theorem Kr.fits {K : TS U.D → Option R} {r : R} {a : Act} {w : World} (h : Fits X M0 w0 (Kr U K r) a w) : ∃ s, FitsT U X M0 w0 s a w ∧ K s = some r := by
  obtain ⟨M, ρ, st, hi, s, hR, hk⟩ := h
  exact ⟨s, ⟨M, ρ, st, hi, hR⟩, hk⟩

theorem trun_ok (hT : TabOK P tab) (hm : P.follows .mixedOrders = true) {E : Nat → Env U R} (hE : ∀ m, EnvOkX P U tab (E m)) {ord : List (Nat × List Nat)} (hord : ∀ m, (E m).ord = ord) {nt : Nat} {r : R} :
    ∀ (c : Code) (n : Nat) (K : Nat → Exit → TS U.D → Option R) (s : TS U.D) (a : Act) (w : World) (Q : Exit → Act → World → Prop), ordsB ord c = true → Eqs E nt r c K →
      (∀ m, m ≤ n → ∀ e s a w, K m e s = some r → FitsT U X M0 w0 s a w → Q e a w) → trun U (E n) c (K n) s = some r → FitsT U X M0 w0 s a w → c.wp P Q a w
  | .skip, n, K, s, a, w, Q, ho, hq, hQ, h, hf => wp_skip (hQ n (Nat.le_refl _) _ _ _ _ h hf)
  | .region id ops false, n, K, s, a, w, Q, ho, hq, hQ, h, hf => by
    obtain ⟨M, ρ, st, hi, hR⟩ := hf
    refine wp_region_text hT (K := Kr U (K n .normal) r) (fun a w hk => ?_) ⟨M, ρ, st, hi, tops_ok (hE n) hR h⟩
    obtain ⟨s', h1, h2⟩ := Kr.fits hk
    exact hQ n (Nat.le_refl _) _ _ _ _ h2 h1
  | .region id ops true, n, K, s, a, w, Q, ho, hq, hQ, h, hf => by
    obtain ⟨M, ρ, st, hi, hR⟩ := hf
    simp only [trun, hord] at h
    simp only [ordsB] at ho
    split at h
    · rename_i l hl
      rw [hl] at ho
      simp only [Go.Ax.O.ordOK, Bool.and_eq_true, decide_eq_true_eq] at ho
      obtain ⟨h3, h4⟩ := ho
      subst h3
      refine wp_region_drawn hT hm (K := Kr U (K n .normal) r) (fun a w hk => ?_) h4 ⟨M, ρ, st, hi, topsQ_ok (hE n) hR h⟩
      obtain ⟨s', h1, h2⟩ := Kr.fits hk
      exact hQ n (Nat.le_refl _) _ _ _ _ h2 h1
    · cases h
  | .seq x y, n, K, s, a, w, Q, ho, hq, hQ, h, hf => by
    simp only [ordsB, Bool.and_eq_true] at ho
    obtain ⟨q1, q2⟩ := hq
    refine wp_seq (trun_ok hT hm hE hord x n (fun m => thenT U (trun U (E m) y (K m)) (K m)) s a w _ ho.1 q1 ?_ h hf)
    intro m hm' e s a w hk hf
    cases e with
    | normal => exact trun_ok hT hm hE hord y m K s a w Q ho.2 q2 (fun m' h' => hQ m' (by omega)) hk hf
    | exit id => exact hQ m hm' (.exit id) s a w hk hf
    | goto l => exact hQ m hm' (.goto l) s a w hk hf
    | ret => exact hQ m hm' .ret s a w hk hf
    | panic c => exact hQ m hm' (.panic c) s a w hk hf
    | outgrown => exact hQ m hm' .outgrown s a w hk hf
  | .cond c x y, n, K, s, a, w, Q, ho, hq, hQ, h, hf => by
    simp only [ordsB, Bool.and_eq_true] at ho
    obtain ⟨q1, q2⟩ := hq
    obtain ⟨M, ρ, st, hi, hR⟩ := hf
    simp only [trun] at h
    split at h
    · rename_i t ht
      obtain rfl := isTmp_ok ht
      split at h
      · rename_i b hraw
        have hat := rawM_at hraw (by intro a e; injection e with e; subst e; simp)
        have hlt := (List.getElem?_eq_some_iff.1 hat).1
        have hy : st.tmps[t]? = some (st.tmps[t]'(by rw [hR.len]; exact hlt)) := List.getElem?_eq_getElem _
        have hrm := hR.tmps t _ _ hat hy
        cases hrm with
        | p _ _ hra =>
          have e := hra.bool_
          rw [e] at hy
          have hev : evl st.tmps (.tmp t) = .pv (.lit (.bool b)) := by
            simp only [evl, List.getD_eq_getElem?_getD, hy, Option.getD_some]
          have hc := hi.evl (.tmp t)
          rw [hev] at hc
          simp only [tput_eq] at h
          refine wp_cond_split hc.lit_inv (fun e => ?_) (fun e => ?_)
          · subst e
            simp only [cond_true] at h
            refine trun_ok hT hm hE hord x n K _ a w Q ho.1 q1 hQ h ⟨M, ρ, st, hi, ?_⟩
            have := hR.setP (d := some t) (a := .v (.bool true)) (.ofBool true)
            rwa [put_same hy] at this
          · subst e
            simp only [cond_false] at h
            refine trun_ok hT hm hE hord y n K _ a w Q ho.2 q2 hQ h ⟨M, ρ, st, hi, ?_⟩
            have := hR.setP (d := some t) (a := .v (.bool false)) (.ofBool false)
            rwa [put_same hy] at this
      · cases h
    · cases h
  | .block id c, n, K, s, a, w, Q, ho, hq, hQ, h, hf => by
    refine wp_block (trun_ok hT hm hE hord c n (fun m => blockT U id (K m)) s a w _ ho hq ?_ h hf)
    intro m hm' e s a w hk hf
    cases e with
    | exit id' =>
      simp only [Exit.inBlock]
      simp only [blockT] at hk
      split at hk
      · rename_i he; rw [beqN] at he; rw [if_pos he]; exact hQ m hm' _ _ _ _ hk hf
      · rename_i he; rw [beqN_false] at he; rw [if_neg he]; exact hQ m hm' _ _ _ _ hk hf
    | normal => exact hQ m hm' .normal s a w hk hf
    | goto l => exact hQ m hm' (.goto l) s a w hk hf
    | ret => exact hQ m hm' .ret s a w hk hf
    | panic c => exact hQ m hm' (.panic c) s a w hk hf
    | outgrown => exact hQ m hm' .outgrown s a w hk hf
  | .loop c, n, K, s, a, w, Q, ho, hq, hQ, h, hf => by
    obtain ⟨l0, l1, l2⟩ := hq
    simp only [trun] at h
    refine wp_loop_ghost (fun j a w => j ≤ n ∧ ∃ s, (E j).lp (regId c) s = some r ∧ FitsT U X M0 w0 s a w) n ⟨Nat.le_refl _, s, h, hf⟩ ?_
    rintro j a w ⟨hj, s, hs, hf⟩
    cases j with
    | zero => exact absurd hs (l0 s)
    | succ m =>
      obtain ⟨sp, v, h1, h2, h3⟩ := l1 m s hs
      obtain ⟨M, ρ, st, hi, hR⟩ := hf
      obtain ⟨ρ', st2, hi2, hR2⟩ := head_ok (hE m).uni hi hR h1 h2
      refine trun_ok hT hm hE hord c m (fun m => thenT U ((E m).lp (regId c)) (K m)) _ a w _ ho l2 ?_ h3 ⟨M, ρ', st2, hi2, hR2⟩
      intro m' hm' e s a w hk hf
      cases e with
      | normal => exact ⟨m', by omega, by omega, s, hk, hf⟩
      | exit id => exact hQ m' (by omega) (.exit id) s a w hk hf
      | goto l => exact hQ m' (by omega) (.goto l) s a w hk hf
      | ret => exact hQ m' (by omega) .ret s a w hk hf
      | panic c => exact hQ m' (by omega) (.panic c) s a w hk hf
      | outgrown => exact hQ m' (by omega) .outgrown s a w hk hf
  | .exit id, n, K, s, a, w, Q, ho, hq, hQ, h, hf => wp_exit (hQ n (Nat.le_refl _) _ _ _ _ h hf)
  | .ret, n, K, s, a, w, Q, ho, hq, hQ, h, hf => wp_ret (hQ n (Nat.le_refl _) _ _ _ _ h hf)
  | .rangeFunc .., _, _, _, _, _, _, _, _, _, h, _ => by simp [trun] at h
  | .scope _, _, _, _, _, _, _, _, _, _, h, _ => by simp [trun] at h
  | .label _, _, _, _, _, _, _, _, _, _, h, _ => by simp [trun] at h
  | .goto _, _, _, _, _, _, _, _, _, _, h, _ => by simp [trun] at h
  | .refuse _, _, _, _, _, _, _, _, _, _, h, _ => by simp [trun] at h

end
end Go.Tx
