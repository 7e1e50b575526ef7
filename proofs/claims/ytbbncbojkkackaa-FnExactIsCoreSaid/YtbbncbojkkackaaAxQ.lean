/- The abstract layer, part 17: less may be said of a state; loops. -/
import Derived.Test.YtbbncbojkkackaaAxS
set_option linter.unusedSimpArgs false
namespace Go.Ax

theorem idsL_mem {l : List AV} {x : AV} {i : Nat} (hx : x ∈ l) (hi : i ∈ AV.ids x) : i ∈ AV.idsL l := by
  induction l with
  | nil => cases hx
  | cons y l ih =>
    simp only [AV.idsL, List.mem_append]
    rcases List.mem_cons.1 hx with rfl | hx
    · exact .inl hi
    · exact .inr (ih hx)

theorem RpA.restrict {M : Mem} {ρ ρ' : Nat → Option Nat} {x : AV} {v : Value} (h : RpA M ρ x v) (hx : ∀ i ∈ AV.ids x, ρ' i = ρ i) : RpA M ρ' x v := by
  induction h with
  | bot v => exact .bot v
  | undef => exact .undef
  | pv x v h => exact .pv x v h
  | box i off b h => exact .box i off b (by rw [hx i (by simp [AV.ids])]; exact h)
  | ro cs b off F hm hr => exact .ro cs b off F hm hr
  | fn f caps vs hl h ih => exact .fn f caps vs hl fun i c v hc hv => ih i c v hc hv fun j hj => hx j (by simp only [AV.ids]; exact idsL_mem (List.mem_of_getElem? hc) hj)
  | msl i sz len b h => exact .msl i sz len b (by rw [hx i (by simp [AV.ids])]; exact h)

section
variable {P : Program} {tab : Tab} {X : List Nat} {M0 : Mem} {w0 : World} {M : Mem} {ρ : Nat → Option Nat} {st : St} {a : Act} {w : World}

theorem Inv.weaken (h : Inv X M0 w0 M ρ st a w) {st' : St} (hle : Le st st') : ∃ ρ', Inv X M0 w0 M ρ' st' a w := by
  refine ⟨fun i => if (lk i st'.boxes).isSome then ρ i else none, ?_⟩
  have hsub : ∀ i b, (if (lk i st'.boxes).isSome then ρ i else none) = some b → ρ i = some b := by
    intro i b hi
    split at hi
    · exact hi
    · cases hi
  refine { h with len := h.len.trans hle.len, tmps := ?_, boxes := ?_, dom := ?_, inj := fun i j b hi hj => h.inj i j b (hsub i b hi) (hsub j b hj), tips := fun s b off hw hs => h.tips s b off hw (hle.tips _ _ hs), tipinj := fun s s' b off off' hw hw' h1 h2 => h.tipinj s s' b off off' hw hw' (hle.tips _ _ h1) (hle.tips _ _ h2), U := fun b hb => h.U b (hle.U b hb), ext := ?_ }
  · intro t x hx
    rcases hle.tmps t x hx with rfl | hx'
    · exact .bot _
    · refine (h.tmps t x hx').restrict fun i hi => ?_
      rw [hle.refsT x (List.mem_of_getElem? hx) i hi]; rfl
  · intro i cs hi
    obtain ⟨b, h1, ⟨⟨vs, T, g1, g2, g3⟩, h3, h4⟩, h5⟩ := h.boxes i cs (hle.boxes i cs hi)
    refine ⟨b, by rw [hi]; exact h1, ⟨⟨vs, T, g1, g2, fun j c hj => ⟨(g3 j c hj).1.restrict fun k hk => ?_, (g3 j c hj).2⟩⟩, h3, h4⟩, h5⟩
    rw [hle.refsB i cs hi c (List.mem_of_getElem? hj) k hk]; rfl
  · intro i b hi
    split at hi
    · assumption
    · cases hi
  · intro j b hb
    have h1 := h.ext j b hb
    have h2 := hle.keep (1000 + j) (by omega) (h.dom _ _ h1)
    rw [h2]; exact h1

theorem wp_loop_ghost {c : Code} {Q : Exit → Act → World → Prop} (I : Nat → Act → World → Prop) (n0 : Nat) (h0 : I n0 a w) (round : ∀ n a w, I n a w → c.wp P (Exit.then (fun a' w' => ∃ m, m < n ∧ I m a' w') Q) a w) : (Code.loop c).wp P Q a w := by
  intro b k cs
  have key : ∀ n a w, I n a w → ∃ e a' w', Q e a' w' ∧ Arrives P (lone (b.at a (.code c :: .inLoop c :: k)) cs w) b k cs e a' w' := by
    intro n
    induction n using Nat.strongRecOn with
    | _ n ih =>
      intro a w hI
      obtain ⟨e, a₁, w₁, hq, harr⟩ := round n a w hI b (.inLoop c :: k) cs
      cases e with
      | normal =>
        obtain ⟨m, hlt, hI₁⟩ := hq
        obtain ⟨e₂, a₂, w₂, hq₂, harr₂⟩ := ih m hlt a₁ w₁ hI₁
        exact ⟨e₂, a₂, w₂, hq₂, .of_steps (Steps.trans harr (.one step_inLoop)) harr₂⟩
      | exit id => exact ⟨_, a₁, w₁, hq, .pass (x := .inLoop c) rfl (fun _ _ => .inl (by simp)) harr⟩
      | goto l => exact ⟨_, a₁, w₁, hq, .pass (x := .inLoop c) rfl (fun _ _ => .inl (by simp)) harr⟩
      | ret => exact ⟨_, a₁, w₁, hq, .pass (x := .inLoop c) rfl (fun _ _ => .inl (by simp)) harr⟩
      | panic ch => exact ⟨_, a₁, w₁, hq, .pass (x := .inLoop c) rfl (fun _ _ => .inl (by simp)) harr⟩
      | outgrown => exact ⟨_, a₁, w₁, hq, .pass (x := .inLoop c) rfl (fun _ _ => .inl (by simp)) harr⟩
  obtain ⟨e, a', w', hq, harr⟩ := key n0 a w h0
  exact ⟨e, a', w', hq, .of_steps (.one step_loop) harr⟩

theorem awp_sound (hT : TabOK P tab) (hm : P.follows .mixedOrders = true) : ∀ (c : Code) {K : Exit → St → Prop} {Q : Exit → Act → World → Prop} {a : Act} {w : World}, (∀ e a w, Fits X M0 w0 (K e) a w → Q e a w) → Fits X M0 w0 (awp P tab c K) a w → c.wp P Q a w
  | .skip, K, Q, a, w, hQ, h => wp_skip (hQ _ _ _ h)
  | .region _ ops false, K, Q, a, w, hQ, h => wp_region_text hT (hQ .normal) h
  | .region _ ops true, K, Q, a, w, hQ, h => by
    obtain ⟨M, ρ, st, hi, hc, hk⟩ := h
    exact wp_region_drawn hT hm (hQ .normal) hc ⟨M, ρ, st, hi, hk⟩
  | .seq x y, K, Q, a, w, hQ, h => by
    refine wp_seq (awp_sound hT hm x (K := thenK (awp P tab y K) K) ?_ h)
    intro e a w hf
    cases e with
    | normal => exact awp_sound hT hm y hQ hf
    | exit id => exact hQ (.exit id) a w hf
    | goto l => exact hQ (.goto l) a w hf
    | ret => exact hQ .ret a w hf
    | panic c => exact hQ (.panic c) a w hf
    | outgrown => exact hQ .outgrown a w hf
  | .cond c x y, K, Q, a, w, hQ, h => by
    obtain ⟨M, ρ, st, hi, hk⟩ := h
    simp only [awp] at hk
    split at hk
    · rename_i b hb
      have hc := hi.evl c
      rw [hb] at hc
      refine wp_cond_split hc.lit_inv (fun e => ?_) (fun e => ?_)
      · subst e; exact awp_sound hT hm x hQ ⟨M, ρ, st, hi, hk⟩
      · subst e; exact awp_sound hT hm y hQ ⟨M, ρ, st, hi, hk⟩
    · exact hk.elim
  | .block id c, K, Q, a, w, hQ, h => by
    refine wp_block (awp_sound hT hm c (K := blockK id K) ?_ h)
    intro e a w hf
    cases e with
    | exit id' =>
      simp only [Exit.inBlock]
      obtain ⟨M, ρ, st, hi, hk⟩ := hf
      simp only [blockK] at hk
      split
      · rename_i he; rw [if_pos he] at hk; exact hQ _ _ _ ⟨M, ρ, st, hi, hk⟩
      · rename_i he; rw [if_neg he] at hk; exact hQ _ _ _ ⟨M, ρ, st, hi, hk⟩
    | normal => exact hQ .normal a w hf
    | goto l => exact hQ (.goto l) a w hf
    | ret => exact hQ .ret a w hf
    | panic c => exact hQ (.panic c) a w hf
    | outgrown => exact hQ .outgrown a w hf
  | .loop c, K, Q, a, w, hQ, h => by
    obtain ⟨M, ρ, st, hi, I, ⟨n, st', hle, hI⟩, hround⟩ := h
    obtain ⟨ρ', hi'⟩ := hi.weaken hle
    refine wp_loop_ghost (fun n => Fits X M0 w0 (I n)) n ⟨M, ρ', st', hi', hI⟩ ?_
    intro n a w hf
    refine awp_sound hT hm c (K := thenK (fun st' => ∃ m, m < n ∧ ∃ st'', Le st' st'' ∧ I m st'') K) ?_ (hf.mono fun st hI => hround n st hI)
    intro e a w hf
    cases e with
    | normal =>
      obtain ⟨M, ρ, st, hi, m, hlt, st'', hle, hI⟩ := hf
      obtain ⟨ρ', hi'⟩ := hi.weaken hle
      exact ⟨m, hlt, M, ρ', st'', hi', hI⟩
    | exit id => exact hQ (.exit id) a w hf
    | goto l => exact hQ (.goto l) a w hf
    | ret => exact hQ .ret a w hf
    | panic c => exact hQ (.panic c) a w hf
    | outgrown => exact hQ .outgrown a w hf
  | .exit id, K, Q, a, w, hQ, h => wp_exit (hQ _ _ _ h)
  | .ret, K, Q, a, w, hQ, h => wp_ret (hQ _ _ _ h)
  | .rangeFunc .., _, _, _, _, _, ⟨_, _, _, _, h⟩ => h.elim
  | .scope _, _, _, _, _, _, ⟨_, _, _, _, h⟩ => h.elim
  | .label _, _, _, _, _, _, ⟨_, _, _, _, h⟩ => h.elim
  | .goto _, _, _, _, _, _, ⟨_, _, _, _, h⟩ => h.elim
  | .refuse _, _, _, _, _, _, ⟨_, _, _, _, h⟩ => h.elim

end
end Go.Ax
