/- The law FnExactEqualPlace returns true for every two places, and what they hold reads as it did; no condition. -/
import Derived.Test.YtikjhmifgedlbaaRows
import Derived.Test.YtikjhmifgedlbaaTh
import Derived.Test.YtikjhmifgedlbaaTi
namespace Go.Proofs.Ytikjhmifgedlbaa
open Go.ChangeShapes Go.WideShapes Go.ChangeAt Go.RowKit Go.Ax

theorem Try.own : ownKnob Try.prog.godebug = none := by kernel_rfl
theorem Try.laidOut : laidOutB Try.prog = true := by kernel_rfl
theorem read30 : Try.prog.readableRec 30 = true := by kernel_rfl
theorem row30 : 30 < Try.prog.types.size := of_decide_eq_true (by kernel_rfl)

theorem arg_struct {H : Type} {enc : TypeId × Value → H} {P : Program} {w : World} {r : Reach} {base : Nat} {t : TypeId} {fs : Array Field} {v : Value} {d : DataW H} {p : List MemPlace} (hs : P.underlying t = some (.struct fs))
    (hv : Value.okWide P w r base t v) (h : DataW.Trod enc P w 0 (fun _ => true) true t v d p) : ∃ (cs : List Value) (fuel : Nat), v = .agg cs.toArray ∧ DataW.trod enc P w 0 (fun _ => true) true fuel t cs = some (d, p) := by
  obtain ⟨cs, rfl, _⟩ := okWide_struct hs hv
  obtain ⟨fuel, hf⟩ := h
  exact ⟨cs.toList, fuel, rfl, hf⟩

set_option maxRecDepth 100000 in
theorem equalPlace_lifted (os : Os) (started : os.Started) (H : Type) (enc : TypeId × Value → H) :
    ReturnsInHanded {} Try.checked os 5 .any (Rows.fnExactEqualPlaceSpec.pre6 enc Try.prog Try.f5 Rows.fnExactEqualPlaceRow.domain false) (Rows.fnExactEqualPlaceSpec.post enc Try.prog Try.f5 false true false false) := by
  refine returnsInHanded_of_change (C := Try.checked) Try.own started (by kernel_rfl) Try.func5
    (ChangeSpec.witness6 (enc := enc) (C := Try.checked) false ⟨#[], #[.agg #[.slice none 0 0, .bool false, .int .i64 0, .slice none 0 0], .agg #[.slice none 0 0, .bool false, .int .i64 0, .slice none 0 0]], []⟩ 8 (by kernel_rfl) (by kernel_rfl) (by kernel_rfl) (by kernel_rfl)) ?_
  intro W base args ds gs before hval0 hW hcnd _
  have hval : ∀ (j : Nat) t v, Try.f5.params[j]? = some t → args[j]? = some v → Value.okWide Try.prog W .any base t v := hval0
  have hW' := hW
  have hlt := hW.lt
  obtain ⟨p, q, hA0, hV, rfl, hfz, hnd⟩ := hW
  have hA : DataW.TrodAll enc Try.prog W 0 (fun _ => true) true Try.f5.params.toList args.toList ds p := hA0
  rw [Try.params5] at hA hval
  obtain ⟨v0, v1, d0, d1, p0, p1, rfl, rfl, rfl, h0, h1⟩ := trodAll_two hA
  obtain ⟨rfl, rfl⟩ := trodVars_none hV
  have hv0 := hval 0 30 v0 rfl rfl
  have hv1 := hval 1 30 v1 rfl rfl
  clear hA0 hval0 hval
  obtain ⟨c0, f0, rfl, g0⟩ := arg_struct Try.underlying30 hv0 h0
  obtain ⟨c1, f1, rfl, g1⟩ := arg_struct Try.underlying30 hv1 h1
  obtain ⟨a, oka, ra⟩ := read_pl _ _ _ g0
  obtain ⟨b, okb, rb⟩ := read_pl _ _ _ g1
  refine (AC.law (ac5 isP a b oka okb) (W := W) (vs := #[.agg c0.toArray, .agg c1.toArray]) rfl ?_).mono fun e W' ⟨he, hw⟩ => ?_
  · intro i x hx
    match i, hx with
    | 0, hx => cases hx; exact .pv _ _ (ra.agg)
    | 1, hx => cases hx; exact .pv _ _ (rb.agg)
  subst he
  exact ⟨_, rfl, post_below (pa := p0 ++ p1) (pv := []) hW' hw (fun _ _ _ => trodAll_mk1 (shut_bool Try.underlying4 true))
    (fun sp hsp => trodAll_mk2 (WideElems.Trod_stays Try.laidOut read30 row30 h0 (fun x hx => hw.same (hlt x (by simp [hx]))) (fun x hx => hsp x (by simp [hx])))
      (WideElems.Trod_stays Try.laidOut read30 row30 h1 (fun x hx => hw.same (hlt x (by simp [hx]))) (fun x hx => hsp x (by simp [hx])))) (fun _ _ => rfl)
    (ok_one (by kernel_rfl) rfl (okWide_bool_mk Try.underlying4 true))⟩

theorem fnExactEqualPlace_holds : Rows.FnExactEqualPlaceSaid :=
  OpenClaim.holds_of_wide 5 Try.f5 rfl rfl rfl rfl rfl rfl rfl ⟨rfl, rfl, rfl, rfl, rfl⟩ rfl rfl rfl rfl rfl (by kernel_rfl) Try.func5 (by kernel_rfl)
    (of_decide_eq_true (by kernel_rfl)) (by unfold Func.isWrapper; rw [if_neg (of_decide_eq_false (by kernel_rfl))]; exact ⟨rfl, rfl⟩)
    (fun os started H enc _ => equalPlace_lifted os started H enc)
end Go.Proofs.Ytikjhmifgedlbaa
