/- The law FnExactEqualHistory returns true for every input, and what it was given reads as it did; no condition. -/
import Derived.Test.YtbbncbojkkackaaLawA
import Derived.Test.YtbbncbojkkackaaFc
import Derived.Test.YtbbncbojkkackaaPuG
set_option linter.unusedVariables false
namespace Go.Proofs.Ytbbncbojkkackaa
open Go.ChangeShapes Go.WideShapes Go.ChangeAt Go.RowKit Go.Ax Go.Tx

theorem read84 : Try.prog.readableRec 84 = true := by kernel_rfl
theorem row84 : 84 < Try.prog.types.size := of_decide_eq_true (by kernel_rfl)

set_option maxRecDepth 100000 in
theorem fnExactEqualHistory_lifted (os : Os) (started : os.Started) (H : Type) (enc : TypeId × Value → H) :
    ReturnsInHanded {} Try.checked os 10 .any (Rows.fnExactEqualHistorySpec.pre6 enc Try.prog Try.f10 Rows.fnExactEqualHistoryRow.domain false) (Rows.fnExactEqualHistorySpec.post enc Try.prog Try.f10 false true false false) := by
  refine returnsInHanded_of_change (C := Try.checked) Try.own started (by kernel_rfl) Try.func10
    (ChangeSpec.witness6 (enc := enc) (C := Try.checked) false ⟨#[], #[.agg #[.slice none 0 0, .int .i64 0, .string ⟨#[]⟩, .int .i64 0, .int .i64 0, .slice none 0 0, .slice none 0 0, .slice none 0 0, .slice none 0 0], .agg #[.slice none 0 0, .int .i64 0, .string ⟨#[]⟩, .int .i64 0, .int .i64 0, .slice none 0 0, .slice none 0 0, .slice none 0 0, .slice none 0 0]], []⟩ 8 (by kernel_rfl) (by kernel_rfl) (by kernel_rfl) (by kernel_rfl)) ?_
  intro W base args ds gs before hval0 hW hcnd _
  have hval : ∀ (j : Nat) t v, Try.f10.params[j]? = some t → args[j]? = some v → Value.okWide Try.prog W .any base t v := hval0
  have hW' := hW
  have hlt := hW.lt
  obtain ⟨p, q, hA0, hV, rfl, hfz, hnd⟩ := hW
  have hA : DataW.TrodAll enc Try.prog W 0 (fun _ => true) true Try.f10.params.toList args.toList ds p := hA0
  rw [Try.params10] at hA hval
  obtain ⟨v0, v1, d0, d1, p0, p1, rfl, rfl, rfl, h0, h1⟩ := trodAll_two hA
  obtain ⟨rfl, rfl⟩ := trodVars_none hV
  have hv0 := hval 0 84 v0 rfl rfl
  have hv1 := hval 1 84 v1 rfl rfl
  clear hA0 hval0 hval
  obtain ⟨c0, f0, rfl, g0⟩ := arg_struct tabOK t84 hv0 h0
  obtain ⟨a0, ok0, r0⟩ := rd_Hy _ _ _ g0
  obtain ⟨c1, f1, rfl, g1⟩ := arg_struct tabOK t84 hv1 h1
  obtain ⟨a1, ok1, r1⟩ := rd_Hy _ _ _ g1
  obtain ⟨n, hn⟩ := lFnExactEqualHistory_ok a0 ok0 a1 ok1
  refine (AC.law ((lFnExactEqualHistory.ok n).2 (a0, a1, ()) true hn) (W := W) (vs := #[.agg c0.toArray, .agg c1.toArray]) rfl ?_).mono fun e W' ⟨he, hw⟩ => ?_
  · intro i x hx
    match i, hx with
    | 0, hx => cases hx; exact arg_obj 15 a0 r0
    | 1, hx => cases hx; exact arg_obj 15 a1 r1
  subst he
  exact ⟨_, rfl, post_below (pa := p0 ++ p1) (pv := []) hW' hw (fun _ _ _ => trodAll_mk1 (shut_bool Try.underlying4 true))
    (fun sp hsp => trodAll_mk2 (stays read84 row84 h0 (fun x hx => hw.same (hlt x (by simp [hx]))) (fun x hx => hsp x (by simp [hx]))) (stays read84 row84 h1 (fun x hx => hw.same (hlt x (by simp [hx]))) (fun x hx => hsp x (by simp [hx])))) (fun _ _ => rfl)
    (ok_one (by kernel_rfl) rfl (okWide_bool_mk Try.underlying4 true))⟩

theorem fnExactEqualHistory_holds : Rows.FnExactEqualHistorySaid :=
  OpenClaim.holds_of_wide 10 Try.f10 rfl rfl rfl rfl rfl rfl rfl ⟨rfl, rfl, rfl, rfl, rfl⟩ rfl rfl rfl rfl rfl (by kernel_rfl) Try.func10 (by kernel_rfl)
    (of_decide_eq_true (by kernel_rfl)) (by unfold Func.isWrapper; rw [if_neg (of_decide_eq_false (by kernel_rfl))]; exact ⟨rfl, rfl⟩)
    (fun os started H enc _ => fnExactEqualHistory_lifted os started H enc)
end Go.Proofs.Ytbbncbojkkackaa
