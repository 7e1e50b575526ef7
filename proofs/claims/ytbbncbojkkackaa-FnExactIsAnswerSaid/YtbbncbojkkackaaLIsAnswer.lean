/- The law FnExactIsAnswer returns true for every input, and what it was given reads as it did; no condition. -/
import Derived.Test.YtbbncbojkkackaaLawB
import Derived.Test.YtbbncbojkkackaaFc
import Derived.Test.YtbbncbojkkackaaPuZ
set_option linter.unusedVariables false
namespace Go.Proofs.Ytbbncbojkkackaa
open Go.ChangeShapes Go.WideShapes Go.ChangeAt Go.RowKit Go.Ax Go.Tx

theorem read41 : Try.prog.readableRec 41 = true := by kernel_rfl
theorem row41 : 41 < Try.prog.types.size := of_decide_eq_true (by kernel_rfl)

set_option maxRecDepth 100000 in
theorem fnExactIsAnswer_lifted (os : Os) (started : os.Started) (H : Type) (enc : TypeId × Value → H) :
    ReturnsInHanded {} Try.checked os 13 .any (Rows.fnExactIsAnswerSpec.pre6 enc Try.prog Try.f13 Rows.fnExactIsAnswerRow.domain false) (Rows.fnExactIsAnswerSpec.post enc Try.prog Try.f13 false true false false) := by
  refine returnsInHanded_of_change (C := Try.checked) Try.own started (by kernel_rfl) Try.func13
    (ChangeSpec.witness6 (enc := enc) (C := Try.checked) false ⟨#[], #[.agg #[.int .i64 0, .string ⟨#[]⟩, .int .i64 0, .int .i64 0, .slice none 0 0, .int .i64 0, .slice none 0 0, .slice none 0 0, .slice none 0 0]], []⟩ 8 (by kernel_rfl) (by kernel_rfl) (by kernel_rfl) (by kernel_rfl)) ?_
  intro W base args ds gs before hval0 hW hcnd _
  have hval : ∀ (j : Nat) t v, Try.f13.params[j]? = some t → args[j]? = some v → Value.okWide Try.prog W .any base t v := hval0
  have hW' := hW
  have hlt := hW.lt
  obtain ⟨p, q, hA0, hV, rfl, hfz, hnd⟩ := hW
  have hA : DataW.TrodAll enc Try.prog W 0 (fun _ => true) true Try.f13.params.toList args.toList ds p := hA0
  rw [Try.params13] at hA hval
  obtain ⟨v0, d0, rfl, rfl, h0⟩ := trodAll_one hA
  obtain ⟨rfl, rfl⟩ := trodVars_none hV
  have hv0 := hval 0 41 v0 rfl rfl
  clear hA0 hval0 hval
  obtain ⟨c0, f0, rfl, g0⟩ := arg_struct tabOK t41 hv0 h0
  obtain ⟨a0, ok0, r0⟩ := rd_Co _ _ _ g0
  obtain ⟨n, hn⟩ := lFnExactIsAnswer_ok a0 ok0
  refine (AC.law ((lFnExactIsAnswer.ok n).2 (a0, ()) true hn) (W := W) (vs := #[.agg c0.toArray]) rfl ?_).mono fun e W' ⟨he, hw⟩ => ?_
  · intro i x hx
    match i, hx with
    | 0, hx => cases hx; exact arg_obj 5 a0 r0
  subst he
  exact ⟨_, rfl, post_below (pa := p) (pv := []) hW' hw (fun _ _ _ => trodAll_mk1 (shut_bool Try.underlying4 true))
    (fun sp hsp => trodAll_mk1 (stays read41 row41 h0 (fun x hx => hw.same (hlt x (by simp [hx]))) (fun x hx => hsp x (by simp [hx])))) (fun _ _ => rfl)
    (ok_one (by kernel_rfl) rfl (okWide_bool_mk Try.underlying4 true))⟩

theorem fnExactIsAnswer_holds : Rows.FnExactIsAnswerSaid :=
  OpenClaim.holds_of_wide 13 Try.f13 rfl rfl rfl rfl rfl rfl rfl ⟨rfl, rfl, rfl, rfl, rfl⟩ rfl rfl rfl rfl rfl (by kernel_rfl) Try.func13 (by kernel_rfl)
    (of_decide_eq_true (by kernel_rfl)) (by unfold Func.isWrapper; rw [if_neg (of_decide_eq_false (by kernel_rfl))]; exact ⟨rfl, rfl⟩)
    (fun os started H enc _ => fnExactIsAnswer_lifted os started H enc)
end Go.Proofs.Ytbbncbojkkackaa
