/- The law FnExactEqualBinds returns true for every input, and what it was given reads as it did; no condition. -/
import Derived.Test.YtbbncbojkkackaaLawA
import Derived.Test.YtbbncbojkkackaaFc
import Derived.Test.YtbbncbojkkackaaPuG
set_option linter.unusedVariables false
namespace Go.Proofs.Ytbbncbojkkackaa
open Go.ChangeShapes Go.WideShapes Go.ChangeAt Go.RowKit Go.Ax Go.Tx

theorem read39 : Try.prog.readableRec 39 = true := by kernel_rfl
theorem row39 : 39 < Try.prog.types.size := of_decide_eq_true (by kernel_rfl)

set_option maxRecDepth 100000 in
theorem fnExactEqualBinds_lifted (os : Os) (started : os.Started) (H : Type) (enc : TypeId × Value → H) :
    ReturnsInHanded {} Try.checked os 8 .any (Rows.fnExactEqualBindsSpec.pre6 enc Try.prog Try.f8 Rows.fnExactEqualBindsRow.domain false) (Rows.fnExactEqualBindsSpec.post enc Try.prog Try.f8 false true false false) := by
  refine returnsInHanded_of_change (C := Try.checked) Try.own started (by kernel_rfl) Try.func8
    (ChangeSpec.witness6 (enc := enc) (C := Try.checked) false ⟨#[], #[.slice none 0 0, .slice none 0 0], []⟩ 8 (by kernel_rfl) (by kernel_rfl) (by kernel_rfl) (by kernel_rfl)) ?_
  intro W base args ds gs before hval0 hW hcnd _
  have hval : ∀ (j : Nat) t v, Try.f8.params[j]? = some t → args[j]? = some v → Value.okWide Try.prog W .any base t v := hval0
  have hW' := hW
  have hlt := hW.lt
  obtain ⟨p, q, hA0, hV, rfl, hfz, hnd⟩ := hW
  have hA : DataW.TrodAll enc Try.prog W 0 (fun _ => true) true Try.f8.params.toList args.toList ds p := hA0
  rw [Try.params8] at hA hval
  obtain ⟨v0, v1, d0, d1, p0, p1, rfl, rfl, rfl, h0, h1⟩ := trodAll_two hA
  obtain ⟨rfl, rfl⟩ := trodVars_none hV
  have hv0 := hval 0 39 v0 rfl rfl
  have hv1 := hval 1 39 v1 rfl rfl
  clear hA0 hval0 hval
  obtain ⟨f0, g0⟩ := arg_slice tabOK t39 hv0 h0
  obtain ⟨a0, ok0, okk0, r0⟩ := rd_slice (T := Bi) tabOK Co.pvP Bi.ok (sz := 10) t39 t121 (by omega) rfl (fun τ => UU_ok.sz 6 τ) g0 (fun m cs x _ hx => rd_Bi m cs x hx)
  obtain ⟨f1, g1⟩ := arg_slice tabOK t39 hv1 h1
  obtain ⟨a1, ok1, okk1, r1⟩ := rd_slice (T := Bi) tabOK Co.pvP Bi.ok (sz := 10) t39 t121 (by omega) rfl (fun τ => UU_ok.sz 6 τ) g1 (fun m cs x _ hx => rd_Bi m cs x hx)
  obtain ⟨n, hn⟩ := lFnExactEqualBinds_ok a0 ok0 okk0 a1 ok1 okk1
  refine (AC.law ((lFnExactEqualBinds.ok n).2 (a0, a1, ()) true hn) (W := W) (vs := #[v0, v1]) rfl ?_).mono fun e W' ⟨he, hw⟩ => ?_
  · intro i x hx
    match i, hx with
    | 0, hx => cases hx; exact arg_one r0
    | 1, hx => cases hx; exact arg_one r1
  subst he
  exact ⟨_, rfl, post_below (pa := p0 ++ p1) (pv := []) hW' hw (fun _ _ _ => trodAll_mk1 (shut_bool Try.underlying4 true))
    (fun sp hsp => trodAll_mk2 (stays read39 row39 h0 (fun x hx => hw.same (hlt x (by simp [hx]))) (fun x hx => hsp x (by simp [hx]))) (stays read39 row39 h1 (fun x hx => hw.same (hlt x (by simp [hx]))) (fun x hx => hsp x (by simp [hx])))) (fun _ _ => rfl)
    (ok_one (by kernel_rfl) rfl (okWide_bool_mk Try.underlying4 true))⟩

theorem fnExactEqualBinds_holds : Rows.FnExactEqualBindsSaid :=
  OpenClaim.holds_of_wide 8 Try.f8 rfl rfl rfl rfl rfl rfl rfl ⟨rfl, rfl, rfl, rfl, rfl⟩ rfl rfl rfl rfl rfl (by kernel_rfl) Try.func8 (by kernel_rfl)
    (of_decide_eq_true (by kernel_rfl)) (by unfold Func.isWrapper; rw [if_neg (of_decide_eq_false (by kernel_rfl))]; exact ⟨rfl, rfl⟩)
    (fun os started H enc _ => fnExactEqualBinds_lifted os started H enc)
end Go.Proofs.Ytbbncbojkkackaa
