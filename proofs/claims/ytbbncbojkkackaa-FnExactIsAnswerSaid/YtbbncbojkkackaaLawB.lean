/- What a reading of an argument says of it, and the row of a law. -/
import Derived.Test.YtbbncbojkkackaaPuA
import Derived.Test.YtbbncbojkkackaaAxV
import Derived.Test.YtbbncbojkkackaaRows
import Derived.Test.YtbbncbojkkackaaChecked
set_option linter.unusedVariables false
set_option maxRecDepth 4000
namespace Go.Proofs.Ytbbncbojkkackaa
open Go.ChangeShapes Go.WideShapes Go.ChangeAt Go.RowKit Go.Ax Go.Tx
variable {H : Type} {enc : TypeId × Value → H} {w : World} {spare : Nat → Bool} {held : Bool}

theorem rd_Ty : ∀ fuel cs x, DataW.trod enc Try.prog w 0 spare held fuel 24 cs = some x → ∃ t : Ty, t.ok ∧ RpC (memOf w) t.pv.cells cs := by
  intro fuel
  induction fuel using Nat.strongRecOn with
  | ind fuel ih =>
    intro cs x h
    obtain ⟨n, rfl, hl, hf⟩ := rd_struct tabOK t24 h
    obtain ⟨y0, h0⟩ := rd_field tabOK hf t3 0 (by simp)
    obtain ⟨v0, _, r0⟩ := rd_int tabOK t3 h0
    obtain ⟨y1, h1⟩ := rd_field tabOK hf t22 1 (by simp)
    obtain ⟨v1, o1, q1, r1⟩ := rd_slice (T := Ty) tabOK Ty.pv Ty.ok (sz := 2) t22 t24 (by omega) rfl (fun τ => UU_ok.sz 3 τ) h1 (fun m cs x hm hx => ih m (by omega) cs x hx)
    rw [← Ty.pvL_eq] at r1
    have hr := RpC.seg r0 (RpC.fin r1 rfl hl) rfl
    exact ⟨.mk v0 v1, ⟨o1, Ty.oks_iff.2 q1⟩, hr⟩
theorem rd_Ex : ∀ fuel cs x, DataW.trod enc Try.prog w 0 spare held fuel 27 cs = some x → ∃ t : Ex, t.ok ∧ RpC (memOf w) t.pv.cells cs := by
  intro fuel
  induction fuel using Nat.strongRecOn with
  | ind fuel ih =>
    intro cs x h
    obtain ⟨n, rfl, hl, hf⟩ := rd_struct tabOK t27 h
    obtain ⟨y0, h0⟩ := rd_field tabOK hf t3 0 (by simp)
    obtain ⟨v0, _, r0⟩ := rd_int tabOK t3 h0
    obtain ⟨y1, h1⟩ := rd_field tabOK hf t9 1 (by simp)
    obtain ⟨v1, o1, _, r1⟩ := rd_str tabOK t9 h1
    obtain ⟨y2, h2⟩ := rd_field tabOK hf t3 2 (by simp)
    obtain ⟨v2, _, r2⟩ := rd_int tabOK t3 h2
    obtain ⟨y3, h3⟩ := rd_field tabOK hf t24 3 (by simp)
    obtain ⟨⟨vk3, va3⟩, o3, r3⟩ := rd_Ty _ _ _ h3
    obtain ⟨y4, h4⟩ := rd_field tabOK hf t25 5 (by simp)
    obtain ⟨v4, o4, q4, r4⟩ := rd_slice (T := Ex) tabOK Ex.pv Ex.ok (sz := 6) t25 t27 (by omega) rfl (fun τ => UU_ok.sz 4 τ) h4 (fun m cs x hm hx => ih m (by omega) cs x hx)
    rw [← Ex.pvL_eq] at r4
    have hr := RpC.seg r0 (RpC.seg r1 (RpC.seg r2 (RpC.seg r3 (RpC.fin r4 rfl hl) rfl) rfl) rfl) rfl
    exact ⟨.mk v0 v1 v2 (.mk vk3 va3) v4, ⟨o1, o3, o4, Ex.oks_iff.2 q4⟩, hr⟩
theorem rd_BiOf (fuel : Nat) (hc : ∀ m, m < fuel → ∀ cs x, DataW.trod enc Try.prog w 0 spare held m 41 cs = some x → ∃ t : Co, t.ok ∧ RpC (memOf w) t.pv.cells cs) : ∀ cs x, DataW.trod enc Try.prog w 0 spare held fuel 121 cs = some x → ∃ t : Bi, Bi.ok t ∧ RpC (memOf w) (Co.pvP t).cells cs := by
  intro cs x h
  obtain ⟨n, rfl, hl, hf⟩ := rd_struct tabOK t121 h
  obtain ⟨y0, h0⟩ := rd_field tabOK hf t9 0 (by simp)
  obtain ⟨v0, o0, _, r0⟩ := rd_str tabOK t9 h0
  obtain ⟨y1, h1⟩ := rd_field tabOK hf t41 1 (by simp)
  obtain ⟨v1, o1, r1⟩ := hc _ (by omega) _ _ h1
  have hr := RpC.seg r0 (RpC.fin r1 rfl hl) rfl
  exact ⟨(v0, v1), ⟨o0, o1⟩, hr⟩
theorem rd_Co : ∀ fuel cs x, DataW.trod enc Try.prog w 0 spare held fuel 41 cs = some x → ∃ t : Co, t.ok ∧ RpC (memOf w) t.pv.cells cs := by
  intro fuel
  induction fuel using Nat.strongRecOn with
  | ind fuel ih =>
    intro cs x h
    obtain ⟨n, rfl, hl, hf⟩ := rd_struct tabOK t41 h
    obtain ⟨y0, h0⟩ := rd_field tabOK hf t3 0 (by simp)
    obtain ⟨v0, _, r0⟩ := rd_int tabOK t3 h0
    obtain ⟨y1, h1⟩ := rd_field tabOK hf t9 1 (by simp)
    obtain ⟨v1, o1, _, r1⟩ := rd_str tabOK t9 h1
    obtain ⟨y2, h2⟩ := rd_field tabOK hf t3 2 (by simp)
    obtain ⟨v2, _, r2⟩ := rd_int tabOK t3 h2
    obtain ⟨y3, h3⟩ := rd_field tabOK hf t24 3 (by simp)
    obtain ⟨⟨vk3, va3⟩, o3, r3⟩ := rd_Ty _ _ _ h3
    obtain ⟨y4, h4⟩ := rd_field tabOK hf t24 5 (by simp)
    obtain ⟨⟨vk4, va4⟩, o4, r4⟩ := rd_Ty _ _ _ h4
    obtain ⟨y5, h5⟩ := rd_field tabOK hf t38 7 (by simp)
    obtain ⟨v5, o5, q5, r5⟩ := rd_slice (T := Co) tabOK Co.pv Co.ok (sz := 9) t38 t41 (by omega) rfl (fun τ => UU_ok.sz 5 τ) h5 (fun m cs x hm hx => ih m (by omega) cs x hx)
    rw [← Co.pvL_eq] at r5
    obtain ⟨y6, h6⟩ := rd_field tabOK hf t39 8 (by simp)
    obtain ⟨v6, o6, q6, r6⟩ := rd_slice (T := Bi) tabOK Co.pvP Bi.ok (sz := 10) t39 t121 (by omega) rfl (fun τ => UU_ok.sz 6 τ) h6 (fun m cs x hm hx => rd_BiOf m (fun q hq => ih q (by omega)) cs x hx)
    rw [← Co.pvE_eq] at r6
    have hr := RpC.seg r0 (RpC.seg r1 (RpC.seg r2 (RpC.seg r3 (RpC.seg r4 (RpC.seg r5 (RpC.fin r6 rfl hl) rfl) rfl) rfl) rfl) rfl) rfl
    exact ⟨.mk v0 v1 v2 (.mk vk3 va3) (.mk vk4 va4) v5 v6, ⟨o1, o3, o4, o5, Co.oks_iff.2 q5, o6, Co.okE_iff.2 q6⟩, hr⟩
theorem rd_Bi : ∀ fuel cs x, DataW.trod enc Try.prog w 0 spare held fuel 121 cs = some x → ∃ t : Bi, Bi.ok t ∧ RpC (memOf w) (Co.pvP t).cells cs := by
  intro fuel cs x h
  exact rd_BiOf fuel (fun m _ => rd_Co m) cs x h
theorem rd_Ed : ∀ fuel cs x, DataW.trod enc Try.prog w 0 spare held fuel 53 cs = some x → ∃ t : Ed, t.ok ∧ RpC (memOf w) t.pv.cells cs := by
  intro fuel cs x h
  obtain ⟨n, rfl, hl, hf⟩ := rd_struct tabOK t53 h
  obtain ⟨y0, h0⟩ := rd_field tabOK hf t27 0 (by simp)
  obtain ⟨v0, o0, r0⟩ := rd_Ex _ _ _ h0
  obtain ⟨y1, h1⟩ := rd_field tabOK hf t51 6 (by simp)
  obtain ⟨v1, o1, q1, r1⟩ := rd_slice (T := Int) tabOK (fun n : Int => PV.lit (.int .i64 n)) (fun _ => True) (sz := 1) t51 t3 (by omega) rfl (fun τ => UU_ok.sz 0 τ) h1 (fun m cs x _ hx => by obtain ⟨k, rfl, r⟩ := rd_int tabOK t3 hx; exact ⟨k, trivial, r⟩)
  have hr := RpC.seg r0 (RpC.fin r1 rfl hl) rfl
  exact ⟨⟨v0, v1⟩, ⟨o0, o1⟩, hr⟩
theorem rd_Ac : ∀ fuel cs x, DataW.trod enc Try.prog w 0 spare held fuel 62 cs = some x → ∃ t : Ac, t.ok ∧ RpC (memOf w) (pvd 10 t).cells cs := by
  intro fuel cs x h
  obtain ⟨n, rfl, hl, hf⟩ := rd_struct tabOK t62 h
  obtain ⟨y0, h0⟩ := rd_field tabOK hf t3 0 (by simp)
  obtain ⟨v0, _, r0⟩ := rd_int tabOK t3 h0
  obtain ⟨y1, h1⟩ := rd_field tabOK hf t9 1 (by simp)
  obtain ⟨v1, o1, _, r1⟩ := rd_str tabOK t9 h1
  obtain ⟨y2, h2⟩ := rd_field tabOK hf t3 2 (by simp)
  obtain ⟨v2, _, r2⟩ := rd_int tabOK t3 h2
  obtain ⟨y3, h3⟩ := rd_field tabOK hf t24 3 (by simp)
  obtain ⟨v3, o3, r3⟩ := rd_Ty _ _ _ h3
  have hr := RpC.seg r0 (RpC.seg r1 (RpC.seg r2 (RpC.fin r3 rfl hl) rfl) rfl) rfl
  exact ⟨⟨v0, v1, v2, v3⟩, ⟨o1, o3⟩, hr⟩
theorem rd_Cl : ∀ fuel cs x, DataW.trod enc Try.prog w 0 spare held fuel 75 cs = some x → ∃ t : Cl, t.ok ∧ RpC (memOf w) (pvd 13 t).cells cs := by
  intro fuel cs x h
  obtain ⟨n, rfl, hl, hf⟩ := rd_struct tabOK t75 h
  obtain ⟨y0, h0⟩ := rd_field tabOK hf t3 0 (by simp)
  obtain ⟨v0, _, r0⟩ := rd_int tabOK t3 h0
  obtain ⟨y1, h1⟩ := rd_field tabOK hf t4 1 (by simp)
  obtain ⟨v1, _, r1⟩ := rd_bool tabOK t4 h1
  obtain ⟨y2, h2⟩ := rd_field tabOK hf t39 2 (by simp)
  obtain ⟨v2, o2, q2, r2⟩ := rd_slice (T := Bi) tabOK Co.pvP Bi.ok (sz := 10) t39 t121 (by omega) rfl (fun τ => UU_ok.sz 6 τ) h2 (fun m cs x hm hx => rd_Bi m cs x hx)
  have hr := RpC.seg r0 (RpC.seg r1 (RpC.fin r2 rfl hl) rfl) rfl
  exact ⟨⟨v0, v1, v2⟩, ⟨o2, q2⟩, hr⟩
theorem rd_Hy : ∀ fuel cs x, DataW.trod enc Try.prog w 0 spare held fuel 84 cs = some x → ∃ t : Hy, t.ok ∧ RpC (memOf w) (pvd 15 t).cells cs := by
  intro fuel cs x h
  obtain ⟨n, rfl, hl, hf⟩ := rd_struct tabOK t84 h
  obtain ⟨y0, h0⟩ := rd_field tabOK hf t82 0 (by simp)
  obtain ⟨v0, o0, q0, r0⟩ := rd_slice (T := Ed) tabOK Ed.pv Ed.ok (sz := 7) t82 t53 (by omega) rfl (fun τ => UU_ok.sz 9 τ) h0 (fun m cs x hm hx => rd_Ed m cs x hx)
  obtain ⟨y1, h1⟩ := rd_field tabOK hf t53 1 (by simp)
  obtain ⟨v1, o1, r1⟩ := rd_Ed _ _ _ h1
  obtain ⟨y2, h2⟩ := rd_field tabOK hf t82 8 (by simp)
  obtain ⟨v2, o2, q2, r2⟩ := rd_slice (T := Ed) tabOK Ed.pv Ed.ok (sz := 7) t82 t53 (by omega) rfl (fun τ => UU_ok.sz 9 τ) h2 (fun m cs x hm hx => rd_Ed m cs x hx)
  have hr := RpC.seg r0 (RpC.seg r1 (RpC.fin r2 rfl hl) rfl) rfl
  exact ⟨⟨v0, v1, v2⟩, ⟨o0, q0, o1, o2, q2⟩, hr⟩
end Go.Proofs.Ytbbncbojkkackaa
namespace Go.Proofs.Ytbbncbojkkackaa
open Go.ChangeShapes Go.WideShapes Go.ChangeAt Go.RowKit Go.Ax Go.Tx

theorem Try.own : ownKnob Try.prog.godebug = none := by kernel_rfl
theorem Try.laidOut : laidOutB Try.prog = true := by kernel_rfl
variable {H : Type} {enc : TypeId × Value → H} {w : World} {v : Value} {d : DataW H} {p : List MemPlace}
theorem stays {t : TypeId} {W W' : World} {sp : Nat → Bool} (hr : Try.prog.readableRec t = true) (hrow : t < Try.prog.types.size) (h : DataW.Trod enc Try.prog W 0 (fun _ => true) true t v d p) (hs : ∀ x ∈ p, W.sameAt W' x) (hp : ∀ x ∈ p, sp x.block = true) :
    DataW.Trod enc Try.prog W' 0 sp true t v d p := WideElems.Trod_stays Try.laidOut hr hrow h hs hp
end Go.Proofs.Ytbbncbojkkackaa
