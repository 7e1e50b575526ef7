/- Core expressions that are well formed: what both programs say of them; the laws of core expressions and of answers. -/
import Derived.Test.YtbbncbojkkackaaPuX
set_option linter.unusedVariables false
set_option linter.unusedSimpArgs false
namespace Go.Tx
open Go.Pu
theorem seqT_comm (a b : ByteArray) : seqT a b = seqT b a := by unfold seqT; exact Bool.beq_comm
theorem fits_small {l : Nat} (h : l ≤ 1048576) : fitsT l 1 16 = true := by
  unfold fitsT
  rw [decide_eq_true_eq]
  omega
theorem Co.mem_sz {a : List Co} {x : Co} (h : x ∈ a) : x.sz ≤ Co.szs a := by
  have := szL_mem (sz := Co.sz) h
  rw [← Co.szs_eq] at this
  omega
theorem Co.memE_sz {e : List Bi} {x : Bi} (h : x ∈ e) : x.1.size + x.2.sz ≤ Co.szE e := by
  have := szL_mem (sz := Bi.sz) h
  rw [← Co.szE_eq] at this
  simp only [Bi.sz] at this
  omega
end Go.Tx
namespace Go.Proofs.Ytbbncbojkkackaa
open Go.Tx Go.Pu
theorem sIndexOf_ok (n : Nat) (names : List ByteArray) (s : ByteArray) (h : names.length ≤ 1048576) (hn : 1048576 < n) : ∃ r, sIndexOf n names s = some r ∧ decide (r ≥ 0) = hasN names s := by
  show ∃ r, sIndexOf.l2 n n names s 0 = some r ∧ _
  exact any_loop (fun y => seqT y s) names (by omega) (fun m k => sIndexOf.l2 n m names s k) (fun y => some (seqT y s)) (fun x _ => rfl) (fun m k hk => rfl) n (by omega)
theorem zContains_Lstring_ok (n : Nat) (names : List ByteArray) (s : ByteArray) (h : names.length ≤ 1048576) (hn : 1048576 < n) : zContains_Lstring n names s = some (hasN names s) := by
  show ((zIndex_Lstring.l2 n n names s (names.length : Int) 0).bind fun x1 => some (decide (x1 ≥ 0))) = _
  obtain ⟨r, h1, h2⟩ := any_loop (fun y => seqT s y) names (by omega) (fun m k => zIndex_Lstring.l2 n m names s (names.length : Int) k) (fun y => some (seqT s y)) (fun x _ => rfl) (fun m k hk => rfl) n (by omega)
  rw [h1, Option.bind_some, h2]
  unfold hasN
  congr 2
  funext y
  exact seqT_comm s y
theorem sL18Form_ok : ∀ (n : Nat) (d : Co), d.ok → d.sz ≤ 1048576 → 2 * d.m + 1048600 ≤ n → sL18Form n d = some d.fm := by
  intro n
  induction n using Nat.strongRecOn with
  | ind n ih =>
    rintro ⟨k, nm, q, ⟨tk, ta⟩, ⟨uk, ua⟩, a, e⟩ ⟨o1, o2, o3, o4, o5, o6, o7⟩ hs hm
    simp only [Co.m] at hm
    simp only [Co.sz] at hs
    have hl := Co.mL_len a
    have hl2 := Co.mE_len e
    have hl3 : e.length ≤ Co.szE e := by rw [Co.szE_eq]; exact szL_len Bi.sz e
    have nf := Ty.nd_le (.mk tk ta)
    have nt := Ty.nd_le (.mk uk ua)
    obtain ⟨n, rfl⟩ : ∃ q, n = q + 2 := ⟨n - 2, by omega⟩
    let D : Co := .mk k nm q (.mk tk ta) (.mk uk ua) a e
    have henv : sL18Env (n + 1) D = some (Co.fmE [] e && ((((e.length : Int) == 0) || (k == 1)) || (k == 2))) := by
      show sL18Env.l3 n (sL18Form n) (sL18Env n) n [] 0 D = _
      rw [env_loop e o6 (fun m names i => sL18Env.l3 n (sL18Form n) (sL18Env n) m names i D) (fun names => some ((((names.length : Int) == 0) || (k == 1)) || (k == 2))) (fun m i names x hi hx h1 hlen => ?_) (fun m names => ?_) n (by omega)]
      · rw [List.length_map]
        cases Co.fmE [] e <;> rfl
      · have hsz := Co.memE_sz hx
        have hok := Co.okE_iff.1 o7 x hx
        have hmm := Co.mE_mem hx
        simp only [Bi.m] at hmm
        obtain ⟨r, hr, hr2⟩ := sIndexOf_ok n names x.1 (by omega) (by omega)
        have hf := ih n (by omega) x.2 hok.2 (by omega) (by omega)
        show (bif decide ((i : Int) < (e.length : Int)) then (nthT e i).bind fun x1 => (sIsName n x1.1).bind fun x2 => (gd (!(!x2)) (nthT e i) (UU.dflt 6)).bind fun x3 => (gd (!(!x2)) (sIndexOf n names x3.1) 0).bind fun x4 =>
          (gd (!((!x2) || (decide (x4 ≥ 0)))) (nthT e i) (UU.dflt 6)).bind fun x5 => (gd (!((!x2) || (decide (x4 ≥ 0)))) (sL18Form n x5.2.eta) false).bind fun x6 =>
          bif (((!x2) || (decide (x4 ≥ 0))) || (!x6)) then some false else (nthT e i).bind fun x7 => bif fitsT names.length ([x7.1]).length 16 then sL18Env.l3 n (sL18Form n) (sL18Env n) m (names ++ ([x7.1])) (w64 ((i : Int) + 1)) D else none else _) = _
        rw [dec_lt hi, cond_true, h1, Option.bind_some, sIsName_ok n x.1 (by omega) (by omega), Option.bind_some, Co.fmP_eq]
        cases nameB x.1
        · rfl
        · show ((sIndexOf n names x.1).bind fun x4 => (gd (!(false || (decide (x4 ≥ 0)))) (some x) (UU.dflt 6)).bind fun x5 => (gd (!(false || (decide (x4 ≥ 0)))) (sL18Form n x5.2.eta) false).bind fun x6 =>
            bif ((false || (decide (x4 ≥ 0))) || (!x6)) then some false else bif fitsT names.length 1 16 then sL18Env.l3 n (sL18Form n) (sL18Env n) m (names ++ ([x.1])) (w64 ((i : Int) + 1)) D else none) = _
          rw [hr, Option.bind_some, hr2, fits_small (by omega)]
          cases hasN names x.1
          · show ((sL18Form n x.2.eta).bind fun x6 => bif ((false || false) || (!x6)) then some false else bif true then sL18Env.l3 n (sL18Form n) (sL18Env n) m (names ++ ([x.1])) (w64 ((i : Int) + 1)) D else none) = _
            rw [Co.eta_eq, hf]
            cases Co.fm x.2 <;> rfl
          · rfl
      · show (bif decide ((e.length : Int) < (e.length : Int)) then _ else some ((((names.length : Int) == 0) || (k == 1)) || (k == 2))) = _
        rw [dec_nlt]; rfl
    show sL18Form.l2 (n + 1) (sL18Form (n + 1)) (sL18Env (n + 1)) (n + 1) 0 D = _
    rw [all_loop Co.fm a o4 (fun m i => sL18Form.l2 (n + 1) (sL18Form (n + 1)) (sL18Env (n + 1)) m i D) (fun x => sL18Form (n + 1) x.eta)
      (fun m => (sL18Fields (n + 1) D).bind fun x3 => (gd x3 (sL18Env (n + 1) D) false).bind fun x4 => (gd (x3 && x4) (sCoreArity (n + 1) k) 0).bind fun x5 => some ((x3 && x4) && ((a.length : Int) == x5)))
      (fun x hx => by rw [Co.eta_eq]; exact ih (n + 1) (by omega) x (Co.oks_iff.1 o5 x hx) (by have := Co.mem_sz hx; omega) (by have := Co.mL_mem hx; omega)) (fun m i hk => rfl) (n + 1) (by omega)]
    rw [henv, sL18Fields_ok (n + 1) k q nm _ _ a e o1 (by omega) o2 o3 (by omega) (by omega) (by omega) (by omega), sCoreArity_ok]
    simp only [Co.fm, Co.fmL_eq]
    generalize fldB k nm q (.mk tk ta) (.mk uk ua) = F
    generalize ((((e.length : Int) == 0) || (k == 1)) || (k == 2)) = Z
    cases a.all Co.fm
    · rfl
    · cases F
      · rfl
      · cases Co.fmE [] e <;> cases Z <;> first | rfl | (show some ((true && true) && _) = some _; rfl)
theorem iAreCoreNodes_ok : ∀ (n : Nat) (d : Co), d.ok → d.sz ≤ 1048576 → 2 * d.m + 1048600 ≤ n → iAreCoreNodes n d = some d.fm := by
  intro n
  induction n using Nat.strongRecOn with
  | ind n ih =>
    rintro ⟨k, nm, q, ⟨tk, ta⟩, ⟨uk, ua⟩, a, e⟩ ⟨o1, o2, o3, o4, o5, o6, o7⟩ hs hm
    simp only [Co.m] at hm
    simp only [Co.sz] at hs
    have hl := Co.mL_len a
    have hl2 := Co.mE_len e
    have hl3 : e.length ≤ Co.szE e := by rw [Co.szE_eq]; exact szL_len Bi.sz e
    have nf := Ty.nd_le (.mk tk ta)
    have nt := Ty.nd_le (.mk uk ua)
    obtain ⟨n, rfl⟩ : ∃ q, n = q + 4 := ⟨n - 4, by omega⟩
    let D : Co := .mk k nm q (.mk tk ta) (.mk uk ua) a e
    have hc : zContainsFunc_Core_AreCoreNodes_1 (n + 3) a = some (!(a.all Co.fm)) := by
      show (zIndexFunc_Core_AreCoreNodes_1 (n + 2) a).bind (fun x1 => some (decide (x1 ≥ 0))) = _
      obtain ⟨r, h1, h2⟩ := any_loop (fun x : Co => !x.fm) a o4 (fun m i => zIndexFunc_Core_AreCoreNodes_1.l2 (n + 1) (iAreCoreNodes (n + 1)) (zContainsFunc_Core_AreCoreNodes_1 (n + 1)) (zIndexFunc_Core_AreCoreNodes_1 (n + 1)) (iAreCoreNodes_1 (n + 1)) m a (a.length : Int) i) (fun x => iAreCoreNodes_1 (n + 1) x.eta)
        (fun x hx => by
          rw [Co.eta_eq]
          show (iAreCoreNodes n x.eta).bind (fun x1 => some (!x1)) = _
          rw [Co.eta_eq, ih n (by omega) x (Co.oks_iff.1 o5 x hx) (by have := Co.mem_sz hx; omega) (by have := Co.mL_mem hx; omega)]
          rfl) (fun m i hk => rfl) (n + 1) (by omega)
      have h1 : zIndexFunc_Core_AreCoreNodes_1 (n + 2) a = some r := h1
      rw [h1, Option.bind_some, h2]
      congr 1
      have : a.all Co.fm = !(a.any fun x => !x.fm) := by
        rw [List.not_any_eq_all_not]
        simp
      rw [this, Bool.not_not]
    have hloop : iAreCoreNodes.l5 (n + 3) (iAreCoreNodes (n + 3)) (zContainsFunc_Core_AreCoreNodes_1 (n + 3)) (zIndexFunc_Core_AreCoreNodes_1 (n + 3)) (iAreCoreNodes_1 (n + 3)) (n + 3) [] e (e.length : Int) 0 = some (Co.fmE [] e) := by
      rw [env_loop e o6 (fun m names i => iAreCoreNodes.l5 (n + 3) (iAreCoreNodes (n + 3)) (zContainsFunc_Core_AreCoreNodes_1 (n + 3)) (zIndexFunc_Core_AreCoreNodes_1 (n + 3)) (iAreCoreNodes_1 (n + 3)) m names e (e.length : Int) i) (fun names => some true) (fun m i names x hi hx h1 hlen => ?_) (fun m names => ?_) (n + 3) (by omega)]
      · cases Co.fmE [] e <;> rfl
      · have hsz := Co.memE_sz hx
        have hok := Co.okE_iff.1 o7 x hx
        have hmm := Co.mE_mem hx
        simp only [Bi.m] at hmm
        have hf := ih (n + 3) (by omega) x.2 hok.2 (by omega) (by omega)
        show (bif decide ((i : Int) < (e.length : Int)) then (nthT e i).bind fun x1 => (iIsName (n + 3) x1.1).bind fun x2 => (gd (!(!x2)) (zContains_Lstring (n + 3) names x1.1) false).bind fun x3 =>
          (gd (!((!x2) || x3)) (iAreCoreNodes (n + 3) x1.2.eta) false).bind fun x4 => bif (((!x2) || x3) || (!x4)) then some false
          else bif fitsT names.length ([x1.1]).length 16 then iAreCoreNodes.l5 (n + 3) (iAreCoreNodes (n + 3)) (zContainsFunc_Core_AreCoreNodes_1 (n + 3)) (zIndexFunc_Core_AreCoreNodes_1 (n + 3)) (iAreCoreNodes_1 (n + 3)) m (names ++ ([x1.1])) e (e.length : Int) (w64 ((i : Int) + 1)) else none else _) = _
        rw [dec_lt hi, cond_true, h1, Option.bind_some, iIsName_ok (n + 3) x.1 (by omega) (by omega), Option.bind_some, zContains_Lstring_ok (n + 3) names x.1 (by omega) (by omega), Co.eta_eq, hf, Co.fmP_eq, show ([x.1] : List ByteArray).length = 1 from rfl, fits_small (by omega)]
        cases nameB x.1 <;> cases hasN names x.1 <;> cases Co.fm x.2 <;> rfl
      · show (bif decide ((e.length : Int) < (e.length : Int)) then _ else some true) = _
        rw [dec_nlt]; rfl
    show ((iIsCoreNode (n + 3) D).bind fun x1 => (gd (!(!x1)) (some ((k == 1) || (k == 2))) false).bind fun x2 => (gd (!((!x1) || ((!x2) && (decide ((e.length : Int) > 0))))) (zContainsFunc_Core_AreCoreNodes_1 (n + 3) a) false).bind fun x3 =>
      bif (((!x1) || ((!x2) && (decide ((e.length : Int) > 0)))) || x3) then some false else iAreCoreNodes.l5 (n + 3) (iAreCoreNodes (n + 3)) (zContainsFunc_Core_AreCoreNodes_1 (n + 3)) (zIndexFunc_Core_AreCoreNodes_1 (n + 3)) (iAreCoreNodes_1 (n + 3)) (n + 3) [] e (e.length : Int) 0) = _
    rw [hloop, hc, iIsCoreNode_ok (n + 3) k q nm _ _ a e o1 (by omega) o2 o3 (by omega) (by omega) (by omega) (by omega)]
    simp only [Co.fm, Co.fmL_eq]
    have he : decide ((e.length : Int) > 0) = !((e.length : Int) == 0) := by
      rw [Bool.eq_iff_iff]
      simp only [decide_eq_true_eq, Bool.not_eq_true', beq_eq_false_iff_ne]
      omega
    rw [he]
    generalize fldB k nm q (.mk tk ta) (.mk uk ua) = F
    generalize ((e.length : Int) == 0) = Z
    generalize ((a.length : Int) == arC k) = R
    cases F
    · cases a.all Co.fm <;> rfl
    cases R
    · cases a.all Co.fm <;> cases Co.fmE [] e <;> cases Z <;> cases (k == 1) <;> cases (k == 2) <;> rfl
    cases Z <;> cases (k == 1) <;> cases (k == 2) <;> cases a.all Co.fm <;> cases Co.fmE [] e <;> rfl
def coreB (d : Co) : Bool := decide (d.nd ≤ 600) && d.fm
theorem sIsCore_ok (n : Nat) (d : Co) (ok : d.ok) (hs : d.sz ≤ 1048576) (hm : 2 * d.m + 1048600 ≤ n) : sIsCore n d = some (coreB d) := by
  show ((sL18Left n d.eta 600).bind fun x1 => (gd (decide (x1 ≥ 0)) (sL18Form n d.eta) false).bind fun x2 => some ((decide (x1 ≥ 0)) && x2)) = _
  rw [Co.eta_eq, sL18Left_ok n d ok (by omega) 600 (by omega) (by omega), sL18Form_ok n d ok hs hm, Option.bind_some]
  have : decide (szR d.nd 600 ≥ 0) = decide (d.nd ≤ 600) := by
    unfold szR
    split
    · have : decide (d.nd ≤ 600) = true := by simp; omega
      rw [this]; simp; omega
    · have : decide (d.nd ≤ 600) = false := by simp; omega
      rw [this]; rfl
  rw [this]
  unfold coreB
  cases decide (d.nd ≤ 600) <;> cases d.fm <;> rfl
theorem iIsCore_ok (n : Nat) (d : Co) (ok : d.ok) (hs : d.sz ≤ 1048576) (hm : 2 * d.m + 1048600 ≤ n) : iIsCore n d = some (coreB d) := by
  have hnd := Co.nd_le d
  show ((iSizeOfCore n d.eta).bind fun x1 => (gd (decide (x1 ≤ ((600 : Nat) : Int))) (iAreCoreNodes n d.eta) false).bind fun x2 => some ((decide (x1 ≤ ((600 : Nat) : Int))) && x2)) = _
  rw [Co.eta_eq, iSizeOfCore_ok n d ok (by omega) (by omega), iAreCoreNodes_ok n d ok hs hm, Option.bind_some, dec_cast]
  unfold coreB
  cases decide (d.nd ≤ 600) <;> cases d.fm <;> rfl
theorem lFnExactIsCore_ok (a : Co) (ha : a.ok) : ∃ n, lFnExactIsCore n a = some true := by
  obtain ⟨n, ma⟩ : ∃ n, 2 * a.m + 1048600 ≤ n := ⟨_, Nat.le_refl _⟩
  refine ⟨n, ?_⟩
  show lFnExactIsCore.s n a = some true
  unfold lFnExactIsCore.s
  simp only [Co.eta_eq]
  rw [lSzCore_ok n a ha (by omega) _ (by omega) (by omega)]
  refine frame1 fun sa => ?_
  simp only [lToCore_ok n a sa (by omega), Option.bind_some, Co.eta_eq, lEqCore_ok n a a ha (by omega), Co.beq_refl, sIsCore_ok n a ha sa ma, iIsCore_ok n a ha sa ma]
  cases coreB a <;> rfl
end Go.Proofs.Ytbbncbojkkackaa
