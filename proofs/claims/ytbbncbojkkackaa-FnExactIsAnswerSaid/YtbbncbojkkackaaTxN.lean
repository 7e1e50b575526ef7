/- The universe of the program's data keeps its laws. -/
import Derived.Test.YtbbncbojkkackaaTxU
import Derived.Test.YtbbncbojkkackaaTxM
set_option linter.unusedVariables false
set_option linter.unusedSimpArgs false
namespace Go.Tx
open Go.Ax

theorem Ty.pvL_eq (l : List Ty) : Ty.pvL l = l.map Ty.pv := by
  induction l with
  | nil => rfl
  | cons x r ih => simp [Ty.pvL, ih]
theorem Ex.pvL_eq (l : List Ex) : Ex.pvL l = l.map Ex.pv := by
  induction l with
  | nil => rfl
  | cons x r ih => simp [Ex.pvL, ih]
theorem Co.pvL_eq (l : List Co) : Co.pvL l = l.map Co.pv := by
  induction l with
  | nil => rfl
  | cons x r ih => simp [Co.pvL, ih]
theorem Co.pvE_eq (l : List (ByteArray × Co)) : Co.pvE l = l.map Co.pvP := by
  induction l with
  | nil => rfl
  | cons x r ih => simp [Co.pvE, ih]

mutual
theorem Ty.pv_erase : ∀ t : Ty, (Ty.pv t).erase = Ty.pv t
  | .mk k a => by simp only [Ty.pv, PV.erase, PV.eraseL, Ty.pvL_erase a]
theorem Ty.pvL_erase : ∀ l : List Ty, PV.eraseL (Ty.pvL l) = Ty.pvL l
  | [] => rfl
  | t :: r => by simp only [Ty.pvL, PV.eraseL, Ty.pv_erase t, Ty.pvL_erase r]
end
mutual
theorem Ex.pv_erase : ∀ t : Ex, (Ex.pv t).erase = Ex.pv t
  | .mk k nm n (.mk tk ta) xs => by simp only [Ex.pv, PV.erase, PV.eraseL, Ty.pvL_erase ta, Ex.pvL_erase xs]
theorem Ex.pvL_erase : ∀ l : List Ex, PV.eraseL (Ex.pvL l) = Ex.pvL l
  | [] => rfl
  | t :: r => by simp only [Ex.pvL, PV.eraseL, Ex.pv_erase t, Ex.pvL_erase r]
end
theorem Co.pv_agg (c : Co) : Co.pv c = .agg (Co.pv c).cells := by
  obtain ⟨k, nm, n, ⟨kt, ct⟩, ⟨ku, cu⟩, xs, es⟩ := c
  rfl
theorem agg_erase {x : PV} (h : x.erase = x) : PV.eraseL x.cells = x.cells := by
  have := PV.cells_erase x
  rw [h] at this
  rw [PV.eraseL_eq, ← this]
mutual
theorem Co.pv_erase : ∀ t : Co, (Co.pv t).erase = Co.pv t
  | .mk k nm n (.mk kt ct) (.mk ku cu) xs es => by simp only [Co.pv, PV.erase, PV.eraseL, Ty.pvL_erase ct, Ty.pvL_erase cu, Co.pvL_erase xs, Co.pvE_erase es]
theorem Co.pvL_erase : ∀ l : List Co, PV.eraseL (Co.pvL l) = Co.pvL l
  | [] => rfl
  | t :: r => by simp only [Co.pvL, PV.eraseL, Co.pv_erase t, Co.pvL_erase r]
theorem Co.pvE_erase : ∀ l : List (ByteArray × Co), PV.eraseL (Co.pvE l) = Co.pvE l
  | [] => rfl
  | t :: r => by simp only [Co.pvE, PV.eraseL, Co.pvP_erase t, Co.pvE_erase r]
theorem Co.pvP_erase : ∀ b : ByteArray × Co, (Co.pvP b).erase = Co.pvP b
  | (n, c) => by simp only [Co.pvP, PV.erase, PV.eraseL, agg_erase (Co.pv_erase c)]
end

theorem eraseL_map {α : Type} {f : α → PV} (h : ∀ x, (f x).erase = f x) (l : List α) : PV.eraseL (l.map f) = l.map f := by
  rw [PV.eraseL_eq, List.map_map]
  congr 1
  funext x
  exact h x
theorem eraseL_append (l m : List PV) : PV.eraseL (l ++ m) = PV.eraseL l ++ PV.eraseL m := by
  simp [PV.eraseL_eq]

theorem inPv_erase (xs : List Int) : (inPv xs).erase = inPv xs := by
  simp only [inPv, PV.erase]
  rw [eraseL_map fun _ => rfl]
theorem Tg.pv_erase (t : Tg) : (Tg.pv t).erase = Tg.pv t := by
  simp only [Tg.pv, PV.erase, PV.eraseL, agg_erase (Ty.pv_erase t.ty)]
theorem Ed.pv_erase (t : Ed) : (Ed.pv t).erase = Ed.pv t := by
  simp only [Ed.pv, PV.erase, PV.eraseL, eraseL_append, agg_erase (Ex.pv_erase t.ex), inPv_erase]
theorem Pl.pv_erase (t : Pl) : (Pl.pv t).erase = Pl.pv t := by
  simp only [Pl.pv, PV.erase, PV.eraseL, agg_erase (Ty.pv_erase t.ty), eraseL_map Tg.pv_erase]

theorem UU_erase : ∀ (c : Nat) (x : Dd c), (pvd c x).erase = pvd c x
  | 0, _ => rfl
  | 1, _ => rfl
  | 2, _ => rfl
  | 3, t => Ty.pv_erase t
  | 4, t => Ex.pv_erase t
  | 5, t => Co.pv_erase t
  | 6, b => Co.pvP_erase b
  | 7, t => Tg.pv_erase t
  | 8, xs => inPv_erase xs
  | 9, e => Ed.pv_erase e
  | 10, a => by simp only [pvd, PV.erase, PV.eraseL, agg_erase (Ty.pv_erase _)]
  | 11, h => by simp only [pvd, PV.erase, PV.eraseL, agg_erase (Pl.pv_erase _), inPv_erase]
  | 12, h => by simp only [pvd, PV.erase, PV.eraseL, eraseL_map Tg.pv_erase]
  | 13, h => by simp only [pvd, PV.erase, PV.eraseL, eraseL_map Co.pvP_erase]
  | 14, p => Pl.pv_erase p
  | 15, h => by simp only [pvd, PV.erase, PV.eraseL, eraseL_append, agg_erase (Ed.pv_erase _), eraseL_map Ed.pv_erase]
  | 16, r => by simp only [pvd, PV.erase, PV.eraseL, eraseL_append, agg_erase (Co.pv_erase _)]
  | _ + 17, _ => rfl

theorem pvTy (xs : List Ty) : TV.pv UU (lTy xs) = .sl 2 (Ty.pvL xs) := by rw [Ty.pvL_eq]; rfl
theorem pvEx (xs : List Ex) : TV.pv UU (lEx xs) = .sl 6 (Ex.pvL xs) := by rw [Ex.pvL_eq]; rfl
theorem pvCo (xs : List Co) : TV.pv UU (lCo xs) = .sl 9 (Co.pvL xs) := by rw [Co.pvL_eq]; rfl
theorem pvBi (xs : List Bi) : TV.pv UU (lBi xs) = .sl 10 (Co.pvE xs) := by rw [Co.pvE_eq]; rfl
theorem pvTg (xs : List Tg) : TV.pv UU (lTg xs) = .sl 3 (xs.map Tg.pv) := rfl
theorem pvIn (xs : List Int) : TV.pv UU (lIn xs) = inPv xs := rfl
theorem pvEd (xs : List Ed) : TV.pv UU (lEd xs) = .sl 7 (xs.map Ed.pv) := rfl

theorem tyC (t : Ty) : (Ty.pv t).cells = [.lit (.int .i64 t.kind), .sl 2 (Ty.pvL t.args)] := by cases t; rfl
theorem exC (t : Ex) : (Ex.pv t).cells = [.lit (.int .i64 t.kind), .lit (.string t.name), .lit (.int .i64 t.n), .lit (.int .i64 t.ty.kind), .sl 2 (Ty.pvL t.ty.args), .sl 6 (Ex.pvL t.args)] := by
  obtain ⟨k, nm, n, ⟨tk, ta⟩, xs⟩ := t; rfl
theorem coC (t : Co) : (Co.pv t).cells = [.lit (.int .i64 t.kind), .lit (.string t.name), .lit (.int .i64 t.n), .lit (.int .i64 t.fr.kind), .sl 2 (Ty.pvL t.fr.args), .lit (.int .i64 t.ty.kind), .sl 2 (Ty.pvL t.ty.args), .sl 9 (Co.pvL t.args), .sl 10 (Co.pvE t.env)] := by
  obtain ⟨k, nm, n, ⟨tk, ta⟩, ⟨uk, ua⟩, xs, es⟩ := t; rfl
theorem edC (t : Ed) : (Ed.pv t).cells = (Ex.pv t.ex).cells ++ [inPv t.path] := rfl
theorem plC (t : Pl) : (Pl.pv t).cells = .sl 3 (t.ctx.map Tg.pv) :: .lit (.bool t.ana) :: (Ty.pv t.ty).cells := rfl

theorem pv_int (k : IntKind) (n : Int) : TV.pv UU (.int k n) = .lit (.int k n) := rfl
theorem pv_str (s : ByteArray) : TV.pv UU (.str s) = .lit (.string s) := rfl
theorem pv_bool (s : Bool) : TV.pv UU (.bool s) = .lit (.bool s) := rfl
theorem encTy_pv (t : Ty) : TV.pvL UU (encTy t) = (Ty.pv t).cells := by
  rw [tyC]
  show [TV.pv UU (.int .i64 t.kind), TV.pv UU (lTy t.args)] = _
  rw [pvTy]; rfl
theorem encEx_pv (t : Ex) : TV.pvL UU (encEx t) = (Ex.pv t).cells := by
  rw [exC]
  show [TV.pv UU (.int .i64 t.kind), TV.pv UU (.str t.name), TV.pv UU (.int .i64 t.n), TV.pv UU (.int .i64 t.ty.kind), TV.pv UU (lTy t.ty.args), TV.pv UU (lEx t.args)] = _
  rw [pvTy, pvEx]; rfl
theorem encCo_pv (t : Co) : TV.pvL UU (encCo t) = (Co.pv t).cells := by
  rw [coC]
  show [TV.pv UU (.int .i64 t.kind), TV.pv UU (.str t.name), TV.pv UU (.int .i64 t.n), TV.pv UU (.int .i64 t.fr.kind), TV.pv UU (lTy t.fr.args), TV.pv UU (.int .i64 t.ty.kind), TV.pv UU (lTy t.ty.args), TV.pv UU (lCo t.args), TV.pv UU (lBi t.env)] = _
  rw [pvTy, pvTy, pvCo, pvBi]; rfl
theorem encPl_pv (t : Pl) : TV.pvL UU (encPl t) = (Pl.pv t).cells := by
  rw [plC, tyC]
  show [TV.pv UU (lTg t.ctx), TV.pv UU (.bool t.ana), TV.pv UU (.int .i64 t.ty.kind), TV.pv UU (lTy t.ty.args)] = _
  rw [pvTy, pvTg]; rfl
theorem pvL_app (l m : List (TV UU.D)) : TV.pvL UU (l ++ m) = TV.pvL UU l ++ TV.pvL UU m := by
  simp [pvL_eq]
theorem encEd_pv (t : Ed) : TV.pvL UU (encEd t) = (Ed.pv t).cells := by
  have e : encEd t = encEx t.ex ++ [lIn t.path] := rfl
  rw [e, edC, ← encEx_pv]
  exact pvL_app _ _
theorem enc6 (b : Bi) : TV.pvL UU (.str b.1 :: encCo b.2) = (Co.pvP b).cells := by
  obtain ⟨n, c⟩ := b
  show TV.pv UU (.str n) :: TV.pvL UU (encCo c) = .lit (.string n) :: (Co.pv c).cells
  rw [encCo_pv]; rfl

theorem UU_enc : ∀ (c : Nat) (x : Dd c), TV.pvL UU (encd c x) = (pvd c x).cells
  | 0, _ => rfl
  | 1, _ => rfl
  | 2, _ => rfl
  | 3, t => encTy_pv t
  | 4, t => encEx_pv t
  | 5, t => encCo_pv t
  | 6, b => enc6 b
  | 7, t => congrArg (TV.pv UU (.str (Tg.name t)) :: ·) (encTy_pv (Tg.ty t))
  | 8, xs => rfl
  | 9, e => encEd_pv e
  | 10, a => congrArg (fun l => TV.pv UU (.int .i64 (Ac.kind a)) :: TV.pv UU (.str (Ac.name a)) :: TV.pv UU (.int .i64 (Ac.n a)) :: l) (encTy_pv (Ac.ty a))
  | 11, h => congrArg (fun l => TV.pv UU (.int .i64 (Hi.n h)) :: TV.pv UU (.bool (Hi.mark h)) :: TV.pv UU (lIn (Hi.path h)) :: l) (encPl_pv (Hi.place h))
  | 12, h => rfl
  | 13, h => rfl
  | 14, p => encPl_pv p
  | 15, h => congrArg (fun l => TV.pv UU (lEd (Hy.past h)) :: l) ((pvL_app (encEd (Hy.now h)) [lEd (Hy.next h)]).trans (congrArg (· ++ [TV.pv UU (lEd (Hy.next h))]) (encEd_pv (Hy.now h))))
  | 16, r => congrArg (fun l => TV.pv UU (.int .i64 (Rs.status r)) :: l) ((pvL_app (encCo (Rs.value r)) [.int .i64 (Rs.steps r)]).trans (congrArg (· ++ [TV.pv UU (.int .i64 (Rs.steps r))]) (encCo_pv (Rs.value r))))
  | _ + 17, _ => rfl

theorem UU_flat : ∀ (c : Nat) (x : Dd c), ∀ v ∈ encd c x, v.flat = true
  | 0, _ => by simp [encd, TV.flat]
  | 1, _ => by simp [encd, TV.flat]
  | 2, _ => by simp [encd, TV.flat]
  | 3, _ => by simp [encd, encTy, lTy, TV.flat]
  | 4, _ => by simp [encd, encEx, lTy, lEx, TV.flat]
  | 5, _ => by simp [encd, encCo, lTy, lCo, lBi, TV.flat]
  | 6, _ => by simp [encd, lTy, lCo, lBi, TV.flat]
  | 7, _ => by simp [encd, lTy, TV.flat]
  | 8, _ => by simp [encd, lIn, TV.flat]
  | 9, _ => by simp [encd, encEd, lTy, lEx, lIn, TV.flat]
  | 10, _ => by simp [encd, lTy, TV.flat]
  | 11, _ => by simp [encd, lTy, lTg, lIn, TV.flat]
  | 12, _ => by simp [encd, lTg, TV.flat]
  | 13, _ => by simp [encd, lBi, TV.flat]
  | 14, _ => by simp [encd, encPl, lTg, lTy, TV.flat]
  | 15, _ => by simp [encd, lEd, lTy, lEx, lIn, TV.flat]
  | 16, _ => by simp [encd, lTy, lCo, lBi, TV.flat]
  | _ + 17, _ => by simp [encd]

theorem gI_ok {v : TV Dd} {n : Int} (h : gI v = some n) : v = .int .i64 n := by
  unfold gI at h
  split at h
  · injection h with h; subst h; rfl
  · cases h
theorem gS_ok {v : TV Dd} {n : ByteArray} (h : gS v = some n) : v = .str n := by
  unfold gS at h
  split at h
  · injection h with h; subst h; rfl
  · cases h
theorem gB_ok {v : TV Dd} {n : Bool} (h : gB v = some n) : v = .bool n := by
  unfold gB at h
  split at h
  · injection h with h; subst h; rfl
  · cases h
theorem gL_ok {c : Nat} {v : TV Dd} {xs : List (Dd c)} (h : gL c v = some xs) : v = .sl c xs := by
  unfold gL at h
  split at h
  · obtain ⟨e, rfl⟩ := castL_some h
    subst e; rfl
  · cases h

theorem decTy_ok {l : List (TV Dd)} {t : Ty} (h : decTy l = some t) : l = encTy t := by
  unfold decTy at h
  split at h
  · simp only [Option.bind_eq_some_iff, Option.some.injEq] at h
    obtain ⟨a, ha, b, hb, rfl⟩ := h
    rw [gI_ok ha, gL_ok hb]; rfl
  · cases h
theorem decTy2 {a b : TV Dd} {t : Ty} (h : decTy [a, b] = some t) : a = .int .i64 t.kind ∧ b = lTy t.args := by
  have := decTy_ok h
  simp only [encTy, List.cons.injEq, and_true] at this
  exact this
theorem decEx_ok {l : List (TV Dd)} {t : Ex} (h : decEx l = some t) : l = encEx t := by
  unfold decEx at h
  split at h
  · simp only [Option.bind_eq_some_iff, Option.some.injEq] at h
    obtain ⟨a, ha, b, hb, c, hc, t, ht, f, hf, rfl⟩ := h
    obtain ⟨h1, h2⟩ := decTy2 ht
    rw [gI_ok ha, gS_ok hb, gI_ok hc, h1, h2, gL_ok hf]; rfl
  · cases h
theorem decCo_ok {l : List (TV Dd)} {t : Co} (h : decCo l = some t) : l = encCo t := by
  unfold decCo at h
  split at h
  · simp only [Option.bind_eq_some_iff, Option.some.injEq] at h
    obtain ⟨a, ha, b, hb, c, hc, t, ht, u, hu, f, hf, g, hg, rfl⟩ := h
    obtain ⟨h1, h2⟩ := decTy2 ht
    obtain ⟨h3, h4⟩ := decTy2 hu
    rw [gI_ok ha, gS_ok hb, gI_ok hc, h1, h2, h3, h4, gL_ok hf, gL_ok hg]; rfl
  · cases h
theorem decPl_ok {l : List (TV Dd)} {t : Pl} (h : decPl l = some t) : l = encPl t := by
  unfold decPl at h
  split at h
  · simp only [Option.bind_eq_some_iff, Option.some.injEq] at h
    obtain ⟨a, ha, b, hb, t, ht, rfl⟩ := h
    obtain ⟨h1, h2⟩ := decTy2 ht
    rw [gL_ok ha, gB_ok hb, h1, h2]; rfl
  · cases h
theorem decEd_ok {l : List (TV Dd)} {t : Ed} (h : decEd l = some t) : l = encEd t := by
  unfold decEd at h
  split at h
  · simp only [Option.bind_eq_some_iff, Option.some.injEq] at h
    obtain ⟨x, hx, g, hg, rfl⟩ := h
    have h1 := decEx_ok hx
    simp only [encEx, List.cons.injEq, and_true] at h1
    obtain ⟨h1, h2, h3, h4, h5, h6⟩ := h1
    rw [h1, h2, h3, h4, h5, h6, gL_ok hg]; rfl
  · cases h

theorem decI_ok {l : List (TV Dd)} {t : Int} (h : decI l = some t) : l = [.int .i64 t] := by
  unfold decI at h
  split at h
  · rw [gI_ok h]
  · cases h
theorem decSt_ok {l : List (TV Dd)} {t : ByteArray} (h : decSt l = some t) : l = [.str t] := by
  unfold decSt at h
  split at h
  · rw [gS_ok h]
  · cases h
theorem decBy_ok {l : List (TV Dd)} {t : Int} (h : decBy l = some t) : l = [.int .u8 t] := by
  unfold decBy at h
  split at h
  · injection h with h; subst h; rfl
  · cases h
theorem decLI_ok : ∀ {l : List (TV Dd)} {t : List Int} (h : decLI l = some t), l = [lIn t]
  | [x], t, h => by
    have h : gL 0 x = some t := h
    rw [gL_ok h]; rfl
  | [], _, h => by cases h
  | _ :: _ :: _, _, h => by cases h
theorem decBi_ok {l : List (TV Dd)} {t : Bi} (h : decBi l = some t) : l = .str t.1 :: encCo t.2 := by
  unfold decBi at h
  split at h
  · simp only [Option.bind_eq_some_iff, Option.some.injEq] at h
    obtain ⟨a, ha, c, hc, rfl⟩ := h
    rw [gS_ok ha, decCo_ok hc]
  · cases h
theorem decTg_ok {l : List (TV Dd)} {t : Tg} (h : decTg l = some t) : l = .str t.name :: encTy t.ty := by
  unfold decTg at h
  split at h
  · simp only [Option.bind_eq_some_iff, Option.some.injEq] at h
    obtain ⟨a, ha, c, hc, rfl⟩ := h
    rw [gS_ok ha, decTy_ok hc]
  · cases h
theorem decAc_ok {l : List (TV Dd)} {t : Ac} (h : decAc l = some t) : l = .int .i64 t.kind :: .str t.name :: .int .i64 t.n :: encTy t.ty := by
  unfold decAc at h
  split at h
  · simp only [Option.bind_eq_some_iff, Option.some.injEq] at h
    obtain ⟨a, ha, b, hb, c, hc, t, ht, rfl⟩ := h
    obtain ⟨h1, h2⟩ := decTy2 ht
    rw [gI_ok ha, gS_ok hb, gI_ok hc, h1, h2]; rfl
  · cases h
theorem decHi_ok {l : List (TV Dd)} {t : Hi} (h : decHi l = some t) : l = .int .i64 t.n :: .bool t.mark :: lIn t.path :: encPl t.place := by
  unfold decHi at h
  split at h
  · simp only [Option.bind_eq_some_iff, Option.some.injEq] at h
    obtain ⟨a, ha, b, hb, c, hc, t, ht, rfl⟩ := h
    rw [gI_ok ha, gB_ok hb, gL_ok hc, decPl_ok ht]; rfl
  · cases h
theorem decHc_ok {l : List (TV Dd)} {t : Hc} (h : decHc l = some t) : l = [.int .i64 t.n, lTg t.ctx] := by
  unfold decHc at h
  split at h
  · simp only [Option.bind_eq_some_iff, Option.some.injEq] at h
    obtain ⟨a, ha, b, hb, rfl⟩ := h
    rw [gI_ok ha, gL_ok hb]; rfl
  · cases h
theorem decCl_ok {l : List (TV Dd)} {t : Cl} (h : decCl l = some t) : l = [.int .i64 t.n, .bool t.mark, lBi t.env] := by
  unfold decCl at h
  split at h
  · simp only [Option.bind_eq_some_iff, Option.some.injEq] at h
    obtain ⟨a, ha, b, hb, c, hc, rfl⟩ := h
    rw [gI_ok ha, gB_ok hb, gL_ok hc]; rfl
  · cases h
theorem decHy_ok {l : List (TV Dd)} {t : Hy} (h : decHy l = some t) : l = lEd t.past :: (encEd t.now ++ [lEd t.next]) := by
  unfold decHy at h
  split at h
  · simp only [Option.bind_eq_some_iff, Option.some.injEq] at h
    obtain ⟨a, ha, n, hn, i, hi, rfl⟩ := h
    have h1 := decEd_ok hn
    simp only [encEd, List.cons.injEq, and_true] at h1
    obtain ⟨h1, h2, h3, h4, h5, h6, h7⟩ := h1
    rw [gL_ok ha, h1, h2, h3, h4, h5, h6, h7, gL_ok hi]; rfl
  · cases h
theorem decRs_ok {l : List (TV Dd)} {t : Rs} (h : decRs l = some t) : l = .int .i64 t.status :: (encCo t.value ++ [.int .i64 t.steps]) := by
  unfold decRs at h
  split at h
  · simp only [Option.bind_eq_some_iff, Option.some.injEq] at h
    obtain ⟨a, ha, n, hn, i, hi, rfl⟩ := h
    have h1 := decCo_ok hn
    simp only [encCo, List.cons.injEq, and_true] at h1
    obtain ⟨h1, h2, h3, h4, h5, h6, h7, h8, h9⟩ := h1
    rw [gI_ok ha, h1, h2, h3, h4, h5, h6, h7, h8, h9, gI_ok hi]; rfl
  · cases h
theorem UU_decE : ∀ (c : Nat) (cs : List (TV Dd)) (x : Dd c), decd c cs = some x → cs = encd c x
  | 0, _, _, h => decI_ok h
  | 1, _, _, h => decSt_ok h
  | 2, _, _, h => decBy_ok h
  | 3, _, _, h => decTy_ok h
  | 4, _, _, h => decEx_ok h
  | 5, _, _, h => decCo_ok h
  | 6, _, _, h => decBi_ok h
  | 7, _, _, h => decTg_ok h
  | 8, _, _, h => decLI_ok h
  | 9, _, _, h => decEd_ok h
  | 10, _, _, h => decAc_ok h
  | 11, _, _, h => decHi_ok h
  | 12, _, _, h => decHc_ok h
  | 13, _, _, h => decCl_ok h
  | 14, _, _, h => decPl_ok h
  | 15, _, _, h => decHy_ok h
  | 16, _, _, h => decRs_ok h
  | _ + 17, _, _, h => by cases h

theorem UU_len : ∀ (c : Nat) (x : Dd c), (encd c x).length = szd c
  | 0, _ | 1, _ | 2, _ | 3, _ | 4, _ | 5, _ | 6, _ | 7, _ | 8, _ | 9, _ | 10, _ | 11, _ | 12, _ | 13, _ | 14, _ | 15, _ | 16, _ | _ + 17, _ => rfl

theorem UU_st1 : ∀ (c : Nat) (x : Dd c), std c = true → pvd c x = .agg (pvd c x).cells
  | 0, _, h | 1, _, h | 2, _, h | 8, _, h => by cases h
  | 3, t, _ => by cases t; rfl
  | 4, ⟨_, _, _, ⟨_, _⟩, _⟩, _ => rfl
  | 5, t, _ => Co.pv_agg t
  | 6, (_, _), _ => rfl
  | 7, _, _ | 9, _, _ | 10, _, _ | 11, _, _ | 12, _, _ | 13, _, _ | 14, _, _ | 15, _, _ | 16, _, _ | _ + 17, _, _ => rfl

theorem UU_st0 : ∀ (c : Nat) (x : Dd c), std c = false → (pvd c x).cells = [pvd c x]
  | 0, _, _ | 1, _, _ | 2, _, _ | 8, _, _ => rfl
  | 3, _, h | 4, _, h | 5, _, h | 6, _, h | 7, _, h | 9, _, h | 10, _, h | 11, _, h | 12, _, h | 13, _, h | 14, _, h | 15, _, h | 16, _, h | _ + 17, _, h => by cases h

theorem UU_stsz : ∀ c : Nat, std c = true ↔ szd c ≠ 1
  | 0 | 1 | 2 | 3 | 4 | 5 | 6 | 7 | 8 | 9 | 10 | 11 | 12 | 13 | 14 | 15 | 16 | _ + 17 => by simp [std, szd]

theorem UU_ok : UU.Ok where
  erase := UU_erase
  enc := UU_enc
  flat := UU_flat
  dec := fun c cs x h => by rw [UU_decE c cs x h]; exact UU_enc c x
  sz := fun c x => by
    have h1 := congrArg List.length (UU_enc c x)
    have h2 := pvL_len (U := UU) (encd c x)
    show (pvd c x).cells.length = szd c
    rw [← UU_len c x, ← h1]
    exact h2
  st1 := UU_st1
  st0 := UU_st0
  stsz := UU_stsz
end Go.Tx
