/- The abstract layer, part 24: from a contract to a given statement: the memory that there was when the call began. -/
import Derived.Test.YtbbncbojkkackaaAxZa
import Derived.ProofKit
namespace Go.Ax
open Go.RowKit

def memOf (W : World) : Mem := { cell := fun b o => W.cell? ⟨b, o, none⟩, cap := fun _ => none }

theorem memOf_agree (W : World) : Agree (memOf W) W := ⟨fun _ _ _ h => h, fun _ _ h => by cases h⟩

theorem ext_none (M : Mem) (W : World) : ExtOK M [] [] W := ⟨rfl, List.nodup_nil, fun j cs b h => by simp at h⟩

theorem AC.start {P : Program} {f : FuncId} {args : List AV} {Q : PV → List (List AV) → Prop} (h : AC P f args [] Q) {W : World} {vs : Array Value}
    (hl : vs.size = args.length) (ha : ∀ (i : Nat) x, args[i]? = some x → RpA (memOf W) (extρ []) x (vs.getD i undef)) :
    Calls P f vs W fun e W' => ∃ v r M', e = .returned v ∧ Q r [] ∧ Rp M' r v ∧ Below W.heap.size W W' := by
  refine (h.2 (memOf W) [] W vs (memOf_agree W) (ext_none _ _) hl ha).mono ?_
  rintro e W' ⟨v, M', r, xs, p⟩
  have hx : xs = [] := by
    have := p.ext.len
    cases xs with
    | nil => rfl
    | cons a b => simp at this
  subst hx
  exact ⟨v, r, M', p.ret, p.q, p.rp, ⟨p.os, p.tape, p.output, p.size, fun k hk => p.frame k hk (by simp)⟩⟩

/-- A law that answers true. -/
theorem AC.law {P : Program} {f : FuncId} {args : List AV} (h : AC P f args [] (fun r _ => r = .lit (.bool true))) {W : World} {vs : Array Value}
    (hl : vs.size = args.length) (ha : ∀ (i : Nat) x, args[i]? = some x → RpA (memOf W) (extρ []) x (vs.getD i undef)) :
    Calls P f vs W fun e W' => e = .returned (.bool true) ∧ Below W.heap.size W W' := by
  refine (h.start hl ha).mono ?_
  rintro e W' ⟨v, r, M', h1, h2, h3, h4⟩
  subst h2
  cases h3
  exact ⟨h1, h4⟩

end Go.Ax

namespace Go.Ax
theorem br {b : Bool} {A B : Unit → Prop} (h1 : b = true → A ()) (h2 : b = false → B ()) : guarded.match_1 (fun _ => Prop) b A B := by
  cases b
  · exact h2 rfl
  · exact h1 rfl
theorem brt {b : Bool} {A B : Unit → Prop} (h1 : b = true → A ()) (h2 : b = false → B ()) : guarded.match_1 (fun _ => Prop) (decide (b = true)) A B := by
  cases b
  · exact h2 rfl
  · exact h1 rfl
theorem brf {b : Bool} {A B : Unit → Prop} (h1 : b = false → A ()) (h2 : b = true → B ()) : guarded.match_1 (fun _ => Prop) (decide (b = false)) A B := by
  cases b
  · exact h1 rfl
  · exact h2 rfl

section
variable {P : Program} {tab : Tab}
theorem AC.introQ (hT : TabOK P tab) (hm : P.follows .mixedOrders = true) {f : FuncId} {fn : Func} {c : Code} {args : List AV} {exts : List (List AV)} {Q : PV → List (List AV) → Prop} (hf : P.funcs[f]? = some fn) (hb : fn.body = some c) (hname : (fn.name == "runtime.NumGoroutine") = false)
    (ms : List Nat) (h : ∀ (O' : Orc) (Q' : PV → List (List AV) → Prop), O' = Orc.std → (∀ r xs, Q r xs → Q' r xs) → O.awp O' ms P tab c (O.fin O' tab fn exts.length Q') { tmps := args ++ List.replicate (fn.ntmps - args.length) .bot, boxes := (exts.zipIdx 1000).map (fun p => (p.2, p.1)), tips := [], U := fun _ => False }) : AC P f args exts Q :=
  AC.introO hT hm hf hb hname ms fun O' hO => h O' Q hO fun _ _ q => q
end
end Go.Ax

namespace Go.Ax
open Go.ChangeShapes Go.WideShapes Go.ChangeAt Go.RowKit
section
variable {H : Type} {enc : TypeId × Value → H} {P : Program}
/-- A law's end: it answers true; what was there is as it was. -/
theorem post_below {f : Func} {s : ChangeSpec} {apart fresh handsOn again : Bool} {W W' : World} {args : Array Value} {v : Value} {ds gs : List (DataW H)} {pa pv : List MemPlace}
    (hW : DataW.Whole enc P f.params.toList s.vars apart W args.toList ds gs (pa ++ pv))
    (hb : Below W.heap.size W W')
    (hres : ∀ (b : Nat) (sp : Nat → Bool) (hd : Bool), DataW.TrodAll enc P W' b sp hd f.resultTypes.toList (v.resultList f.resultTypes.size) (s.fn H (ds ++ gs)).results [])
    (hargs : ∀ sp : Nat → Bool, (∀ p ∈ pa ++ pv, sp p.block = true) → DataW.TrodAll enc P W' 0 sp true f.params.toList args.toList (s.fn H (ds ++ gs)).args pa)
    (hvars : ∀ sp : Nat → Bool, (∀ p ∈ pa ++ pv, sp p.block = true) → DataW.TrodVars enc P W' sp s.vars (s.fn H (ds ++ gs)).vars pv)
    (hok : ∀ (j : Nat) (t : TypeId) (r : Value), f.resultTypes[j]? = some t → (v.resultList f.resultTypes.size)[j]? = some r → Value.okWide P W' .any 0 t r) :
    s.post enc P f apart fresh handsOn again W args v W' := by
  have hold : ∀ p ∈ pa ++ pv, (fun b => decide (b < W.heap.size)) p.block = true := fun p hp => by simpa using hW.lt p hp
  refine ⟨ds, gs, pa ++ pv, [], pa, pv, hW, hres _ _ _, hargs _ hold, hvars _ hold, hb.frame _, fun _ => ?_⟩
  have hlt := hW.lt
  obtain ⟨_, _, _, _, _, hz, hn⟩ := hW
  refine ⟨hok, _, _, ([] ++ pa) ++ pv, ⟨[] ++ pa, pv, trodAll_append (hargs _ (fun _ _ => rfl)) (hres _ _ _), hvars _ (fun _ _ => rfl), rfl, ?_, ?_⟩, ?_⟩
  · intro b off hp
    have hp' : MemPlace.cell b off ∈ pa ++ pv := by simpa using hp
    rw [hb.frozen (p := ⟨b, off, none⟩) (hlt _ hp')]
    exact hz b off hp'
  · intro ha
    simpa using hn ha
  · intro p hp _
    simpa using hp
end
end Go.Ax

namespace Go.Ax
/-- A loop, as evaluation lays it open. -/
theorem loopE {O' : Orc} {ms : List Nat} {P : Program} {tab : Tab} {c : Code} {K : Exit → St → Prop} {st : St} {ι : Type} (inv : ι → St) (ok : ι → Prop) (μ : ι → Nat) (i0 : ι) (h0 : ok i0) (hle : LeC st (inv i0))
    (round : ∀ i, ok i → ∀ Nx : St → Prop, (∀ st' j, ok j → μ j < μ i → LeC st' (inv j) → Nx st') → O.awp O' ms P tab c (thenK Nx K) (inv i)) :
    ∃ I : Nat → St → Prop, (∃ n st', Le st st' ∧ I n st') ∧ ∀ n st, I n st → O.awp O' ms P tab c (thenK (fun st' => ∃ m, m < n ∧ ∃ st'', Le st' st'' ∧ I m st'') K) st :=
  O.awp_loop (P := P) (tab := tab) (c := c) (K := K) inv ok μ i0 h0 hle round
end Go.Ax

namespace Go.Ax
theorem ordI {ops : Array Oper} {K : List Nat → Prop} (l : List Nat) (hs : ops.size = l.length) (h : O.ordOK ops l = true) (k : K l) : ∃ l, O.ordOK ops l = true ∧ K l := ⟨l, h, k⟩
end Go.Ax
