/- A law over data that a typed function answers: its row. -/
import Derived.Test.YtbbncbojkkackaaRows
import Derived.Test.YtbbncbojkkackaaRd
import Derived.Test.YtbbncbojkkackaaChecked
set_option linter.unusedVariables false
namespace Go.Proofs.Ytbbncbojkkackaa
open Go.ChangeShapes Go.WideShapes Go.ChangeAt Go.RowKit Go.Ax Go.Tx

theorem Try.own : ownKnob Try.prog.godebug = none := by kernel_rfl
theorem Try.laidOut : laidOutB Try.prog = true := by kernel_rfl
variable {H : Type} {enc : TypeId × Value → H} {w : World} {v : Value} {d : DataW H} {p : List MemPlace}
theorem stays {t : TypeId} {W W' : World} {sp : Nat → Bool} (hr : Try.prog.readableRec t = true) (hrow : t < Try.prog.types.size) (h : DataW.Trod enc Try.prog W 0 (fun _ => true) true t v d p) (hs : ∀ x ∈ p, W.sameAt W' x) (hp : ∀ x ∈ p, sp x.block = true) :
    DataW.Trod enc Try.prog W' 0 sp true t v d p := WideElems.Trod_stays Try.laidOut hr hrow h hs hp
end Go.Proofs.Ytbbncbojkkackaa
