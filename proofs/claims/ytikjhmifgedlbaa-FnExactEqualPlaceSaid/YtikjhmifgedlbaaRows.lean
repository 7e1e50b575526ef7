/-
  NARROWER THAN 'FOR EVERY INPUT', by the rows' own cells (each row's printed sentence says how): FnExactEqualPlace: loops · FnExactSameShape: loops · FnExactSizeOfCore: loops · FnExactEqualEdit: loops.
  DERIVED. THE GIVEN ROWS OF THIS SEAT. 7 by the template 'for every input the law returns true; each argument reads behind the call as it read before'; 0 by the template 'total and deterministic' (their statements: YtikjhmifgedlbaaTotals.lean).
  GIVEN WITH THE SEED: the statements are not yours to turn. If you find one false, say at which input.
  Laid BY PROGRAM, IN A SANDBOX (cutbox-rows.mjs): the forced cells as the released guide's own fill.sh prints them over the translation 3c7e193261a705d4… (all of the seat's roots in one cut). By AI agents, Wed Nov 11 2026. No macro, syntax, notation, axiom, sorry.
-/
import Derived.Test.YtikjhmifgedlbaaChecked
import GoSem.Claim
import GoSem.ClaimJoined
import GoSem.ClaimMapViews
import Derived.JoinedTies
import Derived.KernelRfl
namespace Go.Proofs.Ytikjhmifgedlbaa
/- THE CELL 'sum', in the pinned program and in every row, IS THE sha256 OF THE DUMP (.gsa) THAT YtikjhmifgedlbaaProg.lean LOADS. Nothing in Lean hashes anything: it is a label: what it is worth is what the hold of that sum in a sandbox is worth. -/
noncomputable def Try.pinned : Pinned := { name := "ytikjhmifgedlbaa", sum := "3c7e193261a705d495465bf359b0d2f4f08c90a172ae8661f9c20c8e87a55193", checked := Try.checked }
namespace Rows
def none {H : Type} : Left H := { results := [], args := [] }

/-- 'laws.FnExactFormName': WHATEVER THE INPUT: true; the input reads as it did. -/
def fnExactFormNameSpec : ChangeSpec := { name := "fnExactFormName", fn := fun _ => fun
  | [d] => { results := [.lit (.bool true)], args := [d] }
  | _ => none }
def fnExactFormNameRow : OpenClaim := { program := "ytikjhmifgedlbaa", sum := "3c7e193261a705d495465bf359b0d2f4f08c90a172ae8661f9c20c8e87a55193", func := "loop.example/g00585/laws.FnExactFormName", spec := "fnExactFormName", apart := false }
def FnExactFormNameSaid : Prop := fnExactFormNameRow.holds Try.pinned (OpenSpec.ofChange fnExactFormNameSpec)

/-- ITS FALSE NEIGHBOUR: 'it returns false'. Refute it at one input. -/
def fnExactFormNameWrong : ChangeSpec := { name := "fnExactFormName", fn := fun _ => fun
  | [d] => { results := [.lit (.bool false)], args := [d] }
  | _ => none }
def FnExactFormNameWrongFalsely : Prop := fnExactFormNameRow.holds Try.pinned (OpenSpec.ofChange fnExactFormNameWrong)

/-- 'laws.FnExactCoreArity': WHATEVER THE INPUT: true; the input reads as it did. -/
def fnExactCoreAritySpec : ChangeSpec := { name := "fnExactCoreArity", fn := fun _ => fun
  | [d] => { results := [.lit (.bool true)], args := [d] }
  | _ => none }
def fnExactCoreArityRow : OpenClaim := { program := "ytikjhmifgedlbaa", sum := "3c7e193261a705d495465bf359b0d2f4f08c90a172ae8661f9c20c8e87a55193", func := "loop.example/g00585/laws.FnExactCoreArity", spec := "fnExactCoreArity", apart := false }
def FnExactCoreAritySaid : Prop := fnExactCoreArityRow.holds Try.pinned (OpenSpec.ofChange fnExactCoreAritySpec)

/-- ITS FALSE NEIGHBOUR: 'it returns false'. Refute it at one input. -/
def fnExactCoreArityWrong : ChangeSpec := { name := "fnExactCoreArity", fn := fun _ => fun
  | [d] => { results := [.lit (.bool false)], args := [d] }
  | _ => none }
def FnExactCoreArityWrongFalsely : Prop := fnExactCoreArityRow.holds Try.pinned (OpenSpec.ofChange fnExactCoreArityWrong)

/-- 'laws.FnExactEqualPlace': WHATEVER THE INPUT: true; the input reads as it did. -/
def fnExactEqualPlaceSpec : ChangeSpec := { name := "fnExactEqualPlace", fn := fun _ => fun
  | [d1, d2] => { results := [.lit (.bool true)], args := [d1, d2] }
  | _ => none }
def fnExactEqualPlaceRow : OpenClaim := { program := "ytikjhmifgedlbaa", sum := "3c7e193261a705d495465bf359b0d2f4f08c90a172ae8661f9c20c8e87a55193", func := "loop.example/g00585/laws.FnExactEqualPlace", spec := "fnExactEqualPlace", unfollowed := true, recurses := true, loops := true, apart := false }
def FnExactEqualPlaceSaid : Prop := fnExactEqualPlaceRow.holds Try.pinned (OpenSpec.ofChange fnExactEqualPlaceSpec)

/-- ITS FALSE NEIGHBOUR: 'it returns false'. Refute it at one input. -/
def fnExactEqualPlaceWrong : ChangeSpec := { name := "fnExactEqualPlace", fn := fun _ => fun
  | [d1, d2] => { results := [.lit (.bool false)], args := [d1, d2] }
  | _ => none }
def FnExactEqualPlaceWrongFalsely : Prop := fnExactEqualPlaceRow.holds Try.pinned (OpenSpec.ofChange fnExactEqualPlaceWrong)

/-- 'laws.FnExactStartEdit': WHATEVER THE INPUT: true; the input reads as it did. -/
def fnExactStartEditSpec : ChangeSpec := { name := "fnExactStartEdit", fn := fun _ => fun
  | [] => { results := [.lit (.bool true)], args := [] }
  | _ => none }
def fnExactStartEditRow : OpenClaim := { program := "ytikjhmifgedlbaa", sum := "3c7e193261a705d495465bf359b0d2f4f08c90a172ae8661f9c20c8e87a55193", func := "loop.example/g00585/laws.FnExactStartEdit", spec := "fnExactStartEdit", recurses := true, apart := false }
def FnExactStartEditSaid : Prop := fnExactStartEditRow.holds Try.pinned (OpenSpec.ofChange fnExactStartEditSpec)

/-- ITS FALSE NEIGHBOUR: 'it returns false'. Refute it at one input. -/
def fnExactStartEditWrong : ChangeSpec := { name := "fnExactStartEdit", fn := fun _ => fun
  | [] => { results := [.lit (.bool false)], args := [] }
  | _ => none }
def FnExactStartEditWrongFalsely : Prop := fnExactStartEditRow.holds Try.pinned (OpenSpec.ofChange fnExactStartEditWrong)

/-- 'laws.FnExactSameShape': WHATEVER THE INPUT: true; the input reads as it did. -/
def fnExactSameShapeSpec : ChangeSpec := { name := "fnExactSameShape", fn := fun _ => fun
  | [d1, d2] => { results := [.lit (.bool true)], args := [d1, d2] }
  | _ => none }
def fnExactSameShapeRow : OpenClaim := { program := "ytikjhmifgedlbaa", sum := "3c7e193261a705d495465bf359b0d2f4f08c90a172ae8661f9c20c8e87a55193", func := "loop.example/g00585/laws.FnExactSameShape", spec := "fnExactSameShape", unfollowed := true, recurses := true, loops := true, apart := false }
def FnExactSameShapeSaid : Prop := fnExactSameShapeRow.holds Try.pinned (OpenSpec.ofChange fnExactSameShapeSpec)

/-- ITS FALSE NEIGHBOUR: 'it returns false'. Refute it at one input. -/
def fnExactSameShapeWrong : ChangeSpec := { name := "fnExactSameShape", fn := fun _ => fun
  | [d1, d2] => { results := [.lit (.bool false)], args := [d1, d2] }
  | _ => none }
def FnExactSameShapeWrongFalsely : Prop := fnExactSameShapeRow.holds Try.pinned (OpenSpec.ofChange fnExactSameShapeWrong)

/-- 'laws.FnExactSizeOfCore': WHATEVER THE INPUT: true; the input reads as it did. -/
def fnExactSizeOfCoreSpec : ChangeSpec := { name := "fnExactSizeOfCore", fn := fun _ => fun
  | [d] => { results := [.lit (.bool true)], args := [d] }
  | _ => none }
def fnExactSizeOfCoreRow : OpenClaim := { program := "ytikjhmifgedlbaa", sum := "3c7e193261a705d495465bf359b0d2f4f08c90a172ae8661f9c20c8e87a55193", func := "loop.example/g00585/laws.FnExactSizeOfCore", spec := "fnExactSizeOfCore", recurses := true, loops := true, apart := false }
def FnExactSizeOfCoreSaid : Prop := fnExactSizeOfCoreRow.holds Try.pinned (OpenSpec.ofChange fnExactSizeOfCoreSpec)

/-- ITS FALSE NEIGHBOUR: 'it returns false'. Refute it at one input. -/
def fnExactSizeOfCoreWrong : ChangeSpec := { name := "fnExactSizeOfCore", fn := fun _ => fun
  | [d] => { results := [.lit (.bool false)], args := [d] }
  | _ => none }
def FnExactSizeOfCoreWrongFalsely : Prop := fnExactSizeOfCoreRow.holds Try.pinned (OpenSpec.ofChange fnExactSizeOfCoreWrong)

/-- 'laws.FnExactEqualEdit': WHATEVER THE INPUT: true; the input reads as it did. -/
def fnExactEqualEditSpec : ChangeSpec := { name := "fnExactEqualEdit", fn := fun _ => fun
  | [d1, d2] => { results := [.lit (.bool true)], args := [d1, d2] }
  | _ => none }
def fnExactEqualEditRow : OpenClaim := { program := "ytikjhmifgedlbaa", sum := "3c7e193261a705d495465bf359b0d2f4f08c90a172ae8661f9c20c8e87a55193", func := "loop.example/g00585/laws.FnExactEqualEdit", spec := "fnExactEqualEdit", unfollowed := true, recurses := true, loops := true, apart := false }
def FnExactEqualEditSaid : Prop := fnExactEqualEditRow.holds Try.pinned (OpenSpec.ofChange fnExactEqualEditSpec)

/-- ITS FALSE NEIGHBOUR: 'it returns false'. Refute it at one input. -/
def fnExactEqualEditWrong : ChangeSpec := { name := "fnExactEqualEdit", fn := fun _ => fun
  | [d1, d2] => { results := [.lit (.bool false)], args := [d1, d2] }
  | _ => none }
def FnExactEqualEditWrongFalsely : Prop := fnExactEqualEditRow.holds Try.pinned (OpenSpec.ofChange fnExactEqualEditWrong)

/- THE SECOND FORM. 'bulk': how many values and letters a reading holds, each counted each time it is reached (what is shared counts as often as it is met; a slice's spare places count too). A statement '..UptoSaid' is the law's where the arguments, and the package variables that the reading takes, are together of bulk at most 1048576: NARROWER than '..Said'. Prove '..Said' where nothing that the law and all that it calls make is longer than what came in: it says more and counts as full. Else prove '..UptoSaid'. A law counts once. -/
mutual
def uptoBulk {H : Type} : DataW H → Nat
  | .lit (.string bytes) => bytes.length + 1
  | .lit _ => 1
  | .nil => 1
  | .ptr d => uptoBulk d + 1
  | .slice elems spare => uptoBulkAll elems + uptoBulkAll spare + 1
  | .agg parts => uptoBulkAll parts + 1
  | .iface _ d => uptoBulk d + 1
  | .map entries => uptoBulkEntries entries + 1
  | .held _ => 1
def uptoBulkAll {H : Type} : List (DataW H) → Nat
  | [] => 0
  | d :: r => uptoBulk d + uptoBulkAll r
def uptoBulkEntries {H : Type} : List (Lit × DataW H) → Nat
  | [] => 0
  | x :: r => uptoBulkEntry x + uptoBulkEntries r
def uptoBulkEntry {H : Type} : Lit × DataW H → Nat
  | (.string bytes, d) => bytes.length + uptoBulk d + 1
  | (_, d) => uptoBulk d + 1
 end
def uptoSmall : (H : Type) → List (DataW H) → Bool := fun _ ds => decide (uptoBulkAll ds ≤ 1048576)
def OpenSpec.upto (s : _root_.Go.ChangeSpec) : _root_.Go.OpenSpec := { _root_.Go.OpenSpec.ofChange s with cond := some uptoSmall }

/-- 'laws.FnExactFormName', WHERE WHAT IT READS IS OF BULK AT MOST 1048576: true; the input reads as it did. -/
def fnExactFormNameUptoRow : OpenClaim := { program := "ytikjhmifgedlbaa", sum := "3c7e193261a705d495465bf359b0d2f4f08c90a172ae8661f9c20c8e87a55193", func := "loop.example/g00585/laws.FnExactFormName", spec := "fnExactFormName", apart := false, narrowed := true }
def FnExactFormNameUptoSaid : Prop := fnExactFormNameUptoRow.holds Try.pinned (OpenSpec.upto fnExactFormNameSpec)

/-- 'laws.FnExactCoreArity', WHERE WHAT IT READS IS OF BULK AT MOST 1048576: true; the input reads as it did. -/
def fnExactCoreArityUptoRow : OpenClaim := { program := "ytikjhmifgedlbaa", sum := "3c7e193261a705d495465bf359b0d2f4f08c90a172ae8661f9c20c8e87a55193", func := "loop.example/g00585/laws.FnExactCoreArity", spec := "fnExactCoreArity", apart := false, narrowed := true }
def FnExactCoreArityUptoSaid : Prop := fnExactCoreArityUptoRow.holds Try.pinned (OpenSpec.upto fnExactCoreAritySpec)

/-- 'laws.FnExactEqualPlace', WHERE WHAT IT READS IS OF BULK AT MOST 1048576: true; the input reads as it did. -/
def fnExactEqualPlaceUptoRow : OpenClaim := { program := "ytikjhmifgedlbaa", sum := "3c7e193261a705d495465bf359b0d2f4f08c90a172ae8661f9c20c8e87a55193", func := "loop.example/g00585/laws.FnExactEqualPlace", spec := "fnExactEqualPlace", unfollowed := true, recurses := true, loops := true, apart := false, narrowed := true }
def FnExactEqualPlaceUptoSaid : Prop := fnExactEqualPlaceUptoRow.holds Try.pinned (OpenSpec.upto fnExactEqualPlaceSpec)

/-- 'laws.FnExactStartEdit', WHERE WHAT IT READS IS OF BULK AT MOST 1048576: true; the input reads as it did. -/
def fnExactStartEditUptoRow : OpenClaim := { program := "ytikjhmifgedlbaa", sum := "3c7e193261a705d495465bf359b0d2f4f08c90a172ae8661f9c20c8e87a55193", func := "loop.example/g00585/laws.FnExactStartEdit", spec := "fnExactStartEdit", recurses := true, apart := false, narrowed := true }
def FnExactStartEditUptoSaid : Prop := fnExactStartEditUptoRow.holds Try.pinned (OpenSpec.upto fnExactStartEditSpec)

/-- 'laws.FnExactSameShape', WHERE WHAT IT READS IS OF BULK AT MOST 1048576: true; the input reads as it did. -/
def fnExactSameShapeUptoRow : OpenClaim := { program := "ytikjhmifgedlbaa", sum := "3c7e193261a705d495465bf359b0d2f4f08c90a172ae8661f9c20c8e87a55193", func := "loop.example/g00585/laws.FnExactSameShape", spec := "fnExactSameShape", unfollowed := true, recurses := true, loops := true, apart := false, narrowed := true }
def FnExactSameShapeUptoSaid : Prop := fnExactSameShapeUptoRow.holds Try.pinned (OpenSpec.upto fnExactSameShapeSpec)

/-- 'laws.FnExactSizeOfCore', WHERE WHAT IT READS IS OF BULK AT MOST 1048576: true; the input reads as it did. -/
def fnExactSizeOfCoreUptoRow : OpenClaim := { program := "ytikjhmifgedlbaa", sum := "3c7e193261a705d495465bf359b0d2f4f08c90a172ae8661f9c20c8e87a55193", func := "loop.example/g00585/laws.FnExactSizeOfCore", spec := "fnExactSizeOfCore", recurses := true, loops := true, apart := false, narrowed := true }
def FnExactSizeOfCoreUptoSaid : Prop := fnExactSizeOfCoreUptoRow.holds Try.pinned (OpenSpec.upto fnExactSizeOfCoreSpec)

/-- 'laws.FnExactEqualEdit', WHERE WHAT IT READS IS OF BULK AT MOST 1048576: true; the input reads as it did. -/
def fnExactEqualEditUptoRow : OpenClaim := { program := "ytikjhmifgedlbaa", sum := "3c7e193261a705d495465bf359b0d2f4f08c90a172ae8661f9c20c8e87a55193", func := "loop.example/g00585/laws.FnExactEqualEdit", spec := "fnExactEqualEdit", unfollowed := true, recurses := true, loops := true, apart := false, narrowed := true }
def FnExactEqualEditUptoSaid : Prop := fnExactEqualEditUptoRow.holds Try.pinned (OpenSpec.upto fnExactEqualEditSpec)

end Rows
end Go.Proofs.Ytikjhmifgedlbaa
