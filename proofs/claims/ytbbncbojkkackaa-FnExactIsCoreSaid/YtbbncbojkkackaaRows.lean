/-
  NARROWER THAN 'FOR EVERY INPUT', by the rows' own cells (each row's printed sentence says how): FnExactSameShape: loops · FnExactSizeOfCore: loops · FnExactEqualEdit: loops · FnExactEqualCore: loops · FnExactIsAction: loops · FnExactEqualBinds: loops · FnExactEqualClosure: loops · FnExactEqualHistory: loops · FnExactIsBoxed: loops · FnExactIsCore: loops · FnExactIsAnswer: loops · FnExactIsEdit: loops.
  DERIVED. THE GIVEN ROWS OF THIS SEAT. 12 by the template 'for every input the law returns true; each argument reads behind the call as it read before'; 0 by the template 'total and deterministic' (their statements: YtbbncbojkkackaaTotals.lean).
  GIVEN WITH THE SEED: the statements are not yours to turn. If you find one false, say at which input.
  Laid BY PROGRAM, IN A SANDBOX (cutbox-rows.mjs): the forced cells as the released guide's own fill.sh prints them over the translation c50644ce2b5523e3… (all of the seat's roots in one cut). By AI agents, Wed Nov 11 2026. No macro, syntax, notation, axiom, sorry.
-/
import Derived.Test.YtbbncbojkkackaaChecked
import GoSem.Claim
import GoSem.ClaimJoined
import GoSem.ClaimMapViews
import Derived.JoinedTies
import Derived.KernelRfl
namespace Go.Proofs.Ytbbncbojkkackaa
/- THE CELL 'sum', in the pinned program and in every row, IS THE sha256 OF THE DUMP (.gsa) THAT YtbbncbojkkackaaProg.lean LOADS. Nothing in Lean hashes anything: it is a label: what it is worth is what the hold of that sum in a sandbox is worth. -/
noncomputable def Try.pinned : Pinned := { name := "ytbbncbojkkackaa", sum := "c50644ce2b5523e3f32a205a20f168c818b8af16035b82b29e372951d4ece2c6", checked := Try.checked }
namespace Rows
def none {H : Type} : Left H := { results := [], args := [] }

/-- 'laws.FnExactSameShape': WHATEVER THE INPUT: true; the input reads as it did. -/
def fnExactSameShapeSpec : ChangeSpec := { name := "fnExactSameShape", fn := fun _ => fun
  | [d1, d2] => { results := [.lit (.bool true)], args := [d1, d2] }
  | _ => none }
def fnExactSameShapeRow : OpenClaim := { program := "ytbbncbojkkackaa", sum := "c50644ce2b5523e3f32a205a20f168c818b8af16035b82b29e372951d4ece2c6", func := "loop.example/g00585/laws.FnExactSameShape", spec := "fnExactSameShape", unfollowed := true, recurses := true, loops := true, apart := false }
def FnExactSameShapeSaid : Prop := fnExactSameShapeRow.holds Try.pinned (OpenSpec.ofChange fnExactSameShapeSpec)

/-- ITS FALSE NEIGHBOUR: 'it returns false'. Refute it at one input. -/
def fnExactSameShapeWrong : ChangeSpec := { name := "fnExactSameShape", fn := fun _ => fun
  | [d1, d2] => { results := [.lit (.bool false)], args := [d1, d2] }
  | _ => none }
def FnExactSameShapeWrongFalsely : Prop := fnExactSameShapeRow.holds Try.pinned (OpenSpec.ofChange fnExactSameShapeWrong)

/-- 'laws.FnExactSizeOfCore': WHATEVER THE INPUT: true; the input reads as it did. -/
def fnExactSizeOfCoreSpec : ChangeSpec := { name := "fnExactSizeOfCore", fn := fun _ => fun
  | [d] => { results := [.lit (.bool true)], args := [d] }
  | _ => none }
def fnExactSizeOfCoreRow : OpenClaim := { program := "ytbbncbojkkackaa", sum := "c50644ce2b5523e3f32a205a20f168c818b8af16035b82b29e372951d4ece2c6", func := "loop.example/g00585/laws.FnExactSizeOfCore", spec := "fnExactSizeOfCore", recurses := true, loops := true, apart := false }
def FnExactSizeOfCoreSaid : Prop := fnExactSizeOfCoreRow.holds Try.pinned (OpenSpec.ofChange fnExactSizeOfCoreSpec)

/-- ITS FALSE NEIGHBOUR: 'it returns false'. Refute it at one input. -/
def fnExactSizeOfCoreWrong : ChangeSpec := { name := "fnExactSizeOfCore", fn := fun _ => fun
  | [d] => { results := [.lit (.bool false)], args := [d] }
  | _ => none }
def FnExactSizeOfCoreWrongFalsely : Prop := fnExactSizeOfCoreRow.holds Try.pinned (OpenSpec.ofChange fnExactSizeOfCoreWrong)

/-- 'laws.FnExactEqualEdit': WHATEVER THE INPUT: true; the input reads as it did. -/
def fnExactEqualEditSpec : ChangeSpec := { name := "fnExactEqualEdit", fn := fun _ => fun
  | [d1, d2] => { results := [.lit (.bool true)], args := [d1, d2] }
  | _ => none }
def fnExactEqualEditRow : OpenClaim := { program := "ytbbncbojkkackaa", sum := "c50644ce2b5523e3f32a205a20f168c818b8af16035b82b29e372951d4ece2c6", func := "loop.example/g00585/laws.FnExactEqualEdit", spec := "fnExactEqualEdit", unfollowed := true, recurses := true, loops := true, apart := false }
def FnExactEqualEditSaid : Prop := fnExactEqualEditRow.holds Try.pinned (OpenSpec.ofChange fnExactEqualEditSpec)

/-- ITS FALSE NEIGHBOUR: 'it returns false'. Refute it at one input. -/
def fnExactEqualEditWrong : ChangeSpec := { name := "fnExactEqualEdit", fn := fun _ => fun
  | [d1, d2] => { results := [.lit (.bool false)], args := [d1, d2] }
  | _ => none }
def FnExactEqualEditWrongFalsely : Prop := fnExactEqualEditRow.holds Try.pinned (OpenSpec.ofChange fnExactEqualEditWrong)

/-- 'laws.FnExactEqualCore': WHATEVER THE INPUT: true; the input reads as it did. -/
def fnExactEqualCoreSpec : ChangeSpec := { name := "fnExactEqualCore", fn := fun _ => fun
  | [d1, d2] => { results := [.lit (.bool true)], args := [d1, d2] }
  | _ => none }
def fnExactEqualCoreRow : OpenClaim := { program := "ytbbncbojkkackaa", sum := "c50644ce2b5523e3f32a205a20f168c818b8af16035b82b29e372951d4ece2c6", func := "loop.example/g00585/laws.FnExactEqualCore", spec := "fnExactEqualCore", unfollowed := true, recurses := true, loops := true, apart := false }
def FnExactEqualCoreSaid : Prop := fnExactEqualCoreRow.holds Try.pinned (OpenSpec.ofChange fnExactEqualCoreSpec)

/-- ITS FALSE NEIGHBOUR: 'it returns false'. Refute it at one input. -/
def fnExactEqualCoreWrong : ChangeSpec := { name := "fnExactEqualCore", fn := fun _ => fun
  | [d1, d2] => { results := [.lit (.bool false)], args := [d1, d2] }
  | _ => none }
def FnExactEqualCoreWrongFalsely : Prop := fnExactEqualCoreRow.holds Try.pinned (OpenSpec.ofChange fnExactEqualCoreWrong)

/-- 'laws.FnExactIsAction': WHATEVER THE INPUT: true; the input reads as it did. -/
def fnExactIsActionSpec : ChangeSpec := { name := "fnExactIsAction", fn := fun _ => fun
  | [d] => { results := [.lit (.bool true)], args := [d] }
  | _ => none }
def fnExactIsActionRow : OpenClaim := { program := "ytbbncbojkkackaa", sum := "c50644ce2b5523e3f32a205a20f168c818b8af16035b82b29e372951d4ece2c6", func := "loop.example/g00585/laws.FnExactIsAction", spec := "fnExactIsAction", unfollowed := true, recurses := true, loops := true, apart := false }
def FnExactIsActionSaid : Prop := fnExactIsActionRow.holds Try.pinned (OpenSpec.ofChange fnExactIsActionSpec)

/-- ITS FALSE NEIGHBOUR: 'it returns false'. Refute it at one input. -/
def fnExactIsActionWrong : ChangeSpec := { name := "fnExactIsAction", fn := fun _ => fun
  | [d] => { results := [.lit (.bool false)], args := [d] }
  | _ => none }
def FnExactIsActionWrongFalsely : Prop := fnExactIsActionRow.holds Try.pinned (OpenSpec.ofChange fnExactIsActionWrong)

/-- 'laws.FnExactEqualBinds': WHATEVER THE INPUT: true; the input reads as it did. -/
def fnExactEqualBindsSpec : ChangeSpec := { name := "fnExactEqualBinds", fn := fun _ => fun
  | [d1, d2] => { results := [.lit (.bool true)], args := [d1, d2] }
  | _ => none }
def fnExactEqualBindsRow : OpenClaim := { program := "ytbbncbojkkackaa", sum := "c50644ce2b5523e3f32a205a20f168c818b8af16035b82b29e372951d4ece2c6", func := "loop.example/g00585/laws.FnExactEqualBinds", spec := "fnExactEqualBinds", unfollowed := true, recurses := true, loops := true, apart := false }
def FnExactEqualBindsSaid : Prop := fnExactEqualBindsRow.holds Try.pinned (OpenSpec.ofChange fnExactEqualBindsSpec)

/-- ITS FALSE NEIGHBOUR: 'it returns false'. Refute it at one input. -/
def fnExactEqualBindsWrong : ChangeSpec := { name := "fnExactEqualBinds", fn := fun _ => fun
  | [d1, d2] => { results := [.lit (.bool false)], args := [d1, d2] }
  | _ => none }
def FnExactEqualBindsWrongFalsely : Prop := fnExactEqualBindsRow.holds Try.pinned (OpenSpec.ofChange fnExactEqualBindsWrong)

/-- 'laws.FnExactEqualClosure': WHATEVER THE INPUT: true; the input reads as it did. -/
def fnExactEqualClosureSpec : ChangeSpec := { name := "fnExactEqualClosure", fn := fun _ => fun
  | [d1, d2] => { results := [.lit (.bool true)], args := [d1, d2] }
  | _ => none }
def fnExactEqualClosureRow : OpenClaim := { program := "ytbbncbojkkackaa", sum := "c50644ce2b5523e3f32a205a20f168c818b8af16035b82b29e372951d4ece2c6", func := "loop.example/g00585/laws.FnExactEqualClosure", spec := "fnExactEqualClosure", unfollowed := true, recurses := true, loops := true, apart := false }
def FnExactEqualClosureSaid : Prop := fnExactEqualClosureRow.holds Try.pinned (OpenSpec.ofChange fnExactEqualClosureSpec)

/-- ITS FALSE NEIGHBOUR: 'it returns false'. Refute it at one input. -/
def fnExactEqualClosureWrong : ChangeSpec := { name := "fnExactEqualClosure", fn := fun _ => fun
  | [d1, d2] => { results := [.lit (.bool false)], args := [d1, d2] }
  | _ => none }
def FnExactEqualClosureWrongFalsely : Prop := fnExactEqualClosureRow.holds Try.pinned (OpenSpec.ofChange fnExactEqualClosureWrong)

/-- 'laws.FnExactEqualHistory': WHATEVER THE INPUT: true; the input reads as it did. -/
def fnExactEqualHistorySpec : ChangeSpec := { name := "fnExactEqualHistory", fn := fun _ => fun
  | [d1, d2] => { results := [.lit (.bool true)], args := [d1, d2] }
  | _ => none }
def fnExactEqualHistoryRow : OpenClaim := { program := "ytbbncbojkkackaa", sum := "c50644ce2b5523e3f32a205a20f168c818b8af16035b82b29e372951d4ece2c6", func := "loop.example/g00585/laws.FnExactEqualHistory", spec := "fnExactEqualHistory", unfollowed := true, recurses := true, loops := true, apart := false }
def FnExactEqualHistorySaid : Prop := fnExactEqualHistoryRow.holds Try.pinned (OpenSpec.ofChange fnExactEqualHistorySpec)

/-- ITS FALSE NEIGHBOUR: 'it returns false'. Refute it at one input. -/
def fnExactEqualHistoryWrong : ChangeSpec := { name := "fnExactEqualHistory", fn := fun _ => fun
  | [d1, d2] => { results := [.lit (.bool false)], args := [d1, d2] }
  | _ => none }
def FnExactEqualHistoryWrongFalsely : Prop := fnExactEqualHistoryRow.holds Try.pinned (OpenSpec.ofChange fnExactEqualHistoryWrong)

/-- 'laws.FnExactIsBoxed': WHATEVER THE INPUT: true; the input reads as it did. -/
def fnExactIsBoxedSpec : ChangeSpec := { name := "fnExactIsBoxed", fn := fun _ => fun
  | [d] => { results := [.lit (.bool true)], args := [d] }
  | _ => none }
def fnExactIsBoxedRow : OpenClaim := { program := "ytbbncbojkkackaa", sum := "c50644ce2b5523e3f32a205a20f168c818b8af16035b82b29e372951d4ece2c6", func := "loop.example/g00585/laws.FnExactIsBoxed", spec := "fnExactIsBoxed", unfollowed := true, recurses := true, loops := true, apart := false }
def FnExactIsBoxedSaid : Prop := fnExactIsBoxedRow.holds Try.pinned (OpenSpec.ofChange fnExactIsBoxedSpec)

/-- ITS FALSE NEIGHBOUR: 'it returns false'. Refute it at one input. -/
def fnExactIsBoxedWrong : ChangeSpec := { name := "fnExactIsBoxed", fn := fun _ => fun
  | [d] => { results := [.lit (.bool false)], args := [d] }
  | _ => none }
def FnExactIsBoxedWrongFalsely : Prop := fnExactIsBoxedRow.holds Try.pinned (OpenSpec.ofChange fnExactIsBoxedWrong)

/-- 'laws.FnExactIsCore': WHATEVER THE INPUT: true; the input reads as it did. -/
def fnExactIsCoreSpec : ChangeSpec := { name := "fnExactIsCore", fn := fun _ => fun
  | [d] => { results := [.lit (.bool true)], args := [d] }
  | _ => none }
def fnExactIsCoreRow : OpenClaim := { program := "ytbbncbojkkackaa", sum := "c50644ce2b5523e3f32a205a20f168c818b8af16035b82b29e372951d4ece2c6", func := "loop.example/g00585/laws.FnExactIsCore", spec := "fnExactIsCore", unfollowed := true, recurses := true, loops := true, apart := false }
def FnExactIsCoreSaid : Prop := fnExactIsCoreRow.holds Try.pinned (OpenSpec.ofChange fnExactIsCoreSpec)

/-- ITS FALSE NEIGHBOUR: 'it returns false'. Refute it at one input. -/
def fnExactIsCoreWrong : ChangeSpec := { name := "fnExactIsCore", fn := fun _ => fun
  | [d] => { results := [.lit (.bool false)], args := [d] }
  | _ => none }
def FnExactIsCoreWrongFalsely : Prop := fnExactIsCoreRow.holds Try.pinned (OpenSpec.ofChange fnExactIsCoreWrong)

/-- 'laws.FnExactIsAnswer': WHATEVER THE INPUT: true; the input reads as it did. -/
def fnExactIsAnswerSpec : ChangeSpec := { name := "fnExactIsAnswer", fn := fun _ => fun
  | [d] => { results := [.lit (.bool true)], args := [d] }
  | _ => none }
def fnExactIsAnswerRow : OpenClaim := { program := "ytbbncbojkkackaa", sum := "c50644ce2b5523e3f32a205a20f168c818b8af16035b82b29e372951d4ece2c6", func := "loop.example/g00585/laws.FnExactIsAnswer", spec := "fnExactIsAnswer", unfollowed := true, recurses := true, loops := true, apart := false }
def FnExactIsAnswerSaid : Prop := fnExactIsAnswerRow.holds Try.pinned (OpenSpec.ofChange fnExactIsAnswerSpec)

/-- ITS FALSE NEIGHBOUR: 'it returns false'. Refute it at one input. -/
def fnExactIsAnswerWrong : ChangeSpec := { name := "fnExactIsAnswer", fn := fun _ => fun
  | [d] => { results := [.lit (.bool false)], args := [d] }
  | _ => none }
def FnExactIsAnswerWrongFalsely : Prop := fnExactIsAnswerRow.holds Try.pinned (OpenSpec.ofChange fnExactIsAnswerWrong)

/-- 'laws.FnExactIsEdit': WHATEVER THE INPUT: true; the input reads as it did. -/
def fnExactIsEditSpec : ChangeSpec := { name := "fnExactIsEdit", fn := fun _ => fun
  | [d] => { results := [.lit (.bool true)], args := [d] }
  | _ => none }
def fnExactIsEditRow : OpenClaim := { program := "ytbbncbojkkackaa", sum := "c50644ce2b5523e3f32a205a20f168c818b8af16035b82b29e372951d4ece2c6", func := "loop.example/g00585/laws.FnExactIsEdit", spec := "fnExactIsEdit", unfollowed := true, recurses := true, loops := true, apart := false }
def FnExactIsEditSaid : Prop := fnExactIsEditRow.holds Try.pinned (OpenSpec.ofChange fnExactIsEditSpec)

/-- ITS FALSE NEIGHBOUR: 'it returns false'. Refute it at one input. -/
def fnExactIsEditWrong : ChangeSpec := { name := "fnExactIsEdit", fn := fun _ => fun
  | [d] => { results := [.lit (.bool false)], args := [d] }
  | _ => none }
def FnExactIsEditWrongFalsely : Prop := fnExactIsEditRow.holds Try.pinned (OpenSpec.ofChange fnExactIsEditWrong)

/- THE SECOND FORM. 'bulk': how many values and letters a reading holds, each counted each time it is reached (what is shared counts as often as it is met; a slice's spare places count too). A statement '..UptoSaid' is the law's where the arguments, and the package variables that the reading takes, are together of bulk at most 1048576: NARROWER than '..Said'. Prove '..Said' where nothing that the law and all that it calls make is longer than what came in: it says more and counts as full. Else prove '..UptoSaid'. A law counts once. -/
mutual
def uptoBulk {H : Type} : DataW H → Nat
  | .lit (.string bytes) => bytes.length + 1
  | .lit _ => 1
  | .nil => 1
  | .ptr d => uptoBulk d + 1
  | .slice elems spare => uptoBulkAll elems + uptoBulkAll spare + 1
  | .agg parts => uptoBulkAll parts + 1
  | .iface _ d => uptoBulk d + 1
  | .map entries => uptoBulkEntries entries + 1
  | .held _ => 1
def uptoBulkAll {H : Type} : List (DataW H) → Nat
  | [] => 0
  | d :: r => uptoBulk d + uptoBulkAll r
def uptoBulkEntries {H : Type} : List (Lit × DataW H) → Nat
  | [] => 0
  | x :: r => uptoBulkEntry x + uptoBulkEntries r
def uptoBulkEntry {H : Type} : Lit × DataW H → Nat
  | (.string bytes, d) => bytes.length + uptoBulk d + 1
  | (_, d) => uptoBulk d + 1
 end
def uptoSmall : (H : Type) → List (DataW H) → Bool := fun _ ds => decide (uptoBulkAll ds ≤ 1048576)
def OpenSpec.upto (s : _root_.Go.ChangeSpec) : _root_.Go.OpenSpec := { _root_.Go.OpenSpec.ofChange s with cond := some uptoSmall }

/-- 'laws.FnExactSameShape', WHERE WHAT IT READS IS OF BULK AT MOST 1048576: true; the input reads as it did. -/
def fnExactSameShapeUptoRow : OpenClaim := { program := "ytbbncbojkkackaa", sum := "c50644ce2b5523e3f32a205a20f168c818b8af16035b82b29e372951d4ece2c6", func := "loop.example/g00585/laws.FnExactSameShape", spec := "fnExactSameShape", unfollowed := true, recurses := true, loops := true, apart := false, narrowed := true }
def FnExactSameShapeUptoSaid : Prop := fnExactSameShapeUptoRow.holds Try.pinned (OpenSpec.upto fnExactSameShapeSpec)

/-- 'laws.FnExactSizeOfCore', WHERE WHAT IT READS IS OF BULK AT MOST 1048576: true; the input reads as it did. -/
def fnExactSizeOfCoreUptoRow : OpenClaim := { program := "ytbbncbojkkackaa", sum := "c50644ce2b5523e3f32a205a20f168c818b8af16035b82b29e372951d4ece2c6", func := "loop.example/g00585/laws.FnExactSizeOfCore", spec := "fnExactSizeOfCore", recurses := true, loops := true, apart := false, narrowed := true }
def FnExactSizeOfCoreUptoSaid : Prop := fnExactSizeOfCoreUptoRow.holds Try.pinned (OpenSpec.upto fnExactSizeOfCoreSpec)

/-- 'laws.FnExactEqualEdit', WHERE WHAT IT READS IS OF BULK AT MOST 1048576: true; the input reads as it did. -/
def fnExactEqualEditUptoRow : OpenClaim := { program := "ytbbncbojkkackaa", sum := "c50644ce2b5523e3f32a205a20f168c818b8af16035b82b29e372951d4ece2c6", func := "loop.example/g00585/laws.FnExactEqualEdit", spec := "fnExactEqualEdit", unfollowed := true, recurses := true, loops := true, apart := false, narrowed := true }
def FnExactEqualEditUptoSaid : Prop := fnExactEqualEditUptoRow.holds Try.pinned (OpenSpec.upto fnExactEqualEditSpec)

/-- 'laws.FnExactEqualCore', WHERE WHAT IT READS IS OF BULK AT MOST 1048576: true; the input reads as it did. -/
def fnExactEqualCoreUptoRow : OpenClaim := { program := "ytbbncbojkkackaa", sum := "c50644ce2b5523e3f32a205a20f168c818b8af16035b82b29e372951d4ece2c6", func := "loop.example/g00585/laws.FnExactEqualCore", spec := "fnExactEqualCore", unfollowed := true, recurses := true, loops := true, apart := false, narrowed := true }
def FnExactEqualCoreUptoSaid : Prop := fnExactEqualCoreUptoRow.holds Try.pinned (OpenSpec.upto fnExactEqualCoreSpec)

/-- 'laws.FnExactIsAction', WHERE WHAT IT READS IS OF BULK AT MOST 1048576: true; the input reads as it did. -/
def fnExactIsActionUptoRow : OpenClaim := { program := "ytbbncbojkkackaa", sum := "c50644ce2b5523e3f32a205a20f168c818b8af16035b82b29e372951d4ece2c6", func := "loop.example/g00585/laws.FnExactIsAction", spec := "fnExactIsAction", unfollowed := true, recurses := true, loops := true, apart := false, narrowed := true }
def FnExactIsActionUptoSaid : Prop := fnExactIsActionUptoRow.holds Try.pinned (OpenSpec.upto fnExactIsActionSpec)

/-- 'laws.FnExactEqualBinds', WHERE WHAT IT READS IS OF BULK AT MOST 1048576: true; the input reads as it did. -/
def fnExactEqualBindsUptoRow : OpenClaim := { program := "ytbbncbojkkackaa", sum := "c50644ce2b5523e3f32a205a20f168c818b8af16035b82b29e372951d4ece2c6", func := "loop.example/g00585/laws.FnExactEqualBinds", spec := "fnExactEqualBinds", unfollowed := true, recurses := true, loops := true, apart := false, narrowed := true }
def FnExactEqualBindsUptoSaid : Prop := fnExactEqualBindsUptoRow.holds Try.pinned (OpenSpec.upto fnExactEqualBindsSpec)

/-- 'laws.FnExactEqualClosure', WHERE WHAT IT READS IS OF BULK AT MOST 1048576: true; the input reads as it did. -/
def fnExactEqualClosureUptoRow : OpenClaim := { program := "ytbbncbojkkackaa", sum := "c50644ce2b5523e3f32a205a20f168c818b8af16035b82b29e372951d4ece2c6", func := "loop.example/g00585/laws.FnExactEqualClosure", spec := "fnExactEqualClosure", unfollowed := true, recurses := true, loops := true, apart := false, narrowed := true }
def FnExactEqualClosureUptoSaid : Prop := fnExactEqualClosureUptoRow.holds Try.pinned (OpenSpec.upto fnExactEqualClosureSpec)

/-- 'laws.FnExactEqualHistory', WHERE WHAT IT READS IS OF BULK AT MOST 1048576: true; the input reads as it did. -/
def fnExactEqualHistoryUptoRow : OpenClaim := { program := "ytbbncbojkkackaa", sum := "c50644ce2b5523e3f32a205a20f168c818b8af16035b82b29e372951d4ece2c6", func := "loop.example/g00585/laws.FnExactEqualHistory", spec := "fnExactEqualHistory", unfollowed := true, recurses := true, loops := true, apart := false, narrowed := true }
def FnExactEqualHistoryUptoSaid : Prop := fnExactEqualHistoryUptoRow.holds Try.pinned (OpenSpec.upto fnExactEqualHistorySpec)

/-- 'laws.FnExactIsBoxed', WHERE WHAT IT READS IS OF BULK AT MOST 1048576: true; the input reads as it did. -/
def fnExactIsBoxedUptoRow : OpenClaim := { program := "ytbbncbojkkackaa", sum := "c50644ce2b5523e3f32a205a20f168c818b8af16035b82b29e372951d4ece2c6", func := "loop.example/g00585/laws.FnExactIsBoxed", spec := "fnExactIsBoxed", unfollowed := true, recurses := true, loops := true, apart := false, narrowed := true }
def FnExactIsBoxedUptoSaid : Prop := fnExactIsBoxedUptoRow.holds Try.pinned (OpenSpec.upto fnExactIsBoxedSpec)

/-- 'laws.FnExactIsCore', WHERE WHAT IT READS IS OF BULK AT MOST 1048576: true; the input reads as it did. -/
def fnExactIsCoreUptoRow : OpenClaim := { program := "ytbbncbojkkackaa", sum := "c50644ce2b5523e3f32a205a20f168c818b8af16035b82b29e372951d4ece2c6", func := "loop.example/g00585/laws.FnExactIsCore", spec := "fnExactIsCore", unfollowed := true, recurses := true, loops := true, apart := false, narrowed := true }
def FnExactIsCoreUptoSaid : Prop := fnExactIsCoreUptoRow.holds Try.pinned (OpenSpec.upto fnExactIsCoreSpec)

/-- 'laws.FnExactIsAnswer', WHERE WHAT IT READS IS OF BULK AT MOST 1048576: true; the input reads as it did. -/
def fnExactIsAnswerUptoRow : OpenClaim := { program := "ytbbncbojkkackaa", sum := "c50644ce2b5523e3f32a205a20f168c818b8af16035b82b29e372951d4ece2c6", func := "loop.example/g00585/laws.FnExactIsAnswer", spec := "fnExactIsAnswer", unfollowed := true, recurses := true, loops := true, apart := false, narrowed := true }
def FnExactIsAnswerUptoSaid : Prop := fnExactIsAnswerUptoRow.holds Try.pinned (OpenSpec.upto fnExactIsAnswerSpec)

/-- 'laws.FnExactIsEdit', WHERE WHAT IT READS IS OF BULK AT MOST 1048576: true; the input reads as it did. -/
def fnExactIsEditUptoRow : OpenClaim := { program := "ytbbncbojkkackaa", sum := "c50644ce2b5523e3f32a205a20f168c818b8af16035b82b29e372951d4ece2c6", func := "loop.example/g00585/laws.FnExactIsEdit", spec := "fnExactIsEdit", unfollowed := true, recurses := true, loops := true, apart := false, narrowed := true }
def FnExactIsEditUptoSaid : Prop := fnExactIsEditUptoRow.holds Try.pinned (OpenSpec.upto fnExactIsEditSpec)

end Rows
end Go.Proofs.Ytbbncbojkkackaa
