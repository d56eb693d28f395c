/-
  NARROWER THAN 'FOR EVERY INPUT', by the rows' own cells (each row's printed sentence says how): FnExactShowHome: laid · FnExactDpOk: laid · FnExactDpNext: laid · FnExactDpLook: laid · FnExactBookOk: laid · FnExactReadHome: laid · FnExactNewBook: laid · FnExactFullOf: laid · FnExactCountOfKind: laid · FnExactDeepOf: laid · FnExactPathOf: laid · FnExactOpDo: laid.
  DERIVED. THE GIVEN ROWS OF THIS SEAT. 12 by the template 'for every input the law returns true; each argument reads behind the call as it read before'; 0 by the template 'total and deterministic' (their statements: YtijfjgenbdbafaaDoorTotals.lean).
  GIVEN WITH THE SEED: the statements are not yours to turn. If you find one false, say at which input.
  Laid BY PROGRAM, IN A SANDBOX (cutbox-rows.mjs): the forced cells as the released guide's own fill.sh prints them over the translation 2bb86a63e97de09b… (all of the seat's roots in one cut). By AI agents, Wed Nov 11 2026. No macro, syntax, notation, axiom, sorry.
-/
import Derived.Test.YtijfjgenbdbafaaDoorChecked
import GoSem.Claim
import GoSem.ClaimJoined
import GoSem.ClaimMapViews
import Derived.JoinedTies
import Derived.KernelRfl
namespace Go.Proofs.YtijfjgenbdbafaaDoor
/- THE CELL 'sum', in the pinned program and in every row, IS THE sha256 OF THE DUMP (.gsa) THAT YtijfjgenbdbafaaDoorProg.lean LOADS. Nothing in Lean hashes anything: it is a label: what it is worth is what the hold of that sum in a sandbox is worth. -/
noncomputable def Tryd.pinned : Pinned := { name := "ytijfjgenbdbafaadoor", sum := "2bb86a63e97de09b117dab9282e3d880ebb79380792a2d7f745506189838f450", checked := Tryd.checked }
namespace Rows
def none {H : Type} : Left H := { results := [], args := [] }

/- WHAT THE LISTED PACKAGE-LEVEL VARIABLES READ AS WHEN THE CALL BEGINS. Each datum BY PROGRAM (the guide's laid-datum.mjs) off the statement by which the dump's own 'gosem.cut.vars' lays the variable. In a bare row this is a premise. The card (YtijfjgenbdbafaaDoorCards.lean) ties it to the program's text. -/
def laid_loop_example_g00773_impl_knownParts {H : Type} : DataW H := .agg [.lit (.int .i64 32), .lit (.int .i64 46), .lit (.int .i64 48), .lit (.int .i64 126), .lit (.int .i64 161), .lit (.int .i64 255), .lit (.int .i64 469), .lit (.int .i64 470), .lit (.int .i64 768), .lit (.int .i64 772), .lit (.int .i64 776), .lit (.int .i64 776), .lit (.int .i64 778), .lit (.int .i64 778), .lit (.int .i64 803), .lit (.int .i64 803), .lit (.int .i64 807), .lit (.int .i64 807), .lit (.int .i64 902), .lit (.int .i64 902), .lit (.int .i64 904), .lit (.int .i64 906), .lit (.int .i64 908), .lit (.int .i64 908), .lit (.int .i64 910), .lit (.int .i64 911), .lit (.int .i64 913), .lit (.int .i64 929), .lit (.int .i64 931), .lit (.int .i64 937), .lit (.int .i64 940), .lit (.int .i64 943), .lit (.int .i64 945), .lit (.int .i64 969), .lit (.int .i64 972), .lit (.int .i64 974), .lit (.int .i64 1040), .lit (.int .i64 1103), .lit (.int .i64 4352), .lit (.int .i64 4370), .lit (.int .i64 4449), .lit (.int .i64 4469), .lit (.int .i64 4520), .lit (.int .i64 4546), .lit (.int .i64 7840), .lit (.int .i64 7841), .lit (.int .i64 7852), .lit (.int .i64 7853), .lit (.int .i64 8486), .lit (.int .i64 8486), .lit (.int .i64 8491), .lit (.int .i64 8491), .lit (.int .i64 44032), .lit (.int .i64 55203)]

/-- 'laws.FnExactShowHome': WHATEVER THE INPUT: true; the input reads as it did. -/
def fnExactShowHomeSpec : ChangeSpec := { name := "fnExactShowHome", vars := ["loop.example/g00773/impl.knownParts"], fn := fun _ => fun
  | [d1, d2, g1] => { results := [.lit (.bool true)], args := [d1, d2], vars := [g1] }
  | _ => none }
def fnExactShowHomeRow : OpenClaim := { program := "ytijfjgenbdbafaadoor", sum := "2bb86a63e97de09b117dab9282e3d880ebb79380792a2d7f745506189838f450", func := "loop.example/g00773/laws.FnExactShowHome", spec := "fnExactShowHome", recurses := true, named := ["loop.example/g00773/impl.knownParts"], apart := false, laid := [("loop.example/g00773/impl.knownParts", laid_loop_example_g00773_impl_knownParts)] }
def FnExactShowHomeSaid : Prop := fnExactShowHomeRow.holds Tryd.pinned (OpenSpec.ofChange fnExactShowHomeSpec)

/-- ITS FALSE NEIGHBOUR: 'it returns false'. Refute it at one input. -/
def fnExactShowHomeWrong : ChangeSpec := { name := "fnExactShowHome", vars := ["loop.example/g00773/impl.knownParts"], fn := fun _ => fun
  | [d1, d2, g1] => { results := [.lit (.bool false)], args := [d1, d2], vars := [g1] }
  | _ => none }
def FnExactShowHomeWrongFalsely : Prop := fnExactShowHomeRow.holds Tryd.pinned (OpenSpec.ofChange fnExactShowHomeWrong)

/-- 'laws.FnExactDpOk': WHATEVER THE INPUT: true; the input reads as it did. -/
def fnExactDpOkSpec : ChangeSpec := { name := "fnExactDpOk", vars := ["loop.example/g00773/impl.knownParts"], fn := fun _ => fun
  | [d, g1] => { results := [.lit (.bool true)], args := [d], vars := [g1] }
  | _ => none }
def fnExactDpOkRow : OpenClaim := { program := "ytijfjgenbdbafaadoor", sum := "2bb86a63e97de09b117dab9282e3d880ebb79380792a2d7f745506189838f450", func := "loop.example/g00773/laws.FnExactDpOk", spec := "fnExactDpOk", recurses := true, named := ["loop.example/g00773/impl.knownParts"], apart := false, laid := [("loop.example/g00773/impl.knownParts", laid_loop_example_g00773_impl_knownParts)] }
def FnExactDpOkSaid : Prop := fnExactDpOkRow.holds Tryd.pinned (OpenSpec.ofChange fnExactDpOkSpec)

/-- ITS FALSE NEIGHBOUR: 'it returns false'. Refute it at one input. -/
def fnExactDpOkWrong : ChangeSpec := { name := "fnExactDpOk", vars := ["loop.example/g00773/impl.knownParts"], fn := fun _ => fun
  | [d, g1] => { results := [.lit (.bool false)], args := [d], vars := [g1] }
  | _ => none }
def FnExactDpOkWrongFalsely : Prop := fnExactDpOkRow.holds Tryd.pinned (OpenSpec.ofChange fnExactDpOkWrong)

/-- 'laws.FnExactDpNext': WHATEVER THE INPUT: true; the input reads as it did. -/
def fnExactDpNextSpec : ChangeSpec := { name := "fnExactDpNext", vars := ["loop.example/g00773/impl.knownParts"], fn := fun _ => fun
  | [d1, d2, d3, g1] => { results := [.lit (.bool true)], args := [d1, d2, d3], vars := [g1] }
  | _ => none }
def fnExactDpNextRow : OpenClaim := { program := "ytijfjgenbdbafaadoor", sum := "2bb86a63e97de09b117dab9282e3d880ebb79380792a2d7f745506189838f450", func := "loop.example/g00773/laws.FnExactDpNext", spec := "fnExactDpNext", recurses := true, named := ["loop.example/g00773/impl.knownParts"], apart := false, laid := [("loop.example/g00773/impl.knownParts", laid_loop_example_g00773_impl_knownParts)] }
def FnExactDpNextSaid : Prop := fnExactDpNextRow.holds Tryd.pinned (OpenSpec.ofChange fnExactDpNextSpec)

/-- ITS FALSE NEIGHBOUR: 'it returns false'. Refute it at one input. -/
def fnExactDpNextWrong : ChangeSpec := { name := "fnExactDpNext", vars := ["loop.example/g00773/impl.knownParts"], fn := fun _ => fun
  | [d1, d2, d3, g1] => { results := [.lit (.bool false)], args := [d1, d2, d3], vars := [g1] }
  | _ => none }
def FnExactDpNextWrongFalsely : Prop := fnExactDpNextRow.holds Tryd.pinned (OpenSpec.ofChange fnExactDpNextWrong)

/-- 'laws.FnExactDpLook': WHATEVER THE INPUT: true; the input reads as it did. -/
def fnExactDpLookSpec : ChangeSpec := { name := "fnExactDpLook", vars := ["loop.example/g00773/impl.knownParts"], fn := fun _ => fun
  | [d1, d2, g1] => { results := [.lit (.bool true)], args := [d1, d2], vars := [g1] }
  | _ => none }
def fnExactDpLookRow : OpenClaim := { program := "ytijfjgenbdbafaadoor", sum := "2bb86a63e97de09b117dab9282e3d880ebb79380792a2d7f745506189838f450", func := "loop.example/g00773/laws.FnExactDpLook", spec := "fnExactDpLook", unfollowed := true, recurses := true, named := ["loop.example/g00773/impl.knownParts"], apart := false, laid := [("loop.example/g00773/impl.knownParts", laid_loop_example_g00773_impl_knownParts)] }
def FnExactDpLookSaid : Prop := fnExactDpLookRow.holds Tryd.pinned (OpenSpec.ofChange fnExactDpLookSpec)

/-- ITS FALSE NEIGHBOUR: 'it returns false'. Refute it at one input. -/
def fnExactDpLookWrong : ChangeSpec := { name := "fnExactDpLook", vars := ["loop.example/g00773/impl.knownParts"], fn := fun _ => fun
  | [d1, d2, g1] => { results := [.lit (.bool false)], args := [d1, d2], vars := [g1] }
  | _ => none }
def FnExactDpLookWrongFalsely : Prop := fnExactDpLookRow.holds Tryd.pinned (OpenSpec.ofChange fnExactDpLookWrong)

/-- 'laws.FnExactBookOk': WHATEVER THE INPUT: true; the input reads as it did. -/
def fnExactBookOkSpec : ChangeSpec := { name := "fnExactBookOk", vars := ["loop.example/g00773/impl.knownParts"], fn := fun _ => fun
  | [d, g1] => { results := [.lit (.bool true)], args := [d], vars := [g1] }
  | _ => none }
def fnExactBookOkRow : OpenClaim := { program := "ytijfjgenbdbafaadoor", sum := "2bb86a63e97de09b117dab9282e3d880ebb79380792a2d7f745506189838f450", func := "loop.example/g00773/laws.FnExactBookOk", spec := "fnExactBookOk", recurses := true, named := ["loop.example/g00773/impl.knownParts"], apart := false, laid := [("loop.example/g00773/impl.knownParts", laid_loop_example_g00773_impl_knownParts)] }
def FnExactBookOkSaid : Prop := fnExactBookOkRow.holds Tryd.pinned (OpenSpec.ofChange fnExactBookOkSpec)

/-- ITS FALSE NEIGHBOUR: 'it returns false'. Refute it at one input. -/
def fnExactBookOkWrong : ChangeSpec := { name := "fnExactBookOk", vars := ["loop.example/g00773/impl.knownParts"], fn := fun _ => fun
  | [d, g1] => { results := [.lit (.bool false)], args := [d], vars := [g1] }
  | _ => none }
def FnExactBookOkWrongFalsely : Prop := fnExactBookOkRow.holds Tryd.pinned (OpenSpec.ofChange fnExactBookOkWrong)

/-- 'laws.FnExactReadHome': WHATEVER THE INPUT: true; the input reads as it did. -/
def fnExactReadHomeSpec : ChangeSpec := { name := "fnExactReadHome", vars := ["loop.example/g00773/impl.knownParts"], fn := fun _ => fun
  | [d, g1] => { results := [.lit (.bool true)], args := [d], vars := [g1] }
  | _ => none }
def fnExactReadHomeRow : OpenClaim := { program := "ytijfjgenbdbafaadoor", sum := "2bb86a63e97de09b117dab9282e3d880ebb79380792a2d7f745506189838f450", func := "loop.example/g00773/laws.FnExactReadHome", spec := "fnExactReadHome", recurses := true, named := ["loop.example/g00773/impl.knownParts"], apart := false, laid := [("loop.example/g00773/impl.knownParts", laid_loop_example_g00773_impl_knownParts)] }
def FnExactReadHomeSaid : Prop := fnExactReadHomeRow.holds Tryd.pinned (OpenSpec.ofChange fnExactReadHomeSpec)

/-- ITS FALSE NEIGHBOUR: 'it returns false'. Refute it at one input. -/
def fnExactReadHomeWrong : ChangeSpec := { name := "fnExactReadHome", vars := ["loop.example/g00773/impl.knownParts"], fn := fun _ => fun
  | [d, g1] => { results := [.lit (.bool false)], args := [d], vars := [g1] }
  | _ => none }
def FnExactReadHomeWrongFalsely : Prop := fnExactReadHomeRow.holds Tryd.pinned (OpenSpec.ofChange fnExactReadHomeWrong)

/-- 'laws.FnExactNewBook': WHATEVER THE INPUT: true; the input reads as it did. -/
def fnExactNewBookSpec : ChangeSpec := { name := "fnExactNewBook", vars := ["loop.example/g00773/impl.knownParts"], fn := fun _ => fun
  | [g1] => { results := [.lit (.bool true)], args := [], vars := [g1] }
  | _ => none }
def fnExactNewBookRow : OpenClaim := { program := "ytijfjgenbdbafaadoor", sum := "2bb86a63e97de09b117dab9282e3d880ebb79380792a2d7f745506189838f450", func := "loop.example/g00773/laws.FnExactNewBook", spec := "fnExactNewBook", recurses := true, named := ["loop.example/g00773/impl.knownParts"], apart := false, laid := [("loop.example/g00773/impl.knownParts", laid_loop_example_g00773_impl_knownParts)] }
def FnExactNewBookSaid : Prop := fnExactNewBookRow.holds Tryd.pinned (OpenSpec.ofChange fnExactNewBookSpec)

/-- ITS FALSE NEIGHBOUR: 'it returns false'. Refute it at one input. -/
def fnExactNewBookWrong : ChangeSpec := { name := "fnExactNewBook", vars := ["loop.example/g00773/impl.knownParts"], fn := fun _ => fun
  | [g1] => { results := [.lit (.bool false)], args := [], vars := [g1] }
  | _ => none }
def FnExactNewBookWrongFalsely : Prop := fnExactNewBookRow.holds Tryd.pinned (OpenSpec.ofChange fnExactNewBookWrong)

/-- 'laws.FnExactFullOf': WHATEVER THE INPUT: true; the input reads as it did. -/
def fnExactFullOfSpec : ChangeSpec := { name := "fnExactFullOf", vars := ["loop.example/g00773/impl.knownParts"], fn := fun _ => fun
  | [d, g1] => { results := [.lit (.bool true)], args := [d], vars := [g1] }
  | _ => none }
def fnExactFullOfRow : OpenClaim := { program := "ytijfjgenbdbafaadoor", sum := "2bb86a63e97de09b117dab9282e3d880ebb79380792a2d7f745506189838f450", func := "loop.example/g00773/laws.FnExactFullOf", spec := "fnExactFullOf", unfollowed := true, recurses := true, named := ["loop.example/g00773/impl.knownParts"], apart := false, laid := [("loop.example/g00773/impl.knownParts", laid_loop_example_g00773_impl_knownParts)] }
def FnExactFullOfSaid : Prop := fnExactFullOfRow.holds Tryd.pinned (OpenSpec.ofChange fnExactFullOfSpec)

/-- ITS FALSE NEIGHBOUR: 'it returns false'. Refute it at one input. -/
def fnExactFullOfWrong : ChangeSpec := { name := "fnExactFullOf", vars := ["loop.example/g00773/impl.knownParts"], fn := fun _ => fun
  | [d, g1] => { results := [.lit (.bool false)], args := [d], vars := [g1] }
  | _ => none }
def FnExactFullOfWrongFalsely : Prop := fnExactFullOfRow.holds Tryd.pinned (OpenSpec.ofChange fnExactFullOfWrong)

/-- 'laws.FnExactCountOfKind': WHATEVER THE INPUT: true; the input reads as it did. -/
def fnExactCountOfKindSpec : ChangeSpec := { name := "fnExactCountOfKind", vars := ["loop.example/g00773/impl.knownParts"], fn := fun _ => fun
  | [d1, d2, g1] => { results := [.lit (.bool true)], args := [d1, d2], vars := [g1] }
  | _ => none }
def fnExactCountOfKindRow : OpenClaim := { program := "ytijfjgenbdbafaadoor", sum := "2bb86a63e97de09b117dab9282e3d880ebb79380792a2d7f745506189838f450", func := "loop.example/g00773/laws.FnExactCountOfKind", spec := "fnExactCountOfKind", unfollowed := true, recurses := true, named := ["loop.example/g00773/impl.knownParts"], apart := false, laid := [("loop.example/g00773/impl.knownParts", laid_loop_example_g00773_impl_knownParts)] }
def FnExactCountOfKindSaid : Prop := fnExactCountOfKindRow.holds Tryd.pinned (OpenSpec.ofChange fnExactCountOfKindSpec)

/-- ITS FALSE NEIGHBOUR: 'it returns false'. Refute it at one input. -/
def fnExactCountOfKindWrong : ChangeSpec := { name := "fnExactCountOfKind", vars := ["loop.example/g00773/impl.knownParts"], fn := fun _ => fun
  | [d1, d2, g1] => { results := [.lit (.bool false)], args := [d1, d2], vars := [g1] }
  | _ => none }
def FnExactCountOfKindWrongFalsely : Prop := fnExactCountOfKindRow.holds Tryd.pinned (OpenSpec.ofChange fnExactCountOfKindWrong)

/-- 'laws.FnExactDeepOf': WHATEVER THE INPUT: true; the input reads as it did. -/
def fnExactDeepOfSpec : ChangeSpec := { name := "fnExactDeepOf", vars := ["loop.example/g00773/impl.knownParts"], fn := fun _ => fun
  | [d1, d2, g1] => { results := [.lit (.bool true)], args := [d1, d2], vars := [g1] }
  | _ => none }
def fnExactDeepOfRow : OpenClaim := { program := "ytijfjgenbdbafaadoor", sum := "2bb86a63e97de09b117dab9282e3d880ebb79380792a2d7f745506189838f450", func := "loop.example/g00773/laws.FnExactDeepOf", spec := "fnExactDeepOf", unfollowed := true, recurses := true, named := ["loop.example/g00773/impl.knownParts"], apart := false, laid := [("loop.example/g00773/impl.knownParts", laid_loop_example_g00773_impl_knownParts)] }
def FnExactDeepOfSaid : Prop := fnExactDeepOfRow.holds Tryd.pinned (OpenSpec.ofChange fnExactDeepOfSpec)

/-- ITS FALSE NEIGHBOUR: 'it returns false'. Refute it at one input. -/
def fnExactDeepOfWrong : ChangeSpec := { name := "fnExactDeepOf", vars := ["loop.example/g00773/impl.knownParts"], fn := fun _ => fun
  | [d1, d2, g1] => { results := [.lit (.bool false)], args := [d1, d2], vars := [g1] }
  | _ => none }
def FnExactDeepOfWrongFalsely : Prop := fnExactDeepOfRow.holds Tryd.pinned (OpenSpec.ofChange fnExactDeepOfWrong)

/-- 'laws.FnExactPathOf': WHATEVER THE INPUT: true; the input reads as it did. -/
def fnExactPathOfSpec : ChangeSpec := { name := "fnExactPathOf", vars := ["loop.example/g00773/impl.knownParts"], fn := fun _ => fun
  | [d1, d2, g1] => { results := [.lit (.bool true)], args := [d1, d2], vars := [g1] }
  | _ => none }
def fnExactPathOfRow : OpenClaim := { program := "ytijfjgenbdbafaadoor", sum := "2bb86a63e97de09b117dab9282e3d880ebb79380792a2d7f745506189838f450", func := "loop.example/g00773/laws.FnExactPathOf", spec := "fnExactPathOf", unfollowed := true, recurses := true, named := ["loop.example/g00773/impl.knownParts"], apart := false, laid := [("loop.example/g00773/impl.knownParts", laid_loop_example_g00773_impl_knownParts)] }
def FnExactPathOfSaid : Prop := fnExactPathOfRow.holds Tryd.pinned (OpenSpec.ofChange fnExactPathOfSpec)

/-- ITS FALSE NEIGHBOUR: 'it returns false'. Refute it at one input. -/
def fnExactPathOfWrong : ChangeSpec := { name := "fnExactPathOf", vars := ["loop.example/g00773/impl.knownParts"], fn := fun _ => fun
  | [d1, d2, g1] => { results := [.lit (.bool false)], args := [d1, d2], vars := [g1] }
  | _ => none }
def FnExactPathOfWrongFalsely : Prop := fnExactPathOfRow.holds Tryd.pinned (OpenSpec.ofChange fnExactPathOfWrong)

/-- 'laws.FnExactOpDo': WHATEVER THE INPUT: true; the input reads as it did. -/
def fnExactOpDoSpec : ChangeSpec := { name := "fnExactOpDo", vars := ["loop.example/g00773/impl.knownParts"], fn := fun _ => fun
  | [d1, d2, g1] => { results := [.lit (.bool true)], args := [d1, d2], vars := [g1] }
  | _ => none }
def fnExactOpDoRow : OpenClaim := { program := "ytijfjgenbdbafaadoor", sum := "2bb86a63e97de09b117dab9282e3d880ebb79380792a2d7f745506189838f450", func := "loop.example/g00773/laws.FnExactOpDo", spec := "fnExactOpDo", inPlace := ["slices.overlaps[loop.example/g00773/impl.Ent]"], unfollowed := true, recurses := true, named := ["loop.example/g00773/impl.knownParts"], apart := false, laid := [("loop.example/g00773/impl.knownParts", laid_loop_example_g00773_impl_knownParts)] }
def FnExactOpDoSaid : Prop := fnExactOpDoRow.holds Tryd.pinned (OpenSpec.ofChange fnExactOpDoSpec)

/-- ITS FALSE NEIGHBOUR: 'it returns false'. Refute it at one input. -/
def fnExactOpDoWrong : ChangeSpec := { name := "fnExactOpDo", vars := ["loop.example/g00773/impl.knownParts"], fn := fun _ => fun
  | [d1, d2, g1] => { results := [.lit (.bool false)], args := [d1, d2], vars := [g1] }
  | _ => none }
def FnExactOpDoWrongFalsely : Prop := fnExactOpDoRow.holds Tryd.pinned (OpenSpec.ofChange fnExactOpDoWrong)

/- THE SECOND FORM. 'bulk': how many values and letters a reading holds, each counted each time it is reached (what is shared counts as often as it is met; a slice's spare places count too). A statement '..UptoSaid' is the law's where the arguments, and the package variables that the reading takes, are together of bulk at most 1048576: NARROWER than '..Said'. Prove '..Said' where nothing that the law and all that it calls make is longer than what came in: it says more and counts as full. Else prove '..UptoSaid'. A law counts once. -/
mutual
def uptoBulk {H : Type} : DataW H → Nat
  | .lit (.string bytes) => bytes.length + 1
  | .lit _ => 1
  | .nil => 1
  | .ptr d => uptoBulk d + 1
  | .slice elems spare => uptoBulkAll elems + uptoBulkAll spare + 1
  | .agg parts => uptoBulkAll parts + 1
  | .iface _ d => uptoBulk d + 1
  | .map entries => uptoBulkEntries entries + 1
  | .held _ => 1
def uptoBulkAll {H : Type} : List (DataW H) → Nat
  | [] => 0
  | d :: r => uptoBulk d + uptoBulkAll r
def uptoBulkEntries {H : Type} : List (Lit × DataW H) → Nat
  | [] => 0
  | x :: r => uptoBulkEntry x + uptoBulkEntries r
def uptoBulkEntry {H : Type} : Lit × DataW H → Nat
  | (.string bytes, d) => bytes.length + uptoBulk d + 1
  | (_, d) => uptoBulk d + 1
 end
def uptoSmall : (H : Type) → List (DataW H) → Bool := fun _ ds => decide (uptoBulkAll ds ≤ 1048576)
def OpenSpec.upto (s : _root_.Go.ChangeSpec) : _root_.Go.OpenSpec := { _root_.Go.OpenSpec.ofChange s with cond := some uptoSmall }

/-- 'laws.FnExactShowHome', WHERE WHAT IT READS IS OF BULK AT MOST 1048576: true; the input reads as it did. -/
def fnExactShowHomeUptoRow : OpenClaim := { program := "ytijfjgenbdbafaadoor", sum := "2bb86a63e97de09b117dab9282e3d880ebb79380792a2d7f745506189838f450", func := "loop.example/g00773/laws.FnExactShowHome", spec := "fnExactShowHome", recurses := true, named := ["loop.example/g00773/impl.knownParts"], apart := false, laid := [("loop.example/g00773/impl.knownParts", laid_loop_example_g00773_impl_knownParts)], narrowed := true }
def FnExactShowHomeUptoSaid : Prop := fnExactShowHomeUptoRow.holds Tryd.pinned (OpenSpec.upto fnExactShowHomeSpec)

/-- 'laws.FnExactDpOk', WHERE WHAT IT READS IS OF BULK AT MOST 1048576: true; the input reads as it did. -/
def fnExactDpOkUptoRow : OpenClaim := { program := "ytijfjgenbdbafaadoor", sum := "2bb86a63e97de09b117dab9282e3d880ebb79380792a2d7f745506189838f450", func := "loop.example/g00773/laws.FnExactDpOk", spec := "fnExactDpOk", recurses := true, named := ["loop.example/g00773/impl.knownParts"], apart := false, laid := [("loop.example/g00773/impl.knownParts", laid_loop_example_g00773_impl_knownParts)], narrowed := true }
def FnExactDpOkUptoSaid : Prop := fnExactDpOkUptoRow.holds Tryd.pinned (OpenSpec.upto fnExactDpOkSpec)

/-- 'laws.FnExactDpNext', WHERE WHAT IT READS IS OF BULK AT MOST 1048576: true; the input reads as it did. -/
def fnExactDpNextUptoRow : OpenClaim := { program := "ytijfjgenbdbafaadoor", sum := "2bb86a63e97de09b117dab9282e3d880ebb79380792a2d7f745506189838f450", func := "loop.example/g00773/laws.FnExactDpNext", spec := "fnExactDpNext", recurses := true, named := ["loop.example/g00773/impl.knownParts"], apart := false, laid := [("loop.example/g00773/impl.knownParts", laid_loop_example_g00773_impl_knownParts)], narrowed := true }
def FnExactDpNextUptoSaid : Prop := fnExactDpNextUptoRow.holds Tryd.pinned (OpenSpec.upto fnExactDpNextSpec)

/-- 'laws.FnExactDpLook', WHERE WHAT IT READS IS OF BULK AT MOST 1048576: true; the input reads as it did. -/
def fnExactDpLookUptoRow : OpenClaim := { program := "ytijfjgenbdbafaadoor", sum := "2bb86a63e97de09b117dab9282e3d880ebb79380792a2d7f745506189838f450", func := "loop.example/g00773/laws.FnExactDpLook", spec := "fnExactDpLook", unfollowed := true, recurses := true, named := ["loop.example/g00773/impl.knownParts"], apart := false, laid := [("loop.example/g00773/impl.knownParts", laid_loop_example_g00773_impl_knownParts)], narrowed := true }
def FnExactDpLookUptoSaid : Prop := fnExactDpLookUptoRow.holds Tryd.pinned (OpenSpec.upto fnExactDpLookSpec)

/-- 'laws.FnExactBookOk', WHERE WHAT IT READS IS OF BULK AT MOST 1048576: true; the input reads as it did. -/
def fnExactBookOkUptoRow : OpenClaim := { program := "ytijfjgenbdbafaadoor", sum := "2bb86a63e97de09b117dab9282e3d880ebb79380792a2d7f745506189838f450", func := "loop.example/g00773/laws.FnExactBookOk", spec := "fnExactBookOk", recurses := true, named := ["loop.example/g00773/impl.knownParts"], apart := false, laid := [("loop.example/g00773/impl.knownParts", laid_loop_example_g00773_impl_knownParts)], narrowed := true }
def FnExactBookOkUptoSaid : Prop := fnExactBookOkUptoRow.holds Tryd.pinned (OpenSpec.upto fnExactBookOkSpec)

/-- 'laws.FnExactReadHome', WHERE WHAT IT READS IS OF BULK AT MOST 1048576: true; the input reads as it did. -/
def fnExactReadHomeUptoRow : OpenClaim := { program := "ytijfjgenbdbafaadoor", sum := "2bb86a63e97de09b117dab9282e3d880ebb79380792a2d7f745506189838f450", func := "loop.example/g00773/laws.FnExactReadHome", spec := "fnExactReadHome", recurses := true, named := ["loop.example/g00773/impl.knownParts"], apart := false, laid := [("loop.example/g00773/impl.knownParts", laid_loop_example_g00773_impl_knownParts)], narrowed := true }
def FnExactReadHomeUptoSaid : Prop := fnExactReadHomeUptoRow.holds Tryd.pinned (OpenSpec.upto fnExactReadHomeSpec)

/-- 'laws.FnExactNewBook', WHERE WHAT IT READS IS OF BULK AT MOST 1048576: true; the input reads as it did. -/
def fnExactNewBookUptoRow : OpenClaim := { program := "ytijfjgenbdbafaadoor", sum := "2bb86a63e97de09b117dab9282e3d880ebb79380792a2d7f745506189838f450", func := "loop.example/g00773/laws.FnExactNewBook", spec := "fnExactNewBook", recurses := true, named := ["loop.example/g00773/impl.knownParts"], apart := false, laid := [("loop.example/g00773/impl.knownParts", laid_loop_example_g00773_impl_knownParts)], narrowed := true }
def FnExactNewBookUptoSaid : Prop := fnExactNewBookUptoRow.holds Tryd.pinned (OpenSpec.upto fnExactNewBookSpec)

/-- 'laws.FnExactFullOf', WHERE WHAT IT READS IS OF BULK AT MOST 1048576: true; the input reads as it did. -/
def fnExactFullOfUptoRow : OpenClaim := { program := "ytijfjgenbdbafaadoor", sum := "2bb86a63e97de09b117dab9282e3d880ebb79380792a2d7f745506189838f450", func := "loop.example/g00773/laws.FnExactFullOf", spec := "fnExactFullOf", unfollowed := true, recurses := true, named := ["loop.example/g00773/impl.knownParts"], apart := false, laid := [("loop.example/g00773/impl.knownParts", laid_loop_example_g00773_impl_knownParts)], narrowed := true }
def FnExactFullOfUptoSaid : Prop := fnExactFullOfUptoRow.holds Tryd.pinned (OpenSpec.upto fnExactFullOfSpec)

/-- 'laws.FnExactCountOfKind', WHERE WHAT IT READS IS OF BULK AT MOST 1048576: true; the input reads as it did. -/
def fnExactCountOfKindUptoRow : OpenClaim := { program := "ytijfjgenbdbafaadoor", sum := "2bb86a63e97de09b117dab9282e3d880ebb79380792a2d7f745506189838f450", func := "loop.example/g00773/laws.FnExactCountOfKind", spec := "fnExactCountOfKind", unfollowed := true, recurses := true, named := ["loop.example/g00773/impl.knownParts"], apart := false, laid := [("loop.example/g00773/impl.knownParts", laid_loop_example_g00773_impl_knownParts)], narrowed := true }
def FnExactCountOfKindUptoSaid : Prop := fnExactCountOfKindUptoRow.holds Tryd.pinned (OpenSpec.upto fnExactCountOfKindSpec)

/-- 'laws.FnExactDeepOf', WHERE WHAT IT READS IS OF BULK AT MOST 1048576: true; the input reads as it did. -/
def fnExactDeepOfUptoRow : OpenClaim := { program := "ytijfjgenbdbafaadoor", sum := "2bb86a63e97de09b117dab9282e3d880ebb79380792a2d7f745506189838f450", func := "loop.example/g00773/laws.FnExactDeepOf", spec := "fnExactDeepOf", unfollowed := true, recurses := true, named := ["loop.example/g00773/impl.knownParts"], apart := false, laid := [("loop.example/g00773/impl.knownParts", laid_loop_example_g00773_impl_knownParts)], narrowed := true }
def FnExactDeepOfUptoSaid : Prop := fnExactDeepOfUptoRow.holds Tryd.pinned (OpenSpec.upto fnExactDeepOfSpec)

/-- 'laws.FnExactPathOf', WHERE WHAT IT READS IS OF BULK AT MOST 1048576: true; the input reads as it did. -/
def fnExactPathOfUptoRow : OpenClaim := { program := "ytijfjgenbdbafaadoor", sum := "2bb86a63e97de09b117dab9282e3d880ebb79380792a2d7f745506189838f450", func := "loop.example/g00773/laws.FnExactPathOf", spec := "fnExactPathOf", unfollowed := true, recurses := true, named := ["loop.example/g00773/impl.knownParts"], apart := false, laid := [("loop.example/g00773/impl.knownParts", laid_loop_example_g00773_impl_knownParts)], narrowed := true }
def FnExactPathOfUptoSaid : Prop := fnExactPathOfUptoRow.holds Tryd.pinned (OpenSpec.upto fnExactPathOfSpec)

/-- 'laws.FnExactOpDo', WHERE WHAT IT READS IS OF BULK AT MOST 1048576: true; the input reads as it did. -/
def fnExactOpDoUptoRow : OpenClaim := { program := "ytijfjgenbdbafaadoor", sum := "2bb86a63e97de09b117dab9282e3d880ebb79380792a2d7f745506189838f450", func := "loop.example/g00773/laws.FnExactOpDo", spec := "fnExactOpDo", inPlace := ["slices.overlaps[loop.example/g00773/impl.Ent]"], unfollowed := true, recurses := true, named := ["loop.example/g00773/impl.knownParts"], apart := false, laid := [("loop.example/g00773/impl.knownParts", laid_loop_example_g00773_impl_knownParts)], narrowed := true }
def FnExactOpDoUptoSaid : Prop := fnExactOpDoUptoRow.holds Tryd.pinned (OpenSpec.upto fnExactOpDoSpec)

end Rows
end Go.Proofs.YtijfjgenbdbafaaDoor
