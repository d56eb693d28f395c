/-
  NARROWER THAN 'FOR EVERY INPUT', by the rows' own cells (each row's printed sentence says how): FnListed: laid · FnStats: laid · FnPath: laid · FnFind: laid · FnScanned: laid.
  DERIVED. THE GIVEN ROWS OF THIS SEAT. 5 by the template 'for every input the law returns true; each argument reads behind the call as it read before'; 0 by the template 'total and deterministic' (their statements: YtjjniapamdleoaaGreatDoorTotals.lean).
  GIVEN WITH THE SEED: the statements are not yours to turn. If you find one false, say at which input.
  Laid BY PROGRAM, IN A SANDBOX (cutbox-rows.mjs): the forced cells as the released guide's own fill.sh prints them over the translation 9ed2d544e69294ee… (all of the seat's roots in one cut). By AI agents, Wed Nov 11 2026. No macro, syntax, notation, axiom, sorry.
-/
import Derived.Test.YtjjniapamdleoaaGreatDoorChecked
import GoSem.Claim
import GoSem.ClaimJoined
import GoSem.ClaimMapViews
import Derived.JoinedTies
import Derived.KernelRfl
namespace Go.Proofs.YtjjniapamdleoaaGreatDoor
/- THE CELL 'sum', in the pinned program and in every row, IS THE sha256 OF THE DUMP (.gsa) THAT YtjjniapamdleoaaGreatDoorProg.lean LOADS. Nothing in Lean hashes anything: it is a label: what it is worth is what the hold of that sum in a sandbox is worth. -/
noncomputable def Tryz.pinned : Pinned := { name := "ytjjniapamdleoaagreatdoor", sum := "9ed2d544e69294eefc7e645ffa81ce591d44a177a5f94f46b4585f7994f4e1a1", checked := Tryz.checked }
namespace Rows
def none {H : Type} : Left H := { results := [], args := [] }

/- WHAT THE LISTED PACKAGE-LEVEL VARIABLES READ AS WHEN THE CALL BEGINS. Each datum BY PROGRAM (the guide's laid-datum.mjs) off the statement by which the dump's own 'gosem.cut.vars' lays the variable. In a bare row this is a premise. The card (YtjjniapamdleoaaGreatDoorCards.lean) ties it to the program's text. -/
def laid_loop_example_g00773_impl_knownParts {H : Type} : DataW H := .agg [.lit (.int .i64 32), .lit (.int .i64 46), .lit (.int .i64 48), .lit (.int .i64 126), .lit (.int .i64 161), .lit (.int .i64 255), .lit (.int .i64 469), .lit (.int .i64 470), .lit (.int .i64 768), .lit (.int .i64 772), .lit (.int .i64 776), .lit (.int .i64 776), .lit (.int .i64 778), .lit (.int .i64 778), .lit (.int .i64 803), .lit (.int .i64 803), .lit (.int .i64 807), .lit (.int .i64 807), .lit (.int .i64 902), .lit (.int .i64 902), .lit (.int .i64 904), .lit (.int .i64 906), .lit (.int .i64 908), .lit (.int .i64 908), .lit (.int .i64 910), .lit (.int .i64 911), .lit (.int .i64 913), .lit (.int .i64 929), .lit (.int .i64 931), .lit (.int .i64 937), .lit (.int .i64 940), .lit (.int .i64 943), .lit (.int .i64 945), .lit (.int .i64 969), .lit (.int .i64 972), .lit (.int .i64 974), .lit (.int .i64 1040), .lit (.int .i64 1103), .lit (.int .i64 4352), .lit (.int .i64 4370), .lit (.int .i64 4449), .lit (.int .i64 4469), .lit (.int .i64 4520), .lit (.int .i64 4546), .lit (.int .i64 7840), .lit (.int .i64 7841), .lit (.int .i64 7852), .lit (.int .i64 7853), .lit (.int .i64 8486), .lit (.int .i64 8486), .lit (.int .i64 8491), .lit (.int .i64 8491), .lit (.int .i64 44032), .lit (.int .i64 55203)]

/-- 'laws.FnListed': WHATEVER THE INPUT: true; the input reads as it did. -/
def fnListedSpec : ChangeSpec := { name := "fnListed", vars := ["loop.example/g00773/impl.knownParts"], fn := fun _ => fun
  | [d, g1] => { results := [.lit (.bool true)], args := [d], vars := [g1] }
  | _ => none }
def fnListedRow : OpenClaim := { program := "ytjjniapamdleoaagreatdoor", sum := "9ed2d544e69294eefc7e645ffa81ce591d44a177a5f94f46b4585f7994f4e1a1", func := "loop.example/g00773/laws.FnListed", spec := "fnListed", inPlace := ["slices.overlaps[loop.example/g00773/impl.Ent]"], unfollowed := true, recurses := true, named := ["loop.example/g00773/impl.knownParts"], apart := false, laid := [("loop.example/g00773/impl.knownParts", laid_loop_example_g00773_impl_knownParts)] }
def FnListedSaid : Prop := fnListedRow.holds Tryz.pinned (OpenSpec.ofChange fnListedSpec)

/-- ITS FALSE NEIGHBOUR: 'it returns false'. Refute it at one input. -/
def fnListedWrong : ChangeSpec := { name := "fnListed", vars := ["loop.example/g00773/impl.knownParts"], fn := fun _ => fun
  | [d, g1] => { results := [.lit (.bool false)], args := [d], vars := [g1] }
  | _ => none }
def FnListedWrongFalsely : Prop := fnListedRow.holds Tryz.pinned (OpenSpec.ofChange fnListedWrong)

/-- 'laws.FnStats': WHATEVER THE INPUT: true; the input reads as it did. -/
def fnStatsSpec : ChangeSpec := { name := "fnStats", vars := ["loop.example/g00773/impl.knownParts"], fn := fun _ => fun
  | [d, g1] => { results := [.lit (.bool true)], args := [d], vars := [g1] }
  | _ => none }
def fnStatsRow : OpenClaim := { program := "ytjjniapamdleoaagreatdoor", sum := "9ed2d544e69294eefc7e645ffa81ce591d44a177a5f94f46b4585f7994f4e1a1", func := "loop.example/g00773/laws.FnStats", spec := "fnStats", inPlace := ["slices.overlaps[loop.example/g00773/impl.Ent]"], unfollowed := true, recurses := true, named := ["loop.example/g00773/impl.knownParts"], apart := false, laid := [("loop.example/g00773/impl.knownParts", laid_loop_example_g00773_impl_knownParts)] }
def FnStatsSaid : Prop := fnStatsRow.holds Tryz.pinned (OpenSpec.ofChange fnStatsSpec)

/-- ITS FALSE NEIGHBOUR: 'it returns false'. Refute it at one input. -/
def fnStatsWrong : ChangeSpec := { name := "fnStats", vars := ["loop.example/g00773/impl.knownParts"], fn := fun _ => fun
  | [d, g1] => { results := [.lit (.bool false)], args := [d], vars := [g1] }
  | _ => none }
def FnStatsWrongFalsely : Prop := fnStatsRow.holds Tryz.pinned (OpenSpec.ofChange fnStatsWrong)

/-- 'laws.FnPath': WHATEVER THE INPUT: true; the input reads as it did. -/
def fnPathSpec : ChangeSpec := { name := "fnPath", vars := ["loop.example/g00773/impl.knownParts"], fn := fun _ => fun
  | [d, g1] => { results := [.lit (.bool true)], args := [d], vars := [g1] }
  | _ => none }
def fnPathRow : OpenClaim := { program := "ytjjniapamdleoaagreatdoor", sum := "9ed2d544e69294eefc7e645ffa81ce591d44a177a5f94f46b4585f7994f4e1a1", func := "loop.example/g00773/laws.FnPath", spec := "fnPath", inPlace := ["slices.overlaps[loop.example/g00773/impl.Ent]"], unfollowed := true, recurses := true, named := ["loop.example/g00773/impl.knownParts"], apart := false, laid := [("loop.example/g00773/impl.knownParts", laid_loop_example_g00773_impl_knownParts)] }
def FnPathSaid : Prop := fnPathRow.holds Tryz.pinned (OpenSpec.ofChange fnPathSpec)

/-- ITS FALSE NEIGHBOUR: 'it returns false'. Refute it at one input. -/
def fnPathWrong : ChangeSpec := { name := "fnPath", vars := ["loop.example/g00773/impl.knownParts"], fn := fun _ => fun
  | [d, g1] => { results := [.lit (.bool false)], args := [d], vars := [g1] }
  | _ => none }
def FnPathWrongFalsely : Prop := fnPathRow.holds Tryz.pinned (OpenSpec.ofChange fnPathWrong)

/-- 'laws.FnFind': WHATEVER THE INPUT: true; the input reads as it did. -/
def fnFindSpec : ChangeSpec := { name := "fnFind", vars := ["loop.example/g00773/impl.knownParts"], fn := fun _ => fun
  | [d, g1] => { results := [.lit (.bool true)], args := [d], vars := [g1] }
  | _ => none }
def fnFindRow : OpenClaim := { program := "ytjjniapamdleoaagreatdoor", sum := "9ed2d544e69294eefc7e645ffa81ce591d44a177a5f94f46b4585f7994f4e1a1", func := "loop.example/g00773/laws.FnFind", spec := "fnFind", inPlace := ["slices.overlaps[loop.example/g00773/impl.Ent]", "internal/bytealg.IndexByteString", "internal/bytealg.IndexString"], unfollowed := true, recurses := true, named := ["loop.example/g00773/impl.knownParts", "internal/bytealg.MaxLen"], apart := false, laid := [("loop.example/g00773/impl.knownParts", laid_loop_example_g00773_impl_knownParts)] }
def FnFindSaid : Prop := fnFindRow.holds Tryz.pinned (OpenSpec.ofChange fnFindSpec)

/-- ITS FALSE NEIGHBOUR: 'it returns false'. Refute it at one input. -/
def fnFindWrong : ChangeSpec := { name := "fnFind", vars := ["loop.example/g00773/impl.knownParts"], fn := fun _ => fun
  | [d, g1] => { results := [.lit (.bool false)], args := [d], vars := [g1] }
  | _ => none }
def FnFindWrongFalsely : Prop := fnFindRow.holds Tryz.pinned (OpenSpec.ofChange fnFindWrong)

/-- 'laws.FnScanned': WHATEVER THE INPUT: true; the input reads as it did. -/
def fnScannedSpec : ChangeSpec := { name := "fnScanned", vars := ["loop.example/g00773/impl.knownParts"], fn := fun _ => fun
  | [d, g1] => { results := [.lit (.bool true)], args := [d], vars := [g1] }
  | _ => none }
def fnScannedRow : OpenClaim := { program := "ytjjniapamdleoaagreatdoor", sum := "9ed2d544e69294eefc7e645ffa81ce591d44a177a5f94f46b4585f7994f4e1a1", func := "loop.example/g00773/laws.FnScanned", spec := "fnScanned", inPlace := ["slices.overlaps[loop.example/g00773/impl.Ent]"], unfollowed := true, recurses := true, named := ["loop.example/g00773/impl.knownParts"], apart := false, laid := [("loop.example/g00773/impl.knownParts", laid_loop_example_g00773_impl_knownParts)] }
def FnScannedSaid : Prop := fnScannedRow.holds Tryz.pinned (OpenSpec.ofChange fnScannedSpec)

/-- ITS FALSE NEIGHBOUR: 'it returns false'. Refute it at one input. -/
def fnScannedWrong : ChangeSpec := { name := "fnScanned", vars := ["loop.example/g00773/impl.knownParts"], fn := fun _ => fun
  | [d, g1] => { results := [.lit (.bool false)], args := [d], vars := [g1] }
  | _ => none }
def FnScannedWrongFalsely : Prop := fnScannedRow.holds Tryz.pinned (OpenSpec.ofChange fnScannedWrong)

/- THE SECOND FORM. 'bulk': how many values and letters a reading holds, each counted each time it is reached (what is shared counts as often as it is met; a slice's spare places count too). A statement '..UptoSaid' is the law's where the arguments, and the package variables that the reading takes, are together of bulk at most 1048576: NARROWER than '..Said'. Prove '..Said' where nothing that the law and all that it calls make is longer than what came in: it says more and counts as full. Else prove '..UptoSaid'. A law counts once. -/
mutual
def uptoBulk {H : Type} : DataW H → Nat
  | .lit (.string bytes) => bytes.length + 1
  | .lit _ => 1
  | .nil => 1
  | .ptr d => uptoBulk d + 1
  | .slice elems spare => uptoBulkAll elems + uptoBulkAll spare + 1
  | .agg parts => uptoBulkAll parts + 1
  | .iface _ d => uptoBulk d + 1
  | .map entries => uptoBulkEntries entries + 1
  | .held _ => 1
def uptoBulkAll {H : Type} : List (DataW H) → Nat
  | [] => 0
  | d :: r => uptoBulk d + uptoBulkAll r
def uptoBulkEntries {H : Type} : List (Lit × DataW H) → Nat
  | [] => 0
  | x :: r => uptoBulkEntry x + uptoBulkEntries r
def uptoBulkEntry {H : Type} : Lit × DataW H → Nat
  | (.string bytes, d) => bytes.length + uptoBulk d + 1
  | (_, d) => uptoBulk d + 1
 end
def uptoSmall : (H : Type) → List (DataW H) → Bool := fun _ ds => decide (uptoBulkAll ds ≤ 1048576)
def OpenSpec.upto (s : _root_.Go.ChangeSpec) : _root_.Go.OpenSpec := { _root_.Go.OpenSpec.ofChange s with cond := some uptoSmall }

/-- 'laws.FnListed', WHERE WHAT IT READS IS OF BULK AT MOST 1048576: true; the input reads as it did. -/
def fnListedUptoRow : OpenClaim := { program := "ytjjniapamdleoaagreatdoor", sum := "9ed2d544e69294eefc7e645ffa81ce591d44a177a5f94f46b4585f7994f4e1a1", func := "loop.example/g00773/laws.FnListed", spec := "fnListed", inPlace := ["slices.overlaps[loop.example/g00773/impl.Ent]"], unfollowed := true, recurses := true, named := ["loop.example/g00773/impl.knownParts"], apart := false, laid := [("loop.example/g00773/impl.knownParts", laid_loop_example_g00773_impl_knownParts)], narrowed := true }
def FnListedUptoSaid : Prop := fnListedUptoRow.holds Tryz.pinned (OpenSpec.upto fnListedSpec)

/-- 'laws.FnStats', WHERE WHAT IT READS IS OF BULK AT MOST 1048576: true; the input reads as it did. -/
def fnStatsUptoRow : OpenClaim := { program := "ytjjniapamdleoaagreatdoor", sum := "9ed2d544e69294eefc7e645ffa81ce591d44a177a5f94f46b4585f7994f4e1a1", func := "loop.example/g00773/laws.FnStats", spec := "fnStats", inPlace := ["slices.overlaps[loop.example/g00773/impl.Ent]"], unfollowed := true, recurses := true, named := ["loop.example/g00773/impl.knownParts"], apart := false, laid := [("loop.example/g00773/impl.knownParts", laid_loop_example_g00773_impl_knownParts)], narrowed := true }
def FnStatsUptoSaid : Prop := fnStatsUptoRow.holds Tryz.pinned (OpenSpec.upto fnStatsSpec)

/-- 'laws.FnPath', WHERE WHAT IT READS IS OF BULK AT MOST 1048576: true; the input reads as it did. -/
def fnPathUptoRow : OpenClaim := { program := "ytjjniapamdleoaagreatdoor", sum := "9ed2d544e69294eefc7e645ffa81ce591d44a177a5f94f46b4585f7994f4e1a1", func := "loop.example/g00773/laws.FnPath", spec := "fnPath", inPlace := ["slices.overlaps[loop.example/g00773/impl.Ent]"], unfollowed := true, recurses := true, named := ["loop.example/g00773/impl.knownParts"], apart := false, laid := [("loop.example/g00773/impl.knownParts", laid_loop_example_g00773_impl_knownParts)], narrowed := true }
def FnPathUptoSaid : Prop := fnPathUptoRow.holds Tryz.pinned (OpenSpec.upto fnPathSpec)

/-- 'laws.FnFind', WHERE WHAT IT READS IS OF BULK AT MOST 1048576: true; the input reads as it did. -/
def fnFindUptoRow : OpenClaim := { program := "ytjjniapamdleoaagreatdoor", sum := "9ed2d544e69294eefc7e645ffa81ce591d44a177a5f94f46b4585f7994f4e1a1", func := "loop.example/g00773/laws.FnFind", spec := "fnFind", inPlace := ["slices.overlaps[loop.example/g00773/impl.Ent]", "internal/bytealg.IndexByteString", "internal/bytealg.IndexString"], unfollowed := true, recurses := true, named := ["loop.example/g00773/impl.knownParts", "internal/bytealg.MaxLen"], apart := false, laid := [("loop.example/g00773/impl.knownParts", laid_loop_example_g00773_impl_knownParts)], narrowed := true }
def FnFindUptoSaid : Prop := fnFindUptoRow.holds Tryz.pinned (OpenSpec.upto fnFindSpec)

/-- 'laws.FnScanned', WHERE WHAT IT READS IS OF BULK AT MOST 1048576: true; the input reads as it did. -/
def fnScannedUptoRow : OpenClaim := { program := "ytjjniapamdleoaagreatdoor", sum := "9ed2d544e69294eefc7e645ffa81ce591d44a177a5f94f46b4585f7994f4e1a1", func := "loop.example/g00773/laws.FnScanned", spec := "fnScanned", inPlace := ["slices.overlaps[loop.example/g00773/impl.Ent]"], unfollowed := true, recurses := true, named := ["loop.example/g00773/impl.knownParts"], apart := false, laid := [("loop.example/g00773/impl.knownParts", laid_loop_example_g00773_impl_knownParts)], narrowed := true }
def FnScannedUptoSaid : Prop := fnScannedUptoRow.holds Tryz.pinned (OpenSpec.upto fnScannedSpec)

end Rows
end Go.Proofs.YtjjniapamdleoaaGreatDoor
