/-
  NARROWER THAN 'FOR EVERY INPUT', by the rows' own cells (each row's printed sentence says how): FnExactWalk: laid · FnExactCurOpen: laid · FnExactTar: laid · FnExactBookFall: laid · FnExactSameTree: laid · FnExactListDir: laid · FnExactDu: laid · FnExactFind: laid · FnExactGrep: laid · FnListed: laid · FnStats: laid · FnPath: laid.
  DERIVED. THE GIVEN ROWS OF THIS SEAT. 12 by the template 'for every input the law returns true; each argument reads behind the call as it read before'; 0 by the template 'total and deterministic' (their statements: YthdbomkddpnhaaaGreatDoorTotals.lean).
  GIVEN WITH THE SEED: the statements are not yours to turn. If you find one false, say at which input.
  Laid BY PROGRAM, IN A SANDBOX (cutbox-rows.mjs): the forced cells as the released guide's own fill.sh prints them over the translation af37ebe691d2a30e… (all of the seat's roots in one cut). By AI agents, Wed Nov 11 2026. No macro, syntax, notation, axiom, sorry.
-/
import Derived.Test.YthdbomkddpnhaaaGreatDoorChecked
import GoSem.Claim
import GoSem.ClaimJoined
import GoSem.ClaimMapViews
import Derived.JoinedTies
import Derived.KernelRfl
namespace Go.Proofs.YthdbomkddpnhaaaGreatDoor
/- THE CELL 'sum', in the pinned program and in every row, IS THE sha256 OF THE DUMP (.gsa) THAT YthdbomkddpnhaaaGreatDoorProg.lean LOADS. Nothing in Lean hashes anything: it is a label: what it is worth is what the hold of that sum in a sandbox is worth. -/
noncomputable def Tryz.pinned : Pinned := { name := "ythdbomkddpnhaaagreatdoor", sum := "af37ebe691d2a30e6629fd232ae744a32d413fa6153f405b078ffe0fa37dbab5", checked := Tryz.checked }
namespace Rows
def none {H : Type} : Left H := { results := [], args := [] }

/- WHAT THE LISTED PACKAGE-LEVEL VARIABLES READ AS WHEN THE CALL BEGINS. Each datum BY PROGRAM (the guide's laid-datum.mjs) off the statement by which the dump's own 'gosem.cut.vars' lays the variable. In a bare row this is a premise. The card (YthdbomkddpnhaaaGreatDoorCards.lean) ties it to the program's text. -/
def laid_loop_example_g00773_impl_knownParts {H : Type} : DataW H := .agg [.lit (.int .i64 32), .lit (.int .i64 46), .lit (.int .i64 48), .lit (.int .i64 126), .lit (.int .i64 161), .lit (.int .i64 255), .lit (.int .i64 469), .lit (.int .i64 470), .lit (.int .i64 768), .lit (.int .i64 772), .lit (.int .i64 776), .lit (.int .i64 776), .lit (.int .i64 778), .lit (.int .i64 778), .lit (.int .i64 803), .lit (.int .i64 803), .lit (.int .i64 807), .lit (.int .i64 807), .lit (.int .i64 902), .lit (.int .i64 902), .lit (.int .i64 904), .lit (.int .i64 906), .lit (.int .i64 908), .lit (.int .i64 908), .lit (.int .i64 910), .lit (.int .i64 911), .lit (.int .i64 913), .lit (.int .i64 929), .lit (.int .i64 931), .lit (.int .i64 937), .lit (.int .i64 940), .lit (.int .i64 943), .lit (.int .i64 945), .lit (.int .i64 969), .lit (.int .i64 972), .lit (.int .i64 974), .lit (.int .i64 1040), .lit (.int .i64 1103), .lit (.int .i64 4352), .lit (.int .i64 4370), .lit (.int .i64 4449), .lit (.int .i64 4469), .lit (.int .i64 4520), .lit (.int .i64 4546), .lit (.int .i64 7840), .lit (.int .i64 7841), .lit (.int .i64 7852), .lit (.int .i64 7853), .lit (.int .i64 8486), .lit (.int .i64 8486), .lit (.int .i64 8491), .lit (.int .i64 8491), .lit (.int .i64 44032), .lit (.int .i64 55203)]

/-- 'laws.FnExactWalk': WHATEVER THE INPUT: true; the input reads as it did. -/
def fnExactWalkSpec : ChangeSpec := { name := "fnExactWalk", vars := ["loop.example/g00773/impl.knownParts"], fn := fun _ => fun
  | [d1, d2, g1] => { results := [.lit (.bool true)], args := [d1, d2], vars := [g1] }
  | _ => none }
def fnExactWalkRow : OpenClaim := { program := "ythdbomkddpnhaaagreatdoor", sum := "af37ebe691d2a30e6629fd232ae744a32d413fa6153f405b078ffe0fa37dbab5", func := "loop.example/g00773/laws.FnExactWalk", spec := "fnExactWalk", inPlace := ["slices.overlaps[loop.example/g00773/impl.Ent]"], unfollowed := true, recurses := true, named := ["loop.example/g00773/impl.knownParts"], apart := false, laid := [("loop.example/g00773/impl.knownParts", laid_loop_example_g00773_impl_knownParts)] }
def FnExactWalkSaid : Prop := fnExactWalkRow.holds Tryz.pinned (OpenSpec.ofChange fnExactWalkSpec)

/-- ITS FALSE NEIGHBOUR: 'it returns false'. Refute it at one input. -/
def fnExactWalkWrong : ChangeSpec := { name := "fnExactWalk", vars := ["loop.example/g00773/impl.knownParts"], fn := fun _ => fun
  | [d1, d2, g1] => { results := [.lit (.bool false)], args := [d1, d2], vars := [g1] }
  | _ => none }
def FnExactWalkWrongFalsely : Prop := fnExactWalkRow.holds Tryz.pinned (OpenSpec.ofChange fnExactWalkWrong)

/-- 'laws.FnExactCurOpen': WHATEVER THE INPUT: true; the input reads as it did. -/
def fnExactCurOpenSpec : ChangeSpec := { name := "fnExactCurOpen", vars := ["loop.example/g00773/impl.knownParts"], fn := fun _ => fun
  | [d1, d2, g1] => { results := [.lit (.bool true)], args := [d1, d2], vars := [g1] }
  | _ => none }
def fnExactCurOpenRow : OpenClaim := { program := "ythdbomkddpnhaaagreatdoor", sum := "af37ebe691d2a30e6629fd232ae744a32d413fa6153f405b078ffe0fa37dbab5", func := "loop.example/g00773/laws.FnExactCurOpen", spec := "fnExactCurOpen", inPlace := ["slices.overlaps[loop.example/g00773/impl.Ent]"], unfollowed := true, recurses := true, named := ["loop.example/g00773/impl.knownParts"], apart := false, laid := [("loop.example/g00773/impl.knownParts", laid_loop_example_g00773_impl_knownParts)] }
def FnExactCurOpenSaid : Prop := fnExactCurOpenRow.holds Tryz.pinned (OpenSpec.ofChange fnExactCurOpenSpec)

/-- ITS FALSE NEIGHBOUR: 'it returns false'. Refute it at one input. -/
def fnExactCurOpenWrong : ChangeSpec := { name := "fnExactCurOpen", vars := ["loop.example/g00773/impl.knownParts"], fn := fun _ => fun
  | [d1, d2, g1] => { results := [.lit (.bool false)], args := [d1, d2], vars := [g1] }
  | _ => none }
def FnExactCurOpenWrongFalsely : Prop := fnExactCurOpenRow.holds Tryz.pinned (OpenSpec.ofChange fnExactCurOpenWrong)

/-- 'laws.FnExactTar': WHATEVER THE INPUT: true; the input reads as it did. -/
def fnExactTarSpec : ChangeSpec := { name := "fnExactTar", vars := ["loop.example/g00773/impl.knownParts"], fn := fun _ => fun
  | [d1, d2, g1] => { results := [.lit (.bool true)], args := [d1, d2], vars := [g1] }
  | _ => none }
def fnExactTarRow : OpenClaim := { program := "ythdbomkddpnhaaagreatdoor", sum := "af37ebe691d2a30e6629fd232ae744a32d413fa6153f405b078ffe0fa37dbab5", func := "loop.example/g00773/laws.FnExactTar", spec := "fnExactTar", inPlace := ["slices.overlaps[loop.example/g00773/impl.Ent]"], unfollowed := true, recurses := true, named := ["loop.example/g00773/impl.knownParts"], apart := false, laid := [("loop.example/g00773/impl.knownParts", laid_loop_example_g00773_impl_knownParts)] }
def FnExactTarSaid : Prop := fnExactTarRow.holds Tryz.pinned (OpenSpec.ofChange fnExactTarSpec)

/-- ITS FALSE NEIGHBOUR: 'it returns false'. Refute it at one input. -/
def fnExactTarWrong : ChangeSpec := { name := "fnExactTar", vars := ["loop.example/g00773/impl.knownParts"], fn := fun _ => fun
  | [d1, d2, g1] => { results := [.lit (.bool false)], args := [d1, d2], vars := [g1] }
  | _ => none }
def FnExactTarWrongFalsely : Prop := fnExactTarRow.holds Tryz.pinned (OpenSpec.ofChange fnExactTarWrong)

/-- 'laws.FnExactBookFall': WHATEVER THE INPUT: true; the input reads as it did. -/
def fnExactBookFallSpec : ChangeSpec := { name := "fnExactBookFall", vars := ["loop.example/g00773/impl.knownParts"], fn := fun _ => fun
  | [d1, d2, g1] => { results := [.lit (.bool true)], args := [d1, d2], vars := [g1] }
  | _ => none }
def fnExactBookFallRow : OpenClaim := { program := "ythdbomkddpnhaaagreatdoor", sum := "af37ebe691d2a30e6629fd232ae744a32d413fa6153f405b078ffe0fa37dbab5", func := "loop.example/g00773/laws.FnExactBookFall", spec := "fnExactBookFall", inPlace := ["slices.overlaps[loop.example/g00773/impl.Ent]"], unfollowed := true, recurses := true, named := ["loop.example/g00773/impl.knownParts"], apart := false, laid := [("loop.example/g00773/impl.knownParts", laid_loop_example_g00773_impl_knownParts)] }
def FnExactBookFallSaid : Prop := fnExactBookFallRow.holds Tryz.pinned (OpenSpec.ofChange fnExactBookFallSpec)

/-- ITS FALSE NEIGHBOUR: 'it returns false'. Refute it at one input. -/
def fnExactBookFallWrong : ChangeSpec := { name := "fnExactBookFall", vars := ["loop.example/g00773/impl.knownParts"], fn := fun _ => fun
  | [d1, d2, g1] => { results := [.lit (.bool false)], args := [d1, d2], vars := [g1] }
  | _ => none }
def FnExactBookFallWrongFalsely : Prop := fnExactBookFallRow.holds Tryz.pinned (OpenSpec.ofChange fnExactBookFallWrong)

/-- 'laws.FnExactSameTree': WHATEVER THE INPUT: true; the input reads as it did. -/
def fnExactSameTreeSpec : ChangeSpec := { name := "fnExactSameTree", vars := ["loop.example/g00773/impl.knownParts"], fn := fun _ => fun
  | [d1, d2, d3, g1] => { results := [.lit (.bool true)], args := [d1, d2, d3], vars := [g1] }
  | _ => none }
def fnExactSameTreeRow : OpenClaim := { program := "ythdbomkddpnhaaagreatdoor", sum := "af37ebe691d2a30e6629fd232ae744a32d413fa6153f405b078ffe0fa37dbab5", func := "loop.example/g00773/laws.FnExactSameTree", spec := "fnExactSameTree", inPlace := ["slices.overlaps[loop.example/g00773/impl.Ent]"], unfollowed := true, recurses := true, named := ["loop.example/g00773/impl.knownParts"], apart := false, laid := [("loop.example/g00773/impl.knownParts", laid_loop_example_g00773_impl_knownParts)] }
def FnExactSameTreeSaid : Prop := fnExactSameTreeRow.holds Tryz.pinned (OpenSpec.ofChange fnExactSameTreeSpec)

/-- ITS FALSE NEIGHBOUR: 'it returns false'. Refute it at one input. -/
def fnExactSameTreeWrong : ChangeSpec := { name := "fnExactSameTree", vars := ["loop.example/g00773/impl.knownParts"], fn := fun _ => fun
  | [d1, d2, d3, g1] => { results := [.lit (.bool false)], args := [d1, d2, d3], vars := [g1] }
  | _ => none }
def FnExactSameTreeWrongFalsely : Prop := fnExactSameTreeRow.holds Tryz.pinned (OpenSpec.ofChange fnExactSameTreeWrong)

/-- 'laws.FnExactListDir': WHATEVER THE INPUT: true; the input reads as it did. -/
def fnExactListDirSpec : ChangeSpec := { name := "fnExactListDir", vars := ["loop.example/g00773/impl.knownParts"], fn := fun _ => fun
  | [d1, d2, g1] => { results := [.lit (.bool true)], args := [d1, d2], vars := [g1] }
  | _ => none }
def fnExactListDirRow : OpenClaim := { program := "ythdbomkddpnhaaagreatdoor", sum := "af37ebe691d2a30e6629fd232ae744a32d413fa6153f405b078ffe0fa37dbab5", func := "loop.example/g00773/laws.FnExactListDir", spec := "fnExactListDir", inPlace := ["slices.overlaps[loop.example/g00773/impl.Ent]"], unfollowed := true, recurses := true, named := ["loop.example/g00773/impl.knownParts"], apart := false, laid := [("loop.example/g00773/impl.knownParts", laid_loop_example_g00773_impl_knownParts)] }
def FnExactListDirSaid : Prop := fnExactListDirRow.holds Tryz.pinned (OpenSpec.ofChange fnExactListDirSpec)

/-- ITS FALSE NEIGHBOUR: 'it returns false'. Refute it at one input. -/
def fnExactListDirWrong : ChangeSpec := { name := "fnExactListDir", vars := ["loop.example/g00773/impl.knownParts"], fn := fun _ => fun
  | [d1, d2, g1] => { results := [.lit (.bool false)], args := [d1, d2], vars := [g1] }
  | _ => none }
def FnExactListDirWrongFalsely : Prop := fnExactListDirRow.holds Tryz.pinned (OpenSpec.ofChange fnExactListDirWrong)

/-- 'laws.FnExactDu': WHATEVER THE INPUT: true; the input reads as it did. -/
def fnExactDuSpec : ChangeSpec := { name := "fnExactDu", vars := ["loop.example/g00773/impl.knownParts"], fn := fun _ => fun
  | [d1, d2, g1] => { results := [.lit (.bool true)], args := [d1, d2], vars := [g1] }
  | _ => none }
def fnExactDuRow : OpenClaim := { program := "ythdbomkddpnhaaagreatdoor", sum := "af37ebe691d2a30e6629fd232ae744a32d413fa6153f405b078ffe0fa37dbab5", func := "loop.example/g00773/laws.FnExactDu", spec := "fnExactDu", inPlace := ["slices.overlaps[loop.example/g00773/impl.Ent]"], unfollowed := true, recurses := true, named := ["loop.example/g00773/impl.knownParts"], apart := false, laid := [("loop.example/g00773/impl.knownParts", laid_loop_example_g00773_impl_knownParts)] }
def FnExactDuSaid : Prop := fnExactDuRow.holds Tryz.pinned (OpenSpec.ofChange fnExactDuSpec)

/-- ITS FALSE NEIGHBOUR: 'it returns false'. Refute it at one input. -/
def fnExactDuWrong : ChangeSpec := { name := "fnExactDu", vars := ["loop.example/g00773/impl.knownParts"], fn := fun _ => fun
  | [d1, d2, g1] => { results := [.lit (.bool false)], args := [d1, d2], vars := [g1] }
  | _ => none }
def FnExactDuWrongFalsely : Prop := fnExactDuRow.holds Tryz.pinned (OpenSpec.ofChange fnExactDuWrong)

/-- 'laws.FnExactFind': WHATEVER THE INPUT: true; the input reads as it did. -/
def fnExactFindSpec : ChangeSpec := { name := "fnExactFind", vars := ["loop.example/g00773/impl.knownParts"], fn := fun _ => fun
  | [d1, d2, d3, g1] => { results := [.lit (.bool true)], args := [d1, d2, d3], vars := [g1] }
  | _ => none }
def fnExactFindRow : OpenClaim := { program := "ythdbomkddpnhaaagreatdoor", sum := "af37ebe691d2a30e6629fd232ae744a32d413fa6153f405b078ffe0fa37dbab5", func := "loop.example/g00773/laws.FnExactFind", spec := "fnExactFind", inPlace := ["slices.overlaps[loop.example/g00773/impl.Ent]"], unfollowed := true, recurses := true, named := ["loop.example/g00773/impl.knownParts"], apart := false, laid := [("loop.example/g00773/impl.knownParts", laid_loop_example_g00773_impl_knownParts)] }
def FnExactFindSaid : Prop := fnExactFindRow.holds Tryz.pinned (OpenSpec.ofChange fnExactFindSpec)

/-- ITS FALSE NEIGHBOUR: 'it returns false'. Refute it at one input. -/
def fnExactFindWrong : ChangeSpec := { name := "fnExactFind", vars := ["loop.example/g00773/impl.knownParts"], fn := fun _ => fun
  | [d1, d2, d3, g1] => { results := [.lit (.bool false)], args := [d1, d2, d3], vars := [g1] }
  | _ => none }
def FnExactFindWrongFalsely : Prop := fnExactFindRow.holds Tryz.pinned (OpenSpec.ofChange fnExactFindWrong)

/-- 'laws.FnExactGrep': WHATEVER THE INPUT: true; the input reads as it did. -/
def fnExactGrepSpec : ChangeSpec := { name := "fnExactGrep", vars := ["loop.example/g00773/impl.knownParts"], fn := fun _ => fun
  | [d1, d2, d3, g1] => { results := [.lit (.bool true)], args := [d1, d2, d3], vars := [g1] }
  | _ => none }
def fnExactGrepRow : OpenClaim := { program := "ythdbomkddpnhaaagreatdoor", sum := "af37ebe691d2a30e6629fd232ae744a32d413fa6153f405b078ffe0fa37dbab5", func := "loop.example/g00773/laws.FnExactGrep", spec := "fnExactGrep", inPlace := ["internal/bytealg.IndexByteString", "internal/bytealg.IndexString", "slices.overlaps[loop.example/g00773/impl.Ent]"], unfollowed := true, recurses := true, named := ["internal/bytealg.MaxLen", "loop.example/g00773/impl.knownParts"], apart := false, laid := [("loop.example/g00773/impl.knownParts", laid_loop_example_g00773_impl_knownParts)] }
def FnExactGrepSaid : Prop := fnExactGrepRow.holds Tryz.pinned (OpenSpec.ofChange fnExactGrepSpec)

/-- ITS FALSE NEIGHBOUR: 'it returns false'. Refute it at one input. -/
def fnExactGrepWrong : ChangeSpec := { name := "fnExactGrep", vars := ["loop.example/g00773/impl.knownParts"], fn := fun _ => fun
  | [d1, d2, d3, g1] => { results := [.lit (.bool false)], args := [d1, d2, d3], vars := [g1] }
  | _ => none }
def FnExactGrepWrongFalsely : Prop := fnExactGrepRow.holds Tryz.pinned (OpenSpec.ofChange fnExactGrepWrong)

/-- 'laws.FnListed': WHATEVER THE INPUT: true; the input reads as it did. -/
def fnListedSpec : ChangeSpec := { name := "fnListed", vars := ["loop.example/g00773/impl.knownParts"], fn := fun _ => fun
  | [d, g1] => { results := [.lit (.bool true)], args := [d], vars := [g1] }
  | _ => none }
def fnListedRow : OpenClaim := { program := "ythdbomkddpnhaaagreatdoor", sum := "af37ebe691d2a30e6629fd232ae744a32d413fa6153f405b078ffe0fa37dbab5", func := "loop.example/g00773/laws.FnListed", spec := "fnListed", inPlace := ["slices.overlaps[loop.example/g00773/impl.Ent]"], unfollowed := true, recurses := true, named := ["loop.example/g00773/impl.knownParts"], apart := false, laid := [("loop.example/g00773/impl.knownParts", laid_loop_example_g00773_impl_knownParts)] }
def FnListedSaid : Prop := fnListedRow.holds Tryz.pinned (OpenSpec.ofChange fnListedSpec)

/-- ITS FALSE NEIGHBOUR: 'it returns false'. Refute it at one input. -/
def fnListedWrong : ChangeSpec := { name := "fnListed", vars := ["loop.example/g00773/impl.knownParts"], fn := fun _ => fun
  | [d, g1] => { results := [.lit (.bool false)], args := [d], vars := [g1] }
  | _ => none }
def FnListedWrongFalsely : Prop := fnListedRow.holds Tryz.pinned (OpenSpec.ofChange fnListedWrong)

/-- 'laws.FnStats': WHATEVER THE INPUT: true; the input reads as it did. -/
def fnStatsSpec : ChangeSpec := { name := "fnStats", vars := ["loop.example/g00773/impl.knownParts"], fn := fun _ => fun
  | [d, g1] => { results := [.lit (.bool true)], args := [d], vars := [g1] }
  | _ => none }
def fnStatsRow : OpenClaim := { program := "ythdbomkddpnhaaagreatdoor", sum := "af37ebe691d2a30e6629fd232ae744a32d413fa6153f405b078ffe0fa37dbab5", func := "loop.example/g00773/laws.FnStats", spec := "fnStats", inPlace := ["slices.overlaps[loop.example/g00773/impl.Ent]"], unfollowed := true, recurses := true, named := ["loop.example/g00773/impl.knownParts"], apart := false, laid := [("loop.example/g00773/impl.knownParts", laid_loop_example_g00773_impl_knownParts)] }
def FnStatsSaid : Prop := fnStatsRow.holds Tryz.pinned (OpenSpec.ofChange fnStatsSpec)

/-- ITS FALSE NEIGHBOUR: 'it returns false'. Refute it at one input. -/
def fnStatsWrong : ChangeSpec := { name := "fnStats", vars := ["loop.example/g00773/impl.knownParts"], fn := fun _ => fun
  | [d, g1] => { results := [.lit (.bool false)], args := [d], vars := [g1] }
  | _ => none }
def FnStatsWrongFalsely : Prop := fnStatsRow.holds Tryz.pinned (OpenSpec.ofChange fnStatsWrong)

/-- 'laws.FnPath': WHATEVER THE INPUT: true; the input reads as it did. -/
def fnPathSpec : ChangeSpec := { name := "fnPath", vars := ["loop.example/g00773/impl.knownParts"], fn := fun _ => fun
  | [d, g1] => { results := [.lit (.bool true)], args := [d], vars := [g1] }
  | _ => none }
def fnPathRow : OpenClaim := { program := "ythdbomkddpnhaaagreatdoor", sum := "af37ebe691d2a30e6629fd232ae744a32d413fa6153f405b078ffe0fa37dbab5", func := "loop.example/g00773/laws.FnPath", spec := "fnPath", inPlace := ["slices.overlaps[loop.example/g00773/impl.Ent]"], unfollowed := true, recurses := true, named := ["loop.example/g00773/impl.knownParts"], apart := false, laid := [("loop.example/g00773/impl.knownParts", laid_loop_example_g00773_impl_knownParts)] }
def FnPathSaid : Prop := fnPathRow.holds Tryz.pinned (OpenSpec.ofChange fnPathSpec)

/-- ITS FALSE NEIGHBOUR: 'it returns false'. Refute it at one input. -/
def fnPathWrong : ChangeSpec := { name := "fnPath", vars := ["loop.example/g00773/impl.knownParts"], fn := fun _ => fun
  | [d, g1] => { results := [.lit (.bool false)], args := [d], vars := [g1] }
  | _ => none }
def FnPathWrongFalsely : Prop := fnPathRow.holds Tryz.pinned (OpenSpec.ofChange fnPathWrong)

/- THE SECOND FORM. 'bulk': how many values and letters a reading holds, each counted each time it is reached (what is shared counts as often as it is met; a slice's spare places count too). A statement '..UptoSaid' is the law's where the arguments, and the package variables that the reading takes, are together of bulk at most 1048576: NARROWER than '..Said'. Prove '..Said' where nothing that the law and all that it calls make is longer than what came in: it says more and counts as full. Else prove '..UptoSaid'. A law counts once. -/
mutual
def uptoBulk {H : Type} : DataW H → Nat
  | .lit (.string bytes) => bytes.length + 1
  | .lit _ => 1
  | .nil => 1
  | .ptr d => uptoBulk d + 1
  | .slice elems spare => uptoBulkAll elems + uptoBulkAll spare + 1
  | .agg parts => uptoBulkAll parts + 1
  | .iface _ d => uptoBulk d + 1
  | .map entries => uptoBulkEntries entries + 1
  | .held _ => 1
def uptoBulkAll {H : Type} : List (DataW H) → Nat
  | [] => 0
  | d :: r => uptoBulk d + uptoBulkAll r
def uptoBulkEntries {H : Type} : List (Lit × DataW H) → Nat
  | [] => 0
  | x :: r => uptoBulkEntry x + uptoBulkEntries r
def uptoBulkEntry {H : Type} : Lit × DataW H → Nat
  | (.string bytes, d) => bytes.length + uptoBulk d + 1
  | (_, d) => uptoBulk d + 1
 end
def uptoSmall : (H : Type) → List (DataW H) → Bool := fun _ ds => decide (uptoBulkAll ds ≤ 1048576)
def OpenSpec.upto (s : _root_.Go.ChangeSpec) : _root_.Go.OpenSpec := { _root_.Go.OpenSpec.ofChange s with cond := some uptoSmall }

/-- 'laws.FnExactWalk', WHERE WHAT IT READS IS OF BULK AT MOST 1048576: true; the input reads as it did. -/
def fnExactWalkUptoRow : OpenClaim := { program := "ythdbomkddpnhaaagreatdoor", sum := "af37ebe691d2a30e6629fd232ae744a32d413fa6153f405b078ffe0fa37dbab5", func := "loop.example/g00773/laws.FnExactWalk", spec := "fnExactWalk", inPlace := ["slices.overlaps[loop.example/g00773/impl.Ent]"], unfollowed := true, recurses := true, named := ["loop.example/g00773/impl.knownParts"], apart := false, laid := [("loop.example/g00773/impl.knownParts", laid_loop_example_g00773_impl_knownParts)], narrowed := true }
def FnExactWalkUptoSaid : Prop := fnExactWalkUptoRow.holds Tryz.pinned (OpenSpec.upto fnExactWalkSpec)

/-- 'laws.FnExactCurOpen', WHERE WHAT IT READS IS OF BULK AT MOST 1048576: true; the input reads as it did. -/
def fnExactCurOpenUptoRow : OpenClaim := { program := "ythdbomkddpnhaaagreatdoor", sum := "af37ebe691d2a30e6629fd232ae744a32d413fa6153f405b078ffe0fa37dbab5", func := "loop.example/g00773/laws.FnExactCurOpen", spec := "fnExactCurOpen", inPlace := ["slices.overlaps[loop.example/g00773/impl.Ent]"], unfollowed := true, recurses := true, named := ["loop.example/g00773/impl.knownParts"], apart := false, laid := [("loop.example/g00773/impl.knownParts", laid_loop_example_g00773_impl_knownParts)], narrowed := true }
def FnExactCurOpenUptoSaid : Prop := fnExactCurOpenUptoRow.holds Tryz.pinned (OpenSpec.upto fnExactCurOpenSpec)

/-- 'laws.FnExactTar', WHERE WHAT IT READS IS OF BULK AT MOST 1048576: true; the input reads as it did. -/
def fnExactTarUptoRow : OpenClaim := { program := "ythdbomkddpnhaaagreatdoor", sum := "af37ebe691d2a30e6629fd232ae744a32d413fa6153f405b078ffe0fa37dbab5", func := "loop.example/g00773/laws.FnExactTar", spec := "fnExactTar", inPlace := ["slices.overlaps[loop.example/g00773/impl.Ent]"], unfollowed := true, recurses := true, named := ["loop.example/g00773/impl.knownParts"], apart := false, laid := [("loop.example/g00773/impl.knownParts", laid_loop_example_g00773_impl_knownParts)], narrowed := true }
def FnExactTarUptoSaid : Prop := fnExactTarUptoRow.holds Tryz.pinned (OpenSpec.upto fnExactTarSpec)

/-- 'laws.FnExactBookFall', WHERE WHAT IT READS IS OF BULK AT MOST 1048576: true; the input reads as it did. -/
def fnExactBookFallUptoRow : OpenClaim := { program := "ythdbomkddpnhaaagreatdoor", sum := "af37ebe691d2a30e6629fd232ae744a32d413fa6153f405b078ffe0fa37dbab5", func := "loop.example/g00773/laws.FnExactBookFall", spec := "fnExactBookFall", inPlace := ["slices.overlaps[loop.example/g00773/impl.Ent]"], unfollowed := true, recurses := true, named := ["loop.example/g00773/impl.knownParts"], apart := false, laid := [("loop.example/g00773/impl.knownParts", laid_loop_example_g00773_impl_knownParts)], narrowed := true }
def FnExactBookFallUptoSaid : Prop := fnExactBookFallUptoRow.holds Tryz.pinned (OpenSpec.upto fnExactBookFallSpec)

/-- 'laws.FnExactSameTree', WHERE WHAT IT READS IS OF BULK AT MOST 1048576: true; the input reads as it did. -/
def fnExactSameTreeUptoRow : OpenClaim := { program := "ythdbomkddpnhaaagreatdoor", sum := "af37ebe691d2a30e6629fd232ae744a32d413fa6153f405b078ffe0fa37dbab5", func := "loop.example/g00773/laws.FnExactSameTree", spec := "fnExactSameTree", inPlace := ["slices.overlaps[loop.example/g00773/impl.Ent]"], unfollowed := true, recurses := true, named := ["loop.example/g00773/impl.knownParts"], apart := false, laid := [("loop.example/g00773/impl.knownParts", laid_loop_example_g00773_impl_knownParts)], narrowed := true }
def FnExactSameTreeUptoSaid : Prop := fnExactSameTreeUptoRow.holds Tryz.pinned (OpenSpec.upto fnExactSameTreeSpec)

/-- 'laws.FnExactListDir', WHERE WHAT IT READS IS OF BULK AT MOST 1048576: true; the input reads as it did. -/
def fnExactListDirUptoRow : OpenClaim := { program := "ythdbomkddpnhaaagreatdoor", sum := "af37ebe691d2a30e6629fd232ae744a32d413fa6153f405b078ffe0fa37dbab5", func := "loop.example/g00773/laws.FnExactListDir", spec := "fnExactListDir", inPlace := ["slices.overlaps[loop.example/g00773/impl.Ent]"], unfollowed := true, recurses := true, named := ["loop.example/g00773/impl.knownParts"], apart := false, laid := [("loop.example/g00773/impl.knownParts", laid_loop_example_g00773_impl_knownParts)], narrowed := true }
def FnExactListDirUptoSaid : Prop := fnExactListDirUptoRow.holds Tryz.pinned (OpenSpec.upto fnExactListDirSpec)

/-- 'laws.FnExactDu', WHERE WHAT IT READS IS OF BULK AT MOST 1048576: true; the input reads as it did. -/
def fnExactDuUptoRow : OpenClaim := { program := "ythdbomkddpnhaaagreatdoor", sum := "af37ebe691d2a30e6629fd232ae744a32d413fa6153f405b078ffe0fa37dbab5", func := "loop.example/g00773/laws.FnExactDu", spec := "fnExactDu", inPlace := ["slices.overlaps[loop.example/g00773/impl.Ent]"], unfollowed := true, recurses := true, named := ["loop.example/g00773/impl.knownParts"], apart := false, laid := [("loop.example/g00773/impl.knownParts", laid_loop_example_g00773_impl_knownParts)], narrowed := true }
def FnExactDuUptoSaid : Prop := fnExactDuUptoRow.holds Tryz.pinned (OpenSpec.upto fnExactDuSpec)

/-- 'laws.FnExactFind', WHERE WHAT IT READS IS OF BULK AT MOST 1048576: true; the input reads as it did. -/
def fnExactFindUptoRow : OpenClaim := { program := "ythdbomkddpnhaaagreatdoor", sum := "af37ebe691d2a30e6629fd232ae744a32d413fa6153f405b078ffe0fa37dbab5", func := "loop.example/g00773/laws.FnExactFind", spec := "fnExactFind", inPlace := ["slices.overlaps[loop.example/g00773/impl.Ent]"], unfollowed := true, recurses := true, named := ["loop.example/g00773/impl.knownParts"], apart := false, laid := [("loop.example/g00773/impl.knownParts", laid_loop_example_g00773_impl_knownParts)], narrowed := true }
def FnExactFindUptoSaid : Prop := fnExactFindUptoRow.holds Tryz.pinned (OpenSpec.upto fnExactFindSpec)

/-- 'laws.FnExactGrep', WHERE WHAT IT READS IS OF BULK AT MOST 1048576: true; the input reads as it did. -/
def fnExactGrepUptoRow : OpenClaim := { program := "ythdbomkddpnhaaagreatdoor", sum := "af37ebe691d2a30e6629fd232ae744a32d413fa6153f405b078ffe0fa37dbab5", func := "loop.example/g00773/laws.FnExactGrep", spec := "fnExactGrep", inPlace := ["internal/bytealg.IndexByteString", "internal/bytealg.IndexString", "slices.overlaps[loop.example/g00773/impl.Ent]"], unfollowed := true, recurses := true, named := ["internal/bytealg.MaxLen", "loop.example/g00773/impl.knownParts"], apart := false, laid := [("loop.example/g00773/impl.knownParts", laid_loop_example_g00773_impl_knownParts)], narrowed := true }
def FnExactGrepUptoSaid : Prop := fnExactGrepUptoRow.holds Tryz.pinned (OpenSpec.upto fnExactGrepSpec)

/-- 'laws.FnListed', WHERE WHAT IT READS IS OF BULK AT MOST 1048576: true; the input reads as it did. -/
def fnListedUptoRow : OpenClaim := { program := "ythdbomkddpnhaaagreatdoor", sum := "af37ebe691d2a30e6629fd232ae744a32d413fa6153f405b078ffe0fa37dbab5", func := "loop.example/g00773/laws.FnListed", spec := "fnListed", inPlace := ["slices.overlaps[loop.example/g00773/impl.Ent]"], unfollowed := true, recurses := true, named := ["loop.example/g00773/impl.knownParts"], apart := false, laid := [("loop.example/g00773/impl.knownParts", laid_loop_example_g00773_impl_knownParts)], narrowed := true }
def FnListedUptoSaid : Prop := fnListedUptoRow.holds Tryz.pinned (OpenSpec.upto fnListedSpec)

/-- 'laws.FnStats', WHERE WHAT IT READS IS OF BULK AT MOST 1048576: true; the input reads as it did. -/
def fnStatsUptoRow : OpenClaim := { program := "ythdbomkddpnhaaagreatdoor", sum := "af37ebe691d2a30e6629fd232ae744a32d413fa6153f405b078ffe0fa37dbab5", func := "loop.example/g00773/laws.FnStats", spec := "fnStats", inPlace := ["slices.overlaps[loop.example/g00773/impl.Ent]"], unfollowed := true, recurses := true, named := ["loop.example/g00773/impl.knownParts"], apart := false, laid := [("loop.example/g00773/impl.knownParts", laid_loop_example_g00773_impl_knownParts)], narrowed := true }
def FnStatsUptoSaid : Prop := fnStatsUptoRow.holds Tryz.pinned (OpenSpec.upto fnStatsSpec)

/-- 'laws.FnPath', WHERE WHAT IT READS IS OF BULK AT MOST 1048576: true; the input reads as it did. -/
def fnPathUptoRow : OpenClaim := { program := "ythdbomkddpnhaaagreatdoor", sum := "af37ebe691d2a30e6629fd232ae744a32d413fa6153f405b078ffe0fa37dbab5", func := "loop.example/g00773/laws.FnPath", spec := "fnPath", inPlace := ["slices.overlaps[loop.example/g00773/impl.Ent]"], unfollowed := true, recurses := true, named := ["loop.example/g00773/impl.knownParts"], apart := false, laid := [("loop.example/g00773/impl.knownParts", laid_loop_example_g00773_impl_knownParts)], narrowed := true }
def FnPathUptoSaid : Prop := fnPathUptoRow.holds Tryz.pinned (OpenSpec.upto fnPathSpec)

end Rows
end Go.Proofs.YthdbomkddpnhaaaGreatDoor
