/-
  No cell of these rows narrows 'for every input' (looked for: loops, veiled, ifaces, maps, wideKeys, modest, calm, conditions, laid).
  DERIVED. THE GIVEN ROWS OF THIS SEAT. 8 by the template 'for every input the law returns true; each argument reads behind the call as it read before'; 0 by the template 'total and deterministic' (their statements: YtdijbgdbpkeghaaTotals.lean).
  GIVEN WITH THE SEED: the statements are not yours to turn. If you find one false, say at which input.
  Laid BY PROGRAM, IN A SANDBOX (cutbox-rows.mjs): the forced cells as the released guide's own fill.sh prints them over the translation 1b7b0f4d21586e17… (all of the seat's roots in one cut). By AI agents, Wed Nov 11 2026. No macro, syntax, notation, axiom, sorry.
-/
import Derived.Test.YtdijbgdbpkeghaaChecked
import GoSem.Claim
import GoSem.ClaimJoined
import GoSem.ClaimMapViews
import Derived.JoinedTies
import Derived.KernelRfl
namespace Go.Proofs.Ytdijbgdbpkeghaa
/- THE CELL 'sum', in the pinned program and in every row, IS THE sha256 OF THE DUMP (.gsa) THAT YtdijbgdbpkeghaaProg.lean LOADS. Nothing in Lean hashes anything: it is a label: what it is worth is what the hold of that sum in a sandbox is worth. -/
noncomputable def Try.pinned : Pinned := { name := "ytdijbgdbpkeghaa", sum := "1b7b0f4d21586e17c5fa52dd3224d7e1d3d4a2a623d6adbdc409a4d6fa85fb91", checked := Try.checked }
namespace Rows
def none {H : Type} : Left H := { results := [], args := [] }

/-- 'laws.FnExactShowRec': WHATEVER THE INPUT: true; the input reads as it did. -/
def fnExactShowRecSpec : ChangeSpec := { name := "fnExactShowRec", fn := fun _ => fun
  | [d] => { results := [.lit (.bool true)], args := [d] }
  | _ => none }
def fnExactShowRecRow : OpenClaim := { program := "ytdijbgdbpkeghaa", sum := "1b7b0f4d21586e17c5fa52dd3224d7e1d3d4a2a623d6adbdc409a4d6fa85fb91", func := "loop.example/g00773/laws.FnExactShowRec", spec := "fnExactShowRec", apart := false }
def FnExactShowRecSaid : Prop := fnExactShowRecRow.holds Try.pinned (OpenSpec.ofChange fnExactShowRecSpec)

/-- ITS FALSE NEIGHBOUR: 'it returns false'. Refute it at one input. -/
def fnExactShowRecWrong : ChangeSpec := { name := "fnExactShowRec", fn := fun _ => fun
  | [d] => { results := [.lit (.bool false)], args := [d] }
  | _ => none }
def FnExactShowRecWrongFalsely : Prop := fnExactShowRecRow.holds Try.pinned (OpenSpec.ofChange fnExactShowRecWrong)

/-- 'laws.FnExactPagesOk': WHATEVER THE INPUT: true; the input reads as it did. -/
def fnExactPagesOkSpec : ChangeSpec := { name := "fnExactPagesOk", fn := fun _ => fun
  | [d] => { results := [.lit (.bool true)], args := [d] }
  | _ => none }
def fnExactPagesOkRow : OpenClaim := { program := "ytdijbgdbpkeghaa", sum := "1b7b0f4d21586e17c5fa52dd3224d7e1d3d4a2a623d6adbdc409a4d6fa85fb91", func := "loop.example/g00773/laws.FnExactPagesOk", spec := "fnExactPagesOk", apart := false }
def FnExactPagesOkSaid : Prop := fnExactPagesOkRow.holds Try.pinned (OpenSpec.ofChange fnExactPagesOkSpec)

/-- ITS FALSE NEIGHBOUR: 'it returns false'. Refute it at one input. -/
def fnExactPagesOkWrong : ChangeSpec := { name := "fnExactPagesOk", fn := fun _ => fun
  | [d] => { results := [.lit (.bool false)], args := [d] }
  | _ => none }
def FnExactPagesOkWrongFalsely : Prop := fnExactPagesOkRow.holds Try.pinned (OpenSpec.ofChange fnExactPagesOkWrong)

/-- 'laws.FnExactPgFind': WHATEVER THE INPUT: true; the input reads as it did. -/
def fnExactPgFindSpec : ChangeSpec := { name := "fnExactPgFind", fn := fun _ => fun
  | [d1, d2, d3] => { results := [.lit (.bool true)], args := [d1, d2, d3] }
  | _ => none }
def fnExactPgFindRow : OpenClaim := { program := "ytdijbgdbpkeghaa", sum := "1b7b0f4d21586e17c5fa52dd3224d7e1d3d4a2a623d6adbdc409a4d6fa85fb91", func := "loop.example/g00773/laws.FnExactPgFind", spec := "fnExactPgFind", apart := false }
def FnExactPgFindSaid : Prop := fnExactPgFindRow.holds Try.pinned (OpenSpec.ofChange fnExactPgFindSpec)

/-- ITS FALSE NEIGHBOUR: 'it returns false'. Refute it at one input. -/
def fnExactPgFindWrong : ChangeSpec := { name := "fnExactPgFind", fn := fun _ => fun
  | [d1, d2, d3] => { results := [.lit (.bool false)], args := [d1, d2, d3] }
  | _ => none }
def FnExactPgFindWrongFalsely : Prop := fnExactPgFindRow.holds Try.pinned (OpenSpec.ofChange fnExactPgFindWrong)

/-- 'laws.FnExactReadRec': WHATEVER THE INPUT: true; the input reads as it did. -/
def fnExactReadRecSpec : ChangeSpec := { name := "fnExactReadRec", fn := fun _ => fun
  | [d] => { results := [.lit (.bool true)], args := [d] }
  | _ => none }
def fnExactReadRecRow : OpenClaim := { program := "ytdijbgdbpkeghaa", sum := "1b7b0f4d21586e17c5fa52dd3224d7e1d3d4a2a623d6adbdc409a4d6fa85fb91", func := "loop.example/g00773/laws.FnExactReadRec", spec := "fnExactReadRec", apart := false }
def FnExactReadRecSaid : Prop := fnExactReadRecRow.holds Try.pinned (OpenSpec.ofChange fnExactReadRecSpec)

/-- ITS FALSE NEIGHBOUR: 'it returns false'. Refute it at one input. -/
def fnExactReadRecWrong : ChangeSpec := { name := "fnExactReadRec", fn := fun _ => fun
  | [d] => { results := [.lit (.bool false)], args := [d] }
  | _ => none }
def FnExactReadRecWrongFalsely : Prop := fnExactReadRecRow.holds Try.pinned (OpenSpec.ofChange fnExactReadRecWrong)

/-- 'laws.FnPages': WHATEVER THE INPUT: true; the input reads as it did. -/
def fnPagesSpec : ChangeSpec := { name := "fnPages", fn := fun _ => fun
  | [d] => { results := [.lit (.bool true)], args := [d] }
  | _ => none }
def fnPagesRow : OpenClaim := { program := "ytdijbgdbpkeghaa", sum := "1b7b0f4d21586e17c5fa52dd3224d7e1d3d4a2a623d6adbdc409a4d6fa85fb91", func := "loop.example/g00773/laws.FnPages", spec := "fnPages", inPlace := ["slices.overlaps[loop.example/g00773/impl.Ent]", "slices.overlaps[[]loop.example/g00773/impl.Ent]"], unfollowed := true, recurses := true, apart := false }
def FnPagesSaid : Prop := fnPagesRow.holds Try.pinned (OpenSpec.ofChange fnPagesSpec)

/-- ITS FALSE NEIGHBOUR: 'it returns false'. Refute it at one input. -/
def fnPagesWrong : ChangeSpec := { name := "fnPages", fn := fun _ => fun
  | [d] => { results := [.lit (.bool false)], args := [d] }
  | _ => none }
def FnPagesWrongFalsely : Prop := fnPagesRow.holds Try.pinned (OpenSpec.ofChange fnPagesWrong)

/-- 'laws.FnExactPgList': WHATEVER THE INPUT: true; the input reads as it did. -/
def fnExactPgListSpec : ChangeSpec := { name := "fnExactPgList", fn := fun _ => fun
  | [d] => { results := [.lit (.bool true)], args := [d] }
  | _ => none }
def fnExactPgListRow : OpenClaim := { program := "ytdijbgdbpkeghaa", sum := "1b7b0f4d21586e17c5fa52dd3224d7e1d3d4a2a623d6adbdc409a4d6fa85fb91", func := "loop.example/g00773/laws.FnExactPgList", spec := "fnExactPgList", apart := false }
def FnExactPgListSaid : Prop := fnExactPgListRow.holds Try.pinned (OpenSpec.ofChange fnExactPgListSpec)

/-- ITS FALSE NEIGHBOUR: 'it returns false'. Refute it at one input. -/
def fnExactPgListWrong : ChangeSpec := { name := "fnExactPgList", fn := fun _ => fun
  | [d] => { results := [.lit (.bool false)], args := [d] }
  | _ => none }
def FnExactPgListWrongFalsely : Prop := fnExactPgListRow.holds Try.pinned (OpenSpec.ofChange fnExactPgListWrong)

/-- 'laws.FnExactRingRead': WHATEVER THE INPUT: true; the input reads as it did. -/
def fnExactRingReadSpec : ChangeSpec := { name := "fnExactRingRead", fn := fun _ => fun
  | [d] => { results := [.lit (.bool true)], args := [d] }
  | _ => none }
def fnExactRingReadRow : OpenClaim := { program := "ytdijbgdbpkeghaa", sum := "1b7b0f4d21586e17c5fa52dd3224d7e1d3d4a2a623d6adbdc409a4d6fa85fb91", func := "loop.example/g00773/laws.FnExactRingRead", spec := "fnExactRingRead", apart := false }
def FnExactRingReadSaid : Prop := fnExactRingReadRow.holds Try.pinned (OpenSpec.ofChange fnExactRingReadSpec)

/-- ITS FALSE NEIGHBOUR: 'it returns false'. Refute it at one input. -/
def fnExactRingReadWrong : ChangeSpec := { name := "fnExactRingRead", fn := fun _ => fun
  | [d] => { results := [.lit (.bool false)], args := [d] }
  | _ => none }
def FnExactRingReadWrongFalsely : Prop := fnExactRingReadRow.holds Try.pinned (OpenSpec.ofChange fnExactRingReadWrong)

/-- 'laws.FnRing': WHATEVER THE INPUT: true; the input reads as it did. -/
def fnRingSpec : ChangeSpec := { name := "fnRing", fn := fun _ => fun
  | [d] => { results := [.lit (.bool true)], args := [d] }
  | _ => none }
def fnRingRow : OpenClaim := { program := "ytdijbgdbpkeghaa", sum := "1b7b0f4d21586e17c5fa52dd3224d7e1d3d4a2a623d6adbdc409a4d6fa85fb91", func := "loop.example/g00773/laws.FnRing", spec := "fnRing", apart := false }
def FnRingSaid : Prop := fnRingRow.holds Try.pinned (OpenSpec.ofChange fnRingSpec)

/-- ITS FALSE NEIGHBOUR: 'it returns false'. Refute it at one input. -/
def fnRingWrong : ChangeSpec := { name := "fnRing", fn := fun _ => fun
  | [d] => { results := [.lit (.bool false)], args := [d] }
  | _ => none }
def FnRingWrongFalsely : Prop := fnRingRow.holds Try.pinned (OpenSpec.ofChange fnRingWrong)

/- THE SECOND FORM. 'bulk': how many values and letters a reading holds, each counted each time it is reached (what is shared counts as often as it is met; a slice's spare places count too). A statement '..UptoSaid' is the law's where the arguments, and the package variables that the reading takes, are together of bulk at most 1048576: NARROWER than '..Said'. Prove '..Said' where nothing that the law and all that it calls make is longer than what came in: it says more and counts as full. Else prove '..UptoSaid'. A law counts once. -/
mutual
def uptoBulk {H : Type} : DataW H → Nat
  | .lit (.string bytes) => bytes.length + 1
  | .lit _ => 1
  | .nil => 1
  | .ptr d => uptoBulk d + 1
  | .slice elems spare => uptoBulkAll elems + uptoBulkAll spare + 1
  | .agg parts => uptoBulkAll parts + 1
  | .iface _ d => uptoBulk d + 1
  | .map entries => uptoBulkEntries entries + 1
  | .held _ => 1
def uptoBulkAll {H : Type} : List (DataW H) → Nat
  | [] => 0
  | d :: r => uptoBulk d + uptoBulkAll r
def uptoBulkEntries {H : Type} : List (Lit × DataW H) → Nat
  | [] => 0
  | x :: r => uptoBulkEntry x + uptoBulkEntries r
def uptoBulkEntry {H : Type} : Lit × DataW H → Nat
  | (.string bytes, d) => bytes.length + uptoBulk d + 1
  | (_, d) => uptoBulk d + 1
 end
def uptoSmall : (H : Type) → List (DataW H) → Bool := fun _ ds => decide (uptoBulkAll ds ≤ 1048576)
def OpenSpec.upto (s : _root_.Go.ChangeSpec) : _root_.Go.OpenSpec := { _root_.Go.OpenSpec.ofChange s with cond := some uptoSmall }

/-- 'laws.FnExactShowRec', WHERE WHAT IT READS IS OF BULK AT MOST 1048576: true; the input reads as it did. -/
def fnExactShowRecUptoRow : OpenClaim := { program := "ytdijbgdbpkeghaa", sum := "1b7b0f4d21586e17c5fa52dd3224d7e1d3d4a2a623d6adbdc409a4d6fa85fb91", func := "loop.example/g00773/laws.FnExactShowRec", spec := "fnExactShowRec", apart := false, narrowed := true }
def FnExactShowRecUptoSaid : Prop := fnExactShowRecUptoRow.holds Try.pinned (OpenSpec.upto fnExactShowRecSpec)

/-- 'laws.FnExactPagesOk', WHERE WHAT IT READS IS OF BULK AT MOST 1048576: true; the input reads as it did. -/
def fnExactPagesOkUptoRow : OpenClaim := { program := "ytdijbgdbpkeghaa", sum := "1b7b0f4d21586e17c5fa52dd3224d7e1d3d4a2a623d6adbdc409a4d6fa85fb91", func := "loop.example/g00773/laws.FnExactPagesOk", spec := "fnExactPagesOk", apart := false, narrowed := true }
def FnExactPagesOkUptoSaid : Prop := fnExactPagesOkUptoRow.holds Try.pinned (OpenSpec.upto fnExactPagesOkSpec)

/-- 'laws.FnExactPgFind', WHERE WHAT IT READS IS OF BULK AT MOST 1048576: true; the input reads as it did. -/
def fnExactPgFindUptoRow : OpenClaim := { program := "ytdijbgdbpkeghaa", sum := "1b7b0f4d21586e17c5fa52dd3224d7e1d3d4a2a623d6adbdc409a4d6fa85fb91", func := "loop.example/g00773/laws.FnExactPgFind", spec := "fnExactPgFind", apart := false, narrowed := true }
def FnExactPgFindUptoSaid : Prop := fnExactPgFindUptoRow.holds Try.pinned (OpenSpec.upto fnExactPgFindSpec)

/-- 'laws.FnExactReadRec', WHERE WHAT IT READS IS OF BULK AT MOST 1048576: true; the input reads as it did. -/
def fnExactReadRecUptoRow : OpenClaim := { program := "ytdijbgdbpkeghaa", sum := "1b7b0f4d21586e17c5fa52dd3224d7e1d3d4a2a623d6adbdc409a4d6fa85fb91", func := "loop.example/g00773/laws.FnExactReadRec", spec := "fnExactReadRec", apart := false, narrowed := true }
def FnExactReadRecUptoSaid : Prop := fnExactReadRecUptoRow.holds Try.pinned (OpenSpec.upto fnExactReadRecSpec)

/-- 'laws.FnPages', WHERE WHAT IT READS IS OF BULK AT MOST 1048576: true; the input reads as it did. -/
def fnPagesUptoRow : OpenClaim := { program := "ytdijbgdbpkeghaa", sum := "1b7b0f4d21586e17c5fa52dd3224d7e1d3d4a2a623d6adbdc409a4d6fa85fb91", func := "loop.example/g00773/laws.FnPages", spec := "fnPages", inPlace := ["slices.overlaps[loop.example/g00773/impl.Ent]", "slices.overlaps[[]loop.example/g00773/impl.Ent]"], unfollowed := true, recurses := true, apart := false, narrowed := true }
def FnPagesUptoSaid : Prop := fnPagesUptoRow.holds Try.pinned (OpenSpec.upto fnPagesSpec)

/-- 'laws.FnExactPgList', WHERE WHAT IT READS IS OF BULK AT MOST 1048576: true; the input reads as it did. -/
def fnExactPgListUptoRow : OpenClaim := { program := "ytdijbgdbpkeghaa", sum := "1b7b0f4d21586e17c5fa52dd3224d7e1d3d4a2a623d6adbdc409a4d6fa85fb91", func := "loop.example/g00773/laws.FnExactPgList", spec := "fnExactPgList", apart := false, narrowed := true }
def FnExactPgListUptoSaid : Prop := fnExactPgListUptoRow.holds Try.pinned (OpenSpec.upto fnExactPgListSpec)

/-- 'laws.FnExactRingRead', WHERE WHAT IT READS IS OF BULK AT MOST 1048576: true; the input reads as it did. -/
def fnExactRingReadUptoRow : OpenClaim := { program := "ytdijbgdbpkeghaa", sum := "1b7b0f4d21586e17c5fa52dd3224d7e1d3d4a2a623d6adbdc409a4d6fa85fb91", func := "loop.example/g00773/laws.FnExactRingRead", spec := "fnExactRingRead", apart := false, narrowed := true }
def FnExactRingReadUptoSaid : Prop := fnExactRingReadUptoRow.holds Try.pinned (OpenSpec.upto fnExactRingReadSpec)

/-- 'laws.FnRing', WHERE WHAT IT READS IS OF BULK AT MOST 1048576: true; the input reads as it did. -/
def fnRingUptoRow : OpenClaim := { program := "ytdijbgdbpkeghaa", sum := "1b7b0f4d21586e17c5fa52dd3224d7e1d3d4a2a623d6adbdc409a4d6fa85fb91", func := "loop.example/g00773/laws.FnRing", spec := "fnRing", apart := false, narrowed := true }
def FnRingUptoSaid : Prop := fnRingUptoRow.holds Try.pinned (OpenSpec.upto fnRingSpec)

end Rows
end Go.Proofs.Ytdijbgdbpkeghaa
