/- The list of a directory, of both sides. -/
import Derived.Test.YthdbomkddpnhaaaGreatDoorPLk
import Derived.Test.YthdbomkddpnhaaaGreatDoorPDp
import Derived.Test.YthdbomkddpnhaaaGreatDoorPCur
import Derived.Test.YthdbomkddpnhaaaGreatDoorPTarP
import Derived.Test.YthdbomkddpnhaaaGreatDoorPRegH
namespace Go.Proofs.YthdbomkddpnhaaaGreatDoor
open Go Go.RowKit

def ListPost (w : World) (P : List ByteArray × Int) (e : Ending) (w' : World) : Prop :=
 Below w.heap.size w w' ∧ ∃ v, e = .returned (.tuple #[v, .int .i64 P.2]) ∧ w'.ownsRow w.heap.size 9 1 v P.1.length (SS P.1)
theorem list_end {w w' : World} {P : List ByteArray × Int} {l : List ByteArray} {q : Int} {n : Nat} {v : Value} (h : P = (l, q)) (hn : n = l.length) (hb : Below w.heap.size w w') (ho : w'.ownsRow w.heap.size 9 1 v n (SS l)) : ListPost w P (.returned (.tuple #[v, .int .i64 q])) w' := by
 subst h; subst hn; exact ⟨hb, v, rfl, ho⟩

end Go.Proofs.YthdbomkddpnhaaaGreatDoor

