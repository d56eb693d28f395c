/- DpNext, DpOk. -/
import Derived.Test.YthdbomkddpnhaaaGreatDoorPDir
import Derived.Test.YthdbomkddpnhaaaGreatDoorPPgOk
import Derived.Test.YthdbomkddpnhaaaGreatDoorPIsPg
namespace Go.Proofs.YthdbomkddpnhaaaGreatDoor
open Go Go.RowKit

def EntD.zero : EntD := ⟨0, 0, ⟨#[]⟩, 0⟩
/-- An entry and whether there is one. -/
def EntPost (P : EntD × Bool) (e : Ending) : Prop := ∃ E fb, P = (E, fb) ∧ e = .returned (.tuple #[.agg #[.int .i64 E.h, .int .i64 E.i, .string E.s, .int .i64 E.d], .bool fb])
theorem entPost_end {P : EntD × Bool} {E : EntD} {fb : Bool} {v : Value} (h : P = (E, fb)) (hv : v = .tuple #[.agg #[.int .i64 E.h, .int .i64 E.i, .string E.s, .int .i64 E.d], .bool fb]) : EntPost P (.returned v) := ⟨E, fb, h, by rw [hv]⟩

end Go.Proofs.YthdbomkddpnhaaaGreatDoor

