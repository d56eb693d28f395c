/- DpNext, DpOk. -/
import Derived.Test.YtjjniapamdleoaaGreatDoorRPDir
import Derived.Test.YtjjniapamdleoaaGreatDoorRPPgOk
import Derived.Test.YtjjniapamdleoaaGreatDoorRPIsPg
namespace Go.Proofs.YtjjniapamdleoaaGreatDoor
open Go Go.RowKit

def EntD.zero : EntD := ⟨0, 0, ⟨#[]⟩, 0⟩
/-- An entry and whether there is one. -/
def EntPost (P : EntD × Bool) (e : Ending) : Prop := ∃ E fb, P = (E, fb) /\ e = .returned (.tuple #[.agg #[.int .i64 E.h, .int .i64 E.i, .string E.s, .int .i64 E.d], .bool fb])
theorem entPost_end {P : EntD × Bool} {E : EntD} {fb : Bool} {v : Value} (h : P = (E, fb)) (hv : v = .tuple #[.agg #[.int .i64 E.h, .int .i64 E.i, .string E.s, .int .i64 E.d], .bool fb]) : EntPost P (.returned v) := ⟨E, fb, h, by rw [hv]⟩
theorem dir12 {ds : List EntD} (h : dirOkB ds = true) : ds.length <= 12 := (dirOkB_iff.1 h).1

theorem dirOk_nil : dirOkB [] = true := dirOkB_true ⟨by simp, fun i h => absurd h (by simp)⟩

end Go.Proofs.YtjjniapamdleoaaGreatDoor
