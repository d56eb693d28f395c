/- Changes of a directory, in both packages. -/
import Derived.Test.YtpnmmigoencbdaaDoorInsE
import Derived.Test.YtpnmmigoencbdaaDoorCpE
import Derived.Test.YtpnmmigoencbdaaDoorDoP
import Derived.Test.YtpnmmigoencbdaaDoorHeld
namespace Go.Proofs.YtpnmmigoencbdaaDoor
open Go Go.RowKit

/-- What a change leaves: a row of entries in new memory, and whether it is done. -/
def ChgPost (w : World) (P : List EntD × Bool) (e : Ending) (w' : World) : Prop :=
  ∃ L b v n, P = (L, b) ∧ L.length = n ∧ e = .returned (.tuple #[v, .bool b]) ∧ w'.ownsRow w.heap.size 60 4 v n (ES L)
theorem chg_end {w w' : World} {P : List EntD × Bool} {L : List EntD} {b : Bool} {n : Nat} {v u : Value} (h : P = (L, b)) (hv : v = .tuple #[u, .bool b]) (hn : L.length = n) (ho : w'.ownsRow w.heap.size 60 4 u n (ES L)) : ChgPost w P (.returned v) w' := ⟨L, b, u, n, h, hn, by rw [hv], ho⟩
theorem chg_bad {w w' : World} {P : List EntD × Bool} {v : Value} (h : P = ([], false)) (hv : v = .tuple #[.slice none 0 0, .bool false]) : ChgPost w P (.returned v) w' := chg_end (n := 0) h hv rfl (own_nilC _ _ _ _)

end Go.Proofs.YtpnmmigoencbdaaDoor
