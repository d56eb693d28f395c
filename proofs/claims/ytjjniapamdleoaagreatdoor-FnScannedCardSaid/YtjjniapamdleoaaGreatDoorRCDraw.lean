/- What is drawn: the cursor, bytes, numbers, signs, names, sizes. -/
import Derived.Test.YtjjniapamdleoaaGreatDoorRCStrs
import Derived.Test.YtjjniapamdleoaaGreatDoorRCRegH
import Derived.StillTailTactics
import Derived.Test.YtjjniapamdleoaaGreatDoorRCSgn
namespace Go.Proofs.YtjjniapamdleoaaGreatDoor
open Go Go.RowKit

theorem gb_bel0 {a w w1 : World} {g : Nat} (h : a.grownBy w (some g)) (hb : Below a.heap.size w w1) : a.grownBy w1 (some g) :=
 ⟨hb.os.trans h.os, hb.tape.trans h.tape, hb.output.trans h.output, Nat.le_trans h.size hb.size, fun i hi hn => (hb.block i hi).trans (h.block i hi hn)⟩
theorem own_g {w w' : World} {base n size g : Nat} {e : TypeId} {v : Value} {xs : List Value} (h : w.ownsRow base e size v n xs) (hg : w.grownBy w' (some g)) (hgb : g < base) : w'.ownsRow base e size v n xs :=
 h.kept hg (by
  rcases hv : v.ownBlock with _ | k
  ·exact .inl rfl
  ·right; intro he; injection he with he; have := (h.lt k hv).1; omega)

end Go.Proofs.YtjjniapamdleoaaGreatDoor
