/- A world in a drawn region gets a letter. -/
import Derived.Deep.Cut
import Derived.Deep.CutRange
import Derived.Deep.RegionHeld
namespace Go.Proofs.YtjjniapamdleoaaGreatDoor
open Go

theorem foldH {P : Program} {md : Region.Mode} {ops : Array Oper} {Q : Exit -> Act -> World -> Prop} {S : World -> Prop} {fuel : Nat} {listed : Array Bool} {a : Act} {w : World}
  (h : ∀ w', w' = w -> wpAnyH P md ops Q S fuel listed a w') : wpAnyH P md ops Q S fuel listed a w := h w rfl

end Go.Proofs.YtjjniapamdleoaaGreatDoor
