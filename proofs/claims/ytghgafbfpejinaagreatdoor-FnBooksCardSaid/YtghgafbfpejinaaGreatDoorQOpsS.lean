/- Helpers of the law FnOps: is a code big? are two directories the same? -/
import Derived.Test.YtghgafbfpejinaaGreatDoorQDraw
import Derived.Test.YtghgafbfpejinaaGreatDoorQIsPg
namespace Go.Proofs.YtghgafbfpejinaaGreatDoor
open Go Go.RowKit

set_option maxHeartbeats 400000 in
theorem big_any (A : Option Addr) (n cp : Nat) (w : World) :
  Calls Tryz.prog 5 #[.slice A n cp] w fun e w' => e = .returned (.bool (decide (1048576 < n))) ∧ Below w.heap.size w w' := by
 by_cases h : 1048576 < n
 ·have h1 : (n : Int) > 1048576 := by omega
  have hd : decide (1048576 < n) = true := by simpa using h
  have Hd := Lib.hid hd
  go_enter Tryz.func5, Tryz.ntmps5
  go_wp2
  go_ret
  exact ⟨by first | rfl | (rw [Hd.out]; rfl), bel0 w⟩
 ·have h1 : ¬ ((n : Int) > 1048576) := by omega
  have hd : decide (1048576 < n) = false := by simpa using h
  have Hd := Lib.hid hd
  go_enter Tryz.func5, Tryz.ntmps5
  go_wp2
  go_ret
  exact ⟨by first | rfl | (rw [Hd.out]; rfl), bel0 w⟩

end Go.Proofs.YtghgafbfpejinaaGreatDoor
