/- Pages that are a directory, in both packages. -/
import Derived.Test.YthdbomkddpnhaaaGreatDoorNext
namespace Go.Proofs.YthdbomkddpnhaaaGreatDoor
open Go Go.RowKit

theorem PagesAt.next {w w' : World} {A : Option Addr} {n : Nat} {ps : List (List EntD)} (h : PagesAt w w.heap.size A n ps) (hb : Below w.heap.size w w') : PagesAt w' w'.heap.size A n ps := (h.below hb).more hb.size
/-- Pages are a directory. -/
noncomputable def dpOkB (ps : List (List EntD)) : Bool := okPB ps && dirOkB (pgL ps)
theorem dp_flat {ps : List (List EntD)} (sm : szSS ps ≤ 1048576) : ps.flatten.length ≤ 10000000 := by have := szSS_flat ps; omega
theorem dp_len {ps : List (List EntD)} (sm : szSS ps ≤ 1048576) : ps.length ≤ 10000000 := by have := szSS_len ps; omega
theorem dp_pgL {ps : List (List EntD)} (sm : szSS ps ≤ 1048576) : (pgL ps).length ≤ 10000000 := by have := pgL_len ps; have := dp_flat sm; omega
theorem dp_names {ps : List (List EntD)} (sm : szSS ps ≤ 1048576) : ∀ e ∈ pgL ps, e.s.size ≤ 2000000 := fun e he => by
  unfold pgL at he
  split at he
  · have := szSS_name ps e he; omega
  · cases he
theorem dirOk_nil : dirOkB [] = true := dirOkB_true ⟨by simp, fun i h => absurd h (by simp)⟩
theorem dp_no {ps : List (List EntD)} {x y : Int} (h : dpOkB ps = false) : nxtP (pgL ps) x y = (EntD.zero, false) := by
  unfold dpOkB at h
  cases ho : okPB ps
  · rw [pgL_no ho]; exact nxtP_none dirOk_nil rfl
  · rw [ho, Bool.true_and] at h; exact nxtP_bad h

end Go.Proofs.YthdbomkddpnhaaaGreatDoor
