/- Helpers of the law FnOps: is a code big? are two directories the same? -/
import Derived.Test.YtbchbmcphbeikaaGreatDoorDraw
import Derived.Test.YtbchbmcphbeikaaGreatDoorIsPg
import Derived.Test.YtbchbmcphbeikaaGreatDoorEnts
namespace Go.Proofs.YtbchbmcphbeikaaGreatDoor
open Go Go.RowKit

set_option maxHeartbeats 400000 in
theorem big_any (A : Option Addr) (n cp : Nat) (w : World) :
    Calls Tryz.prog 4 #[.slice A n cp] w fun e w' => e = .returned (.bool (decide (1048576 < n))) ∧ Below w.heap.size w w' := by
  by_cases h : 1048576 < n
  · have h1 : (n : Int) > 1048576 := by omega
    have hd : decide (1048576 < n) = true := by simpa using h
    have Hd := Lib.hid hd
    go_enter Tryz.func4, Tryz.ntmps4
    go_wp2
    go_ret
    exact ⟨by first | rfl | (rw [Hd.out]; rfl), bel0 w⟩
  · have h1 : ¬ ((n : Int) > 1048576) := by omega
    have hd : decide (1048576 < n) = false := by simpa using h
    have Hd := Lib.hid hd
    go_enter Tryz.func4, Tryz.ntmps4
    go_wp2
    go_ret
    exact ⟨by first | rfl | (rw [Hd.out]; rfl), bel0 w⟩

set_option maxRecDepth 100000 in
set_option maxHeartbeats 2000000 in
theorem sameDir_self (v v' : Value) (ds : List EntD) (hn : ds.length ≤ 1000000) (w : World) (h : IsS w v ds) (h' : IsS w v' ds) :
    Calls Tryz.prog 10 #[v, v'] w fun e w' => e = .returned (.bool true) ∧ Below w.heap.size w w' := by
  obtain ⟨A, c, rfl, hr⟩ := h
  obtain ⟨A', c', rfl, hr'⟩ := h'
  have Hr := Lib.hid hr
  have Hr' := Lib.hid hr'
  clear hr hr'
  go_enter Tryz.func10, Tryz.ntmps10
  go_wp2
  go_loopw [5] (fun i wr => ∃ k : Nat, k ≤ ds.length ∧ i = .int .i64 k ∧ Below w.heap.size w wr)
    (fun i _ => ds.length - (intOf i).toNat)
  case atStart => exact ⟨0, by omega, rfl, bel0 w⟩
  case round =>
    obtain ⟨k, hk, rfl, hbel⟩ := hrel
    by_cases hlt : k < ds.length
    · obtain ⟨hpx, b, o, hA, _, y0, y1, y2, y3⟩ := reads_ent (Hr.out.below hbel) hlt
      obtain ⟨_, b', o', hA', _, z0, z1, z2, z3⟩ := reads_ent (Hr'.out.below hbel) hlt
      subst hA hA'
      obtain ⟨e, he⟩ : ∃ e, ds[k] = e := ⟨_, rfl⟩
      rw [he] at y0 y1 y2 y3 z0 z1 z2 z3
      clear he
      have q0 : (0 : Int) ≤ (k : Int) := by omega
      have q1 : (k : Int) < (ds.length : Int) := by omega
      go_wp2_with fail
      go_still (by kernel_rfl)
      change Exit.then _ _ Exit.normal _ wr.drew
      go_wp2
      first
        | exact ⟨⟨k + 1, by omega, by go_num, hbel.drew⟩, by simp [intOf]; omega⟩
        | (go_roundw; case rel => exact ⟨k + 1, by omega, by go_num, hbel.drew⟩; case measure => (simp [intOf]; omega))
    · have q1 : ¬ ((k : Int) < (ds.length : Int)) := by omega
      go_wp2
      go_ret
      exact ⟨rfl, hbel⟩

end Go.Proofs.YtbchbmcphbeikaaGreatDoor
