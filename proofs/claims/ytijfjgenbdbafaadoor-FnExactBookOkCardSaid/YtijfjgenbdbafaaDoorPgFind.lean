/- The entries of pages, one of them found, in both packages. -/
import Derived.Test.YtijfjgenbdbafaaDoorPgOk2
namespace Go.Proofs.YtijfjgenbdbafaaDoor
open Go Go.RowKit

/-- The entries of right pages. -/
noncomputable def pgL (ps : List (List EntD)) : List EntD := if okPB ps = true then ps.flatten else []
theorem pgL_yes {ps : List (List EntD)} (h : okPB ps = true) : pgL ps = ps.flatten := by unfold pgL; rw [if_pos h]
theorem pgL_no {ps : List (List EntD)} (h : okPB ps = false) : pgL ps = [] := by unfold pgL; rw [if_neg (by rw [h]; simp)]
theorem pgL_len (ps : List (List EntD)) : (pgL ps).length ≤ ps.flatten.length := by unfold pgL; split <;> simp

set_option maxHeartbeats 1000000 in
theorem pgList_impl (A : Option Addr) (n c : Nat) (ps : List (List EntD)) (hz : ps.flatten.length ≤ 10000000) (hn : n ≤ 10000000) (w : World) (hr : PagesAt w w.heap.size A n ps) :
    Calls Tryd.prog 74 #[.slice A n c] w fun e w' => ∃ v, e = .returned v ∧ w'.ownsRow w.heap.size 37 4 v (pgL ps).length (ES (pgL ps)) ∧ Below w.heap.size w w' := by
  have Hr := Lib.hid hr
  clear hr
  rcases hok : okPB ps with _ | _
  · have Hl := Lib.hid (pgL_no hok)
    go_enter Tryd.func74, Tryd.ntmps74
    go_wp2_with fail
    refine (pagesOk_impl A n c ps hz hn _ Hr.out).mono ?_
    rintro e w1 ⟨rfl, hb1⟩
    have hsz := hb1.size
    go_wp2
    go_ret
    refine ⟨_, rfl, ?_, belA hb1 _⟩
    rw [Hl.out]
    exact own_more (World.ownsRow_lit w1 #[] 0 (Nat.le_refl _) (by unfold maxLen; omega) rfl) hsz
  · have Hl := Lib.hid (pgL_yes hok)
    go_enter Tryd.func74, Tryd.ntmps74
    go_wp2_with fail
    refine (pagesOk_impl A n c ps hz hn _ Hr.out).mono ?_
    rintro e w1 ⟨rfl, hb1⟩
    have hsz := hb1.size
    go_wp2_with fail
    refine (rowOf_any A n c ps hz hn _ ((Hr.out.below hb1).more hsz)).mono ?_
    rintro e w2 ⟨v, rfl, hown, hb2⟩
    go_wp2
    go_ret
    refine ⟨_, rfl, ?_, belN hb1 hb2⟩
    rw [Hl.out]
    exact own_more hown hsz

set_option maxRecDepth 100000 in
set_option maxHeartbeats 2000000 in
theorem pgList_spec (A : Option Addr) (n c : Nat) (ps : List (List EntD)) (hz : ps.flatten.length ≤ 10000000) (hn : n ≤ 10000000) (w : World) (hr : PagesAt w w.heap.size A n ps) :
    Calls Tryd.prog 72 #[.slice A n c] w fun e w' => ∃ v, e = .returned v ∧ w'.ownsRow w.heap.size 37 4 v (pgL ps).length (ES (pgL ps)) ∧ Below w.heap.size w w' := by
  have hl := hr.len
  have Hr := Lib.hid hr
  clear hr
  rcases hok : okPB ps with _ | _
  · have Hl := Lib.hid (pgL_no hok)
    go_enter Tryd.func72, Tryd.ntmps72
    go_wp2_with fail
    refine (pagesOk_spec A n c ps hz hn _ ((Hr.out.below (belA (bel0 w) _)).more (by simp))).mono ?_
    rintro e w1 ⟨rfl, hb1⟩
    go_wp2
    go_ret
    refine ⟨_, rfl, ?_, belN (belA (bel0 w) _) hb1⟩
    rw [Hl.out]
    exact own_below (World.ownsRow_lit w #[] 0 (Nat.le_refl _) (by unfold maxLen; omega) rfl) hb1 (Nat.le_refl _)
  · have Hl := Lib.hid (pgL_yes hok)
    go_enter Tryd.func72, Tryd.ntmps72
    go_wp2_with fail
    refine (pagesOk_spec A n c ps hz hn _ ((Hr.out.below (belA (bel0 w) _)).more (by simp))).mono ?_
    rintro e w1 ⟨rfl, hb1⟩
    have hown0 := own_below (World.ownsRow_lit (e := 37) (size := 4) w #[] 0 (Nat.le_refl _) (by unfold maxLen; omega) rfl) hb1 (Nat.le_refl _)
    have hbel0 := belN (belA (bel0 w) _) hb1
    have Hown0 := Lib.hid hown0
    clear hown0
    go_wp2
    go_loopw [3, 4] (fun v i wr => ∃ (j : Nat), j ≤ n ∧ i = .int .i64 j ∧ wr.ownsRow w.heap.size 37 4 v (ps.take j).flatten.length (ES (ps.take j).flatten) ∧ Below w.heap.size w wr)
      (fun _ i _ => n - (intOf i).toNat)
    case atStart => exact ⟨0, by omega, rfl, Hown0.out, hbel0⟩
    case round =>
      obtain ⟨j, hj, rfl, hown, hbel⟩ := hrel
      have hsz := hbel.size
      by_cases hlt : j < n
      · obtain ⟨hkx, b, o, A', c', rfl, hadb, z0, hrow⟩ := (Hr.out.below hbel).at_ hlt
        have q0 : (0 : Int) ≤ ↑j := by omega
        have q1 : (↑j : Int) < ↑n := by omega
        have hfl := Lib.hid (flat_take_succ ps j hkx)
        have hle := flat_take_le ps (j + 1)
        rw [hfl.out, List.length_append] at hle
        go_wp2_with (at_builtin; go_must (refine wpList_app _ rfl _ _ _ rfl Tryd.el_ent hown rfl hrow rfl (ES_cells _) (by unfold maxLen; omega) (by omega) hsz ?_); intro v1 w2 own1 hg1 _ hb2)
        go_roundw
        case rel =>
          refine ⟨j + 1, by omega, by go_num, ?_, hbel.trans hb2⟩
          rw [hfl.out, List.length_append, ES_append]; exact own1
        case measure => simp [intOf]; omega
      · obtain rfl : j = n := by omega
        rw [List.take_of_length_le (by omega)] at hown
        go_wp2
        go_ret
        exact ⟨_, rfl, by rw [Hl.out]; exact hown, hbel⟩

def isAt (x y : Int) (e : EntD) : Bool := e.h == x && e.i == y
/-- An entry of pages by its place. -/
noncomputable def fndP (ps : List (List EntD)) (x y : Int) : EntD × Bool := match (pgL ps).find? (isAt x y) with | some e => (e, true) | none => (⟨0, 0, ⟨#[]⟩, 0⟩, false)
theorem fndP_some {ps : List (List EntD)} {x y : Int} {e : EntD} (h : (pgL ps).find? (isAt x y) = some e) : fndP ps x y = (e, true) := by unfold fndP; rw [h]
theorem fndP_none {ps : List (List EntD)} {x y : Int} (h : (pgL ps).find? (isAt x y) = none) : fndP ps x y = (⟨0, 0, ⟨#[]⟩, 0⟩, false) := by unfold fndP; rw [h]
theorem find_hit {p : EntD → Bool} {a r : List EntD} {x : EntD} (h : a.find? p = none) (hx : p x = true) : (a ++ x :: r).find? p = some x := by rw [List.find?_append, h]; simp [hx]
theorem find_miss {p : EntD → Bool} {a : List EntD} {x : EntD} (h : a.find? p = none) (hx : p x = false) : (a ++ [x]).find? p = none := by rw [List.find?_append, h]; simp [hx]
theorem fnd_end {v : Value} {ps : List (List EntD)} {x y : Int} {e : EntD} {b : Bool} (h : fndP ps x y = (e, b)) (hv : v = .tuple #[.agg #[.int .i64 e.h, .int .i64 e.i, .string e.s, .int .i64 e.d], .bool b]) :
    Ending.returned v = .returned (.tuple #[.agg #[.int .i64 (fndP ps x y).1.h, .int .i64 (fndP ps x y).1.i, .string (fndP ps x y).1.s, .int .i64 (fndP ps x y).1.d], .bool (fndP ps x y).2]) := by rw [hv, h]

end Go.Proofs.YtijfjgenbdbafaaDoor
