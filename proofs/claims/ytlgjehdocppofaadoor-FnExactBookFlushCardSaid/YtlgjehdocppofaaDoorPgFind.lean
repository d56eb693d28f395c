/- The entries of pages, one of them found, in both packages. -/
import Derived.Test.YtlgjehdocppofaaDoorPgOk2
namespace Go.Proofs.YtlgjehdocppofaaDoor
open Go Go.RowKit

/-- The entries of right pages. -/
noncomputable def pgL (ps : List (List EntD)) : List EntD := if okPB ps = true then ps.flatten else []
theorem pgL_yes {ps : List (List EntD)} (h : okPB ps = true) : pgL ps = ps.flatten := by unfold pgL; rw [if_pos h]
theorem pgL_no {ps : List (List EntD)} (h : okPB ps = false) : pgL ps = [] := by unfold pgL; rw [if_neg (by rw [h]; simp)]
theorem pgL_len (ps : List (List EntD)) : (pgL ps).length ≤ ps.flatten.length := by unfold pgL; split <;> simp

def isAt (x y : Int) (e : EntD) : Bool := e.h == x && e.i == y
/-- An entry of pages by its place. -/
noncomputable def fndP (ps : List (List EntD)) (x y : Int) : EntD × Bool := match (pgL ps).find? (isAt x y) with | some e => (e, true) | none => (⟨0, 0, ⟨#[]⟩, 0⟩, false)
theorem fndP_some {ps : List (List EntD)} {x y : Int} {e : EntD} (h : (pgL ps).find? (isAt x y) = some e) : fndP ps x y = (e, true) := by unfold fndP; rw [h]
theorem fndP_none {ps : List (List EntD)} {x y : Int} (h : (pgL ps).find? (isAt x y) = none) : fndP ps x y = (⟨0, 0, ⟨#[]⟩, 0⟩, false) := by unfold fndP; rw [h]
theorem find_hit {p : EntD → Bool} {a r : List EntD} {x : EntD} (h : a.find? p = none) (hx : p x = true) : (a ++ x :: r).find? p = some x := by rw [List.find?_append, h]; simp [hx]
theorem find_miss {p : EntD → Bool} {a : List EntD} {x : EntD} (h : a.find? p = none) (hx : p x = false) : (a ++ [x]).find? p = none := by rw [List.find?_append, h]; simp [hx]
theorem fnd_end {v : Value} {ps : List (List EntD)} {x y : Int} {e : EntD} {b : Bool} (h : fndP ps x y = (e, b)) (hv : v = .tuple #[.agg #[.int .i64 e.h, .int .i64 e.i, .string e.s, .int .i64 e.d], .bool b]) :
    Ending.returned v = .returned (.tuple #[.agg #[.int .i64 (fndP ps x y).1.h, .int .i64 (fndP ps x y).1.i, .string (fndP ps x y).1.s, .int .i64 (fndP ps x y).1.d], .bool (fndP ps x y).2]) := by rw [hv, h]

end Go.Proofs.YtlgjehdocppofaaDoor
