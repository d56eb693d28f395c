/- Pages: right ones, found entries, of both sides. -/
import Derived.Test.YtjjniapamdleoaaGreatDoorRPIsPg
import Derived.BigQuiet
namespace Go.Proofs.YtjjniapamdleoaaGreatDoor
open Go Go.RowKit
set_option maxHeartbeats 1000000

theorem Tryz.el_ent : ElemOk Tryz.prog 34 38 (.agg #[.int .i64 0, .int .i64 0, .string ⟨#[]⟩, .int .i64 0]) 4 40 := ⟨Tryz.underlying34, by kernel_rfl, rfl, by omega⟩

/-- An entry stands behind a place; ahead of it. -/
def behB (e : EntD) (h i : Int) : Bool := decide (h < e.h) || (decide (e.h = h) && decide (i < e.i))
def lessB (e : EntD) (h i : Int) : Bool := decide (e.h < h) || (decide (e.h = h) && decide (e.i < i))
theorem less_beh (a b : EntD) : lessB a b.h b.i = behB b a.h a.i := by
 unfold lessB behB
 rw [show (decide (a.h = b.h)) = decide (b.h = a.h) from by simp [eq_comm]]

theorem isBehind_any (e : EntD) (x y : Int) (w : World) :
  Calls Tryz.prog 125 #[e.val, .int .i64 x, .int .i64 y] w fun r w' => r = .returned (.bool (behB e x y)) /\ Below w.heap.size w w' := by
 obtain ⟨h, i, s, d⟩ := e
 simp only [EntD.val]
 by_cases h1 : x < h
 ·have Hf := Lib.hid (show behB ⟨h, i, s, d⟩ x y = true by simp [behB, h1])
  go_enter Tryz.func125, Tryz.ntmps125
  go_wp2
  go_ret
  exact ⟨ret_bool Hf.out.symm, belA (bel0 w) _⟩
 ·by_cases h2 : h = x
  ·have h2' : (h == x) = true := by simp [h2]
   by_cases h3 : y < i
   ·have Hf := Lib.hid (show behB ⟨h, i, s, d⟩ x y = true by simp [behB, h2, h3])
    clear h2
    go_enter Tryz.func125, Tryz.ntmps125
    go_wp2
    go_ret
    exact ⟨ret_bool Hf.out.symm, belA (bel0 w) _⟩
   ·have Hf := Lib.hid (show behB ⟨h, i, s, d⟩ x y = false by simp [behB]; omega)
    clear h2
    go_enter Tryz.func125, Tryz.ntmps125
    go_wp2
    go_ret
    exact ⟨ret_bool Hf.out.symm, belA (bel0 w) _⟩
  ·have h2' : (h == x) = false := by simp [h2]
   have Hf := Lib.hid (show behB ⟨h, i, s, d⟩ x y = false by simp [behB]; omega)
   clear h2
   go_enter Tryz.func125, Tryz.ntmps125
   go_wp2
   go_ret
   exact ⟨ret_bool Hf.out.symm, belA (bel0 w) _⟩

theorem l5Less_any (e : EntD) (x y : Int) (w : World) :
  Calls Tryz.prog 128 #[e.val, .int .i64 x, .int .i64 y] w fun r w' => r = .returned (.bool (lessB e x y)) /\ Below w.heap.size w w' := by
 obtain ⟨h, i, s, d⟩ := e
 simp only [EntD.val]
 by_cases h1 : h < x
 ·have Hf := Lib.hid (show lessB ⟨h, i, s, d⟩ x y = true by simp [lessB, h1])
  go_enter Tryz.func128, Tryz.ntmps128
  go_wp2
  go_ret
  exact ⟨ret_bool Hf.out.symm, belA (bel0 w) _⟩
 ·by_cases h2 : h = x
  ·have h2' : (h == x) = true := by simp [h2]
   by_cases h3 : i < y
   ·have Hf := Lib.hid (show lessB ⟨h, i, s, d⟩ x y = true by simp [lessB, h2, h3])
    clear h2
    go_enter Tryz.func128, Tryz.ntmps128
    go_wp2
    go_ret
    exact ⟨ret_bool Hf.out.symm, belA (bel0 w) _⟩
   ·have Hf := Lib.hid (show lessB ⟨h, i, s, d⟩ x y = false by simp [lessB]; omega)
    clear h2
    go_enter Tryz.func128, Tryz.ntmps128
    go_wp2
    go_ret
    exact ⟨ret_bool Hf.out.symm, belA (bel0 w) _⟩
  ·have h2' : (h == x) = false := by simp [h2]
   have Hf := Lib.hid (show lessB ⟨h, i, s, d⟩ x y = false by simp [lessB]; omega)
   clear h2
   go_enter Tryz.func128, Tryz.ntmps128
   go_wp2
   go_ret
   exact ⟨ret_bool Hf.out.symm, belA (bel0 w) _⟩

theorem find_hit {p : EntD -> Bool} {a r : List EntD} {x : EntD} (h : a.find? p = none) (hx : p x = true) : (a ++ x :: r).find? p = some x := by rw [List.find?_append, h]; simp [hx]
theorem find_miss {p : EntD -> Bool} {a : List EntD} {x : EntD} (h : a.find? p = none) (hx : p x = false) : (a ++ [x]).find? p = none := by rw [List.find?_append, h]; simp [hx]

end Go.Proofs.YtjjniapamdleoaaGreatDoor
