/- Whether pages are right, in the program. -/
import Derived.Test.YtlgjehdocppofaaDoorPages
namespace Go.Proofs.YtlgjehdocppofaaDoor
open Go Go.RowKit

theorem Tryd.el_ent : ElemOk Tryd.prog 24 93 (.agg #[.int .i64 0, .int .i64 0, .string ⟨#[]⟩, .int .i64 0]) 4 40 := ⟨Tryd.underlying24, by kernel_rfl, rfl, by omega⟩

/-- An entry stands behind a place; ahead of it. -/
def behB (e : EntD) (h i : Int) : Bool := decide (h < e.h) || (decide (e.h = h) && decide (i < e.i))
def lessB (e : EntD) (h i : Int) : Bool := decide (e.h < h) || (decide (e.h = h) && decide (e.i < i))
theorem less_beh (a b : EntD) : lessB a b.h b.i = behB b a.h a.i := by
  unfold lessB behB
  rw [show (decide (a.h = b.h)) = decide (b.h = a.h) from by simp [eq_comm]]

set_option maxHeartbeats 1000000 in
theorem isBehind_any (e : EntD) (x y : Int) (w : World) :
    Calls Tryd.prog 132 #[e.val, .int .i64 x, .int .i64 y] w fun r w' => r = .returned (.bool (behB e x y)) ∧ Below w.heap.size w w' := by
  obtain ⟨h, i, s, d⟩ := e
  simp only [EntD.val]
  by_cases h1 : x < h
  · have Hf := Lib.hid (show behB ⟨h, i, s, d⟩ x y = true by simp [behB, h1])
    go_enter Tryd.func132, Tryd.ntmps132
    go_wp2
    go_ret
    exact ⟨ret_bool Hf.out.symm, belA (bel0 w) _⟩
  · by_cases h2 : h = x
    · have h2' : (h == x) = true := by simp [h2]
      by_cases h3 : y < i
      · have Hf := Lib.hid (show behB ⟨h, i, s, d⟩ x y = true by simp [behB, h2, h3])
        clear h2
        go_enter Tryd.func132, Tryd.ntmps132
        go_wp2
        go_ret
        exact ⟨ret_bool Hf.out.symm, belA (bel0 w) _⟩
      · have Hf := Lib.hid (show behB ⟨h, i, s, d⟩ x y = false by simp [behB]; omega)
        clear h2
        go_enter Tryd.func132, Tryd.ntmps132
        go_wp2
        go_ret
        exact ⟨ret_bool Hf.out.symm, belA (bel0 w) _⟩
    · have h2' : (h == x) = false := by simp [h2]
      have Hf := Lib.hid (show behB ⟨h, i, s, d⟩ x y = false by simp [behB]; omega)
      clear h2
      go_enter Tryd.func132, Tryd.ntmps132
      go_wp2
      go_ret
      exact ⟨ret_bool Hf.out.symm, belA (bel0 w) _⟩

set_option maxHeartbeats 1000000 in
theorem l5Less_any (e : EntD) (x y : Int) (w : World) :
    Calls Tryd.prog 127 #[e.val, .int .i64 x, .int .i64 y] w fun r w' => r = .returned (.bool (lessB e x y)) ∧ Below w.heap.size w w' := by
  obtain ⟨h, i, s, d⟩ := e
  simp only [EntD.val]
  by_cases h1 : h < x
  · have Hf := Lib.hid (show lessB ⟨h, i, s, d⟩ x y = true by simp [lessB, h1])
    go_enter Tryd.func127, Tryd.ntmps127
    go_wp2
    go_ret
    exact ⟨ret_bool Hf.out.symm, belA (bel0 w) _⟩
  · by_cases h2 : h = x
    · have h2' : (h == x) = true := by simp [h2]
      by_cases h3 : i < y
      · have Hf := Lib.hid (show lessB ⟨h, i, s, d⟩ x y = true by simp [lessB, h2, h3])
        clear h2
        go_enter Tryd.func127, Tryd.ntmps127
        go_wp2
        go_ret
        exact ⟨ret_bool Hf.out.symm, belA (bel0 w) _⟩
      · have Hf := Lib.hid (show lessB ⟨h, i, s, d⟩ x y = false by simp [lessB]; omega)
        clear h2
        go_enter Tryd.func127, Tryd.ntmps127
        go_wp2
        go_ret
        exact ⟨ret_bool Hf.out.symm, belA (bel0 w) _⟩
    · have h2' : (h == x) = false := by simp [h2]
      have Hf := Lib.hid (show lessB ⟨h, i, s, d⟩ x y = false by simp [lessB]; omega)
      clear h2
      go_enter Tryd.func127, Tryd.ntmps127
      go_wp2
      go_ret
      exact ⟨ret_bool Hf.out.symm, belA (bel0 w) _⟩

/-- A page of so many is right. -/
def pgB (m : Nat) (l : List EntD) : Bool := inI l.length 1 4 && !(decide (1 < m) && decide (l.length < 2))
/-- Entries stand in order. -/
def Ord (l : List EntD) : Prop := ∀ (i : Nat) (h : i + 1 < l.length), behB l[i + 1] l[i].h l[i].i = true
def OkP (ps : List (List EntD)) : Prop := ps.length ≤ 8 ∧ (∀ l ∈ ps, pgB ps.length l = true) ∧ Ord ps.flatten
noncomputable def okPB (ps : List (List EntD)) : Bool := @decide (OkP ps) (Classical.propDecidable _)
theorem okPB_iff {ps : List (List EntD)} : okPB ps = true ↔ OkP ps := @decide_eq_true_iff _ (Classical.propDecidable _)
theorem okPB_true {ps : List (List EntD)} (h : OkP ps) : okPB ps = true := okPB_iff.2 h
theorem okPB_false {ps : List (List EntD)} (h : ¬ OkP ps) : okPB ps = false := by
  cases hb : okPB ps with
  | false => rfl
  | true => exact absurd (okPB_iff.1 hb) h
theorem flat_take_succ (ps : List (List EntD)) (j : Nat) (h : j < ps.length) : (ps.take (j + 1)).flatten = (ps.take j).flatten ++ ps[j] := by
  rw [List.take_succ_eq_append_getElem h, List.flatten_append]; simp
theorem flat_take_le (ps : List (List EntD)) (j : Nat) : (ps.take j).flatten.length ≤ ps.flatten.length := by
  conv => rhs; rw [← List.take_append_drop j ps, List.flatten_append, List.length_append]
  omega

end Go.Proofs.YtlgjehdocppofaaDoor
