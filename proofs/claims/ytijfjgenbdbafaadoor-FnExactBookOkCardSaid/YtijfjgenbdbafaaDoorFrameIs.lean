/- What a law's arguments are, as values of its walk. -/
import Derived.Test.YtijfjgenbdbafaaDoorIsPg
import Derived.Test.YtijfjgenbdbafaaDoorFramePg
namespace Go.Proofs.YtijfjgenbdbafaaDoor
open Go Go.RowKit Go.WideShapes Go.ChangeShapes Go.Deep

section
variable {H : Type} {enc : TypeId × Value → H} {w : World} {base : Nat} {spare : Nat → Bool} {held : Bool}
set_option maxRecDepth 100000 in
theorem open_pages_is {r : Reach} {b0 : Nat} {v : Value} {d : DataW H} {p : List MemPlace} (hv : Value.okWide Tryd.prog w r b0 29 v) (h : DataW.Trod enc Tryd.prog w base spare held 29 v d p) :
    ∃ ps : List (List EntD), (∀ l ∈ ps, l.length ≤ 9223372036854775807 ∧ ∀ e ∈ l, e.s.size ≤ 9223372036854775807) ∧ ps.length ≤ 9223372036854775807 ∧ IsSS w v ps := by
  obtain ⟨A, n, c, ps, rfl, hn, hP, hz⟩ := open_pages hv h
  have hl := hP.len
  subst hl
  exact ⟨ps, hz, hn, A, c, rfl, hP⟩
set_option maxRecDepth 100000 in
theorem open_rows_is {r : Reach} {b0 : Nat} {v : Value} {d : DataW H} {p : List MemPlace} (hv : Value.okWide Tryd.prog w r b0 22 v) (h : DataW.Trod enc Tryd.prog w base spare held 22 v d p) :
    ∃ xs : List EntD, (∀ e ∈ xs, e.s.size ≤ 9223372036854775807) ∧ xs.length ≤ 9223372036854775807 ∧ IsS w v xs := by
  obtain ⟨fuel, hf⟩ := h
  obtain ⟨A, c, l, h1, hP, hn, hz⟩ := open_row hf
  obtain ⟨A2, n2, c2, rfl⟩ := okWide_slice Tryd.underlying22 hv
  simp [Value.cells] at h1
  obtain ⟨rfl, rfl, rfl⟩ := h1
  exact ⟨l, hz, hn, A2, c2, rfl, hP⟩
end

end Go.Proofs.YtijfjgenbdbafaaDoor
