/- What a law's arguments are, as values of its walk. -/
import Derived.Test.YtlgjehdocppofaaDoorIsPg
import Derived.Test.YtlgjehdocppofaaDoorFramePg
namespace Go.Proofs.YtlgjehdocppofaaDoor
open Go Go.RowKit Go.WideShapes Go.ChangeShapes Go.Deep

section
variable {H : Type} {enc : TypeId × Value → H} {w : World} {base : Nat} {spare : Nat → Bool} {held : Bool}
set_option maxRecDepth 100000 in
theorem open_rows_is {r : Reach} {b0 : Nat} {v : Value} {d : DataW H} {p : List MemPlace} (hv : Value.okWide Tryd.prog w r b0 31 v) (h : DataW.Trod enc Tryd.prog w base spare held 31 v d p) :
    ∃ xs : List EntD, (∀ e ∈ xs, e.s.size ≤ 9223372036854775807) ∧ xs.length ≤ 9223372036854775807 ∧ IsS w v xs := by
  obtain ⟨fuel, hf⟩ := h
  obtain ⟨A, c, l, h1, hP, hn, hz⟩ := open_row hf
  obtain ⟨A2, n2, c2, rfl⟩ := okWide_slice Tryd.underlying31 hv
  simp [Value.cells] at h1
  obtain ⟨rfl, rfl, rfl⟩ := h1
  exact ⟨l, hz, hn, A2, c2, rfl, hP⟩
end

end Go.Proofs.YtlgjehdocppofaaDoor
