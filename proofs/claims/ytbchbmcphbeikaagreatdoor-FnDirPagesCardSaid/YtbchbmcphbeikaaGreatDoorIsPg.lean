/- Rows of entries and pages of them, as values of a law's walk. -/
import Derived.Test.YtbchbmcphbeikaaGreatDoorPages
namespace Go.Proofs.YtbchbmcphbeikaaGreatDoor
open Go Go.RowKit

/-- A value is a row of these entries. -/
def IsS (w : World) (v : Value) (xs : List EntD) : Prop := ∃ A c, v = .slice A xs.length c ∧ Reads w w.heap.size 4 A xs.length (ES xs)
theorem IsS.next {w w' : World} {v : Value} {xs : List EntD} (h : IsS w v xs) (hb : Below w.heap.size w w') : IsS w' v xs := by
  obtain ⟨A, c, h1, h2⟩ := h
  exact ⟨A, c, h1, (h2.below hb).more hb.size⟩
theorem Reads.own {w : World} {base : Nat} {e : TypeId} {s n c : Nat} {A : Option Addr} {xs : List Value} (h : w.ownsRow base e s (.slice A n c) n xs) : Reads w w.heap.size s A n xs := by
  obtain ⟨A', c', he, _, _, h⟩ := own_vals h
  simp only [Value.slice.injEq] at he
  obtain ⟨rfl, _, _⟩ := he
  exact h
theorem szS_n (l : List EntD) : l.length ≤ szS l := by unfold szS; omega
theorem szS_mem (l : List EntD) (e : EntD) (h : e ∈ l) : e.s.size ≤ szS l := by
  have : ∀ l : List EntD, e ∈ l → e.s.size ≤ (l.map fun e => e.s.size).sum := by
    intro l
    induction l with
    | nil => intro h; cases h
    | cons a l ih =>
      intro h
      rcases List.mem_cons.1 h with rfl | h
      · simp
      · have := ih h; simp; omega
  have := this l h
  unfold szS; omega
/-- A value is these pages. -/
def IsSS (w : World) (v : Value) (ps : List (List EntD)) : Prop := ∃ A c, v = .slice A ps.length c ∧ PagesAt w w.heap.size A ps.length ps
theorem IsSS.next {w w' : World} {v : Value} {ps : List (List EntD)} (h : IsSS w v ps) (hb : Below w.heap.size w w') : IsSS w' v ps := by
  obtain ⟨A, c, h1, h2⟩ := h
  exact ⟨A, c, h1, (h2.below hb).more hb.size⟩
theorem szSS_len (ps : List (List EntD)) : ps.length ≤ szSS ps := by unfold szSS; omega
theorem small_row {ps : List (List EntD)} (sm : szSS ps ≤ 1048576) : ∀ l ∈ ps, l.length ≤ 10000000 := fun l hl => by have := szSS_row ps l hl; have := szS_len l; omega
theorem szSS_name (ps : List (List EntD)) (e : EntD) (h : e ∈ ps.flatten) : e.s.size ≤ szSS ps := by
  obtain ⟨l, hl, he⟩ := List.mem_flatten.1 h
  have := szSS_row ps l hl
  have := szS_mem l e he
  omega

end Go.Proofs.YtbchbmcphbeikaaGreatDoor
