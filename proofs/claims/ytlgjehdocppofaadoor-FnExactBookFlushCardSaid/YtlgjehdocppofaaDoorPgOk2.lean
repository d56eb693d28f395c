/- Whether pages are right, in the reference. -/
import Derived.Test.YtlgjehdocppofaaDoorPgOk
import Derived.BigQuiet
namespace Go.Proofs.YtlgjehdocppofaaDoor
open Go Go.RowKit

/-- What the walk over the entries holds: the last one and whether there was none yet. -/
def Last (b : Bool) (L : EntD) (s : List EntD) : Prop := (b = true ∧ s = []) ∨ (b = false ∧ ∃ s', s = s' ++ [L])
theorem Ord.nil_ : Ord [] := fun i h => absurd h (by simp)
theorem Ord.snoc {s : List EntD} {x : EntD} {b : Bool} {L : EntD} (h : Ord s) (hl : Last b L s) (hx : b = false → behB x L.h L.i = true) : Ord (s ++ [x]) := by
  intro i hi
  rcases hl with ⟨rfl, rfl⟩ | ⟨rfl, s', rfl⟩
  · have : i + 1 < 1 := hi
    omega
  · by_cases h1 : i + 1 < (s' ++ [L]).length
    · have := h i h1
      rw [List.getElem_append_left h1, List.getElem_append_left (show i < (s' ++ [L]).length by omega)]
      exact this
    · have h2 : i = s'.length := by
        have z1 : (s' ++ [L] ++ [x]).length = s'.length + 2 := by simp
        have z2 : (s' ++ [L]).length = s'.length + 1 := by simp
        omega
      subst h2
      have e1 : (s' ++ [L] ++ [x])[s'.length + 1]'hi = x := by simp
      have e2 : (s' ++ [L] ++ [x])[s'.length]'(by simp) = L := by simp
      rw [e1, e2]
      exact hx rfl
theorem Ord.not {s r : List EntD} {x L : EntD} (hl : Last false L s) (hx : behB x L.h L.i = false) : ¬ Ord (s ++ x :: r) := by
  intro h
  rcases hl with ⟨h1, _⟩ | ⟨_, s', rfl⟩
  · cases h1
  · have h1 := h s'.length (by simp)
    have e1 : (s' ++ [L] ++ x :: r)[s'.length + 1]'(by simp) = x := by simp
    have e2 : (s' ++ [L] ++ x :: r)[s'.length]'(by simp) = L := by simp
    rw [e1, e2, hx] at h1
    cases h1
theorem Last.snoc (s : List EntD) (x : EntD) : Last false x (s ++ [x]) := .inr ⟨rfl, s, rfl⟩
theorem flat_at (ps : List (List EntD)) (j k : Nat) (hj : j < ps.length) (hk : k < ps[j].length) : ∃ r, ps.flatten = ((ps.take j).flatten ++ ps[j].take k) ++ ps[j][k] :: r := by
  refine ⟨ps[j].drop (k + 1) ++ (ps.drop (j + 1)).flatten, ?_⟩
  conv => lhs; rw [← List.take_append_drop j ps, List.flatten_append, List.drop_eq_getElem_cons hj, List.flatten_cons]
  have h0 : ps[j] = ps[j].take k ++ ps[j][k] :: ps[j].drop (k + 1) := by rw [← List.drop_eq_getElem_cons hk, List.take_append_drop]
  have h1 : ∀ r : List EntD, ps[j] ++ r = ps[j].take k ++ ps[j][k] :: (ps[j].drop (k + 1) ++ r) := fun r => (congrArg (· ++ r) h0).trans (by rw [List.append_assoc, List.cons_append])
  rw [h1, List.append_assoc]

end Go.Proofs.YtlgjehdocppofaaDoor
