/- Pages of entries: copies, sizes, equality; whether they are right, in both packages. -/
import Derived.Test.YthdbomkddpnhaaaGreatDoorPEnts
namespace Go.Proofs.YthdbomkddpnhaaaGreatDoor
open Go Go.RowKit

theorem sum_mem {α : Type} (f : α → Nat) : ∀ (l : List α) (x : α), x ∈ l → f x ≤ (l.map f).sum
 | a :: l, x, h => by
  rcases List.mem_cons.1 h with rfl | h
  ·simp
  ·have := sum_mem f l x h
   simp; omega
theorem own_lt {w : World} {base : Nat} {e : TypeId} {size n g c : Nat} {xs : List Value} (h : w.ownsRow base e size (.slice (some ⟨g, 0, none⟩) n c) n xs) : base ≤ g ∧ g < w.heap.size := by
 obtain ⟨hb, cur, hg, _⟩ := own_some h
 exact ⟨hb, (Array.getElem?_eq_some_iff.1 hg).1⟩
theorem own_same {w w' : World} {base : Nat} {e : TypeId} {size n g c : Nat} {xs : List Value} (h : w.ownsRow base e size (.slice (some ⟨g, 0, none⟩) n c) n xs) (hg : w'.heap[g]? = w.heap[g]?) : w'.ownsRow base e size (.slice (some ⟨g, 0, none⟩) n c) n xs := by
 obtain ⟨hb, cur, hh, hn, hc, hs, ht⟩ := own_some h
 exact ⟨h.1, .inr ⟨g, c, cur, rfl, hb, hg.trans hh, hn, hc, hs, ht⟩⟩
theorem own_cell1 {w : World} {base : Nat} {e : TypeId} {n g c : Nat} {xs : List Value} (h : w.ownsRow base e 1 (.slice (some ⟨g, 0, none⟩) n c) n xs) (k : Nat) (hk : k < n) : ∃ u, w.cell? ⟨g, k, none⟩ = some u := by
 have hl := h.1
 exact ⟨xs[k]'(by omega), by rw [h.cellAt k (by omega)]; exact List.getElem?_eq_getElem (by omega)⟩

end Go.Proofs.YthdbomkddpnhaaaGreatDoor

