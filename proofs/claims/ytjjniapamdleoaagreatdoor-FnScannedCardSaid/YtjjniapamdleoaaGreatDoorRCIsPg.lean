/- Rows of entries and pages of them, as values of a law's walk. -/
import Derived.Test.YtjjniapamdleoaaGreatDoorRCEnts
namespace Go.Proofs.YtjjniapamdleoaaGreatDoor
open Go Go.RowKit

theorem sum_mem {α : Type} (f : α -> Nat) : ∀ (l : List α) (x : α), x ∈ l -> f x <= (l.map f).sum
 | a :: l, x, h => by
  rcases List.mem_cons.1 h with rfl | h
  ·simp
  ·have := sum_mem f l x h
   simp; omega
theorem own_lt {w : World} {base : Nat} {e : TypeId} {size n g c : Nat} {xs : List Value} (h : w.ownsRow base e size (.slice (some ⟨g, 0, none⟩) n c) n xs) : base <= g /\ g < w.heap.size := by
 obtain ⟨hb, cur, hg, _⟩ := own_some h
 exact ⟨hb, (Array.getElem?_eq_some_iff.1 hg).1⟩
theorem own_same {w w' : World} {base : Nat} {e : TypeId} {size n g c : Nat} {xs : List Value} (h : w.ownsRow base e size (.slice (some ⟨g, 0, none⟩) n c) n xs) (hg : w'.heap[g]? = w.heap[g]?) : w'.ownsRow base e size (.slice (some ⟨g, 0, none⟩) n c) n xs := by
 obtain ⟨hb, cur, hh, hn, hc, hs, ht⟩ := own_some h
 exact ⟨h.1, .inr ⟨g, c, cur, rfl, hb, hg.trans hh, hn, hc, hs, ht⟩⟩
theorem own_cell1 {w : World} {base : Nat} {e : TypeId} {n g c : Nat} {xs : List Value} (h : w.ownsRow base e 1 (.slice (some ⟨g, 0, none⟩) n c) n xs) (k : Nat) (hk : k < n) : ∃ u, w.cell? ⟨g, k, none⟩ = some u := by
 have hl := h.1
 exact ⟨xs[k]'(by omega), by rw [h.cellAt k (by omega)]; exact List.getElem?_eq_getElem (by omega)⟩

theorem Reads.own {w : World} {base : Nat} {e : TypeId} {s n c : Nat} {A : Option Addr} {xs : List Value} (h : w.ownsRow base e s (.slice A n c) n xs) : Reads w w.heap.size s A n xs := by
 obtain ⟨A', c', he, _, _, h⟩ := own_vals h
 simp only [Value.slice.injEq] at he
 obtain ⟨rfl, _, _⟩ := he
 exact h
theorem szS_n (l : List EntD) : l.length <= szS l := by unfold szS; omega
theorem szS_mem (l : List EntD) (e : EntD) (h : e ∈ l) : e.s.size <= szS l := by
 have : ∀ l : List EntD, e ∈ l -> e.s.size <= (l.map fun e => e.s.size).sum := by
  intro l
  induction l with
  | nil => intro h; cases h
  | cons a l ih =>
   intro h
   rcases List.mem_cons.1 h with rfl | h
   ·simp
   ·have := ih h; simp; omega
 have := this l h
 unfold szS; omega

end Go.Proofs.YtjjniapamdleoaaGreatDoor
