/- Rows of entries and pages of them, as values of a law's walk. -/
import Derived.Test.YthdbomkddpnhaaaGreatDoorPPages
namespace Go.Proofs.YthdbomkddpnhaaaGreatDoor
open Go Go.RowKit

theorem Reads.own {w : World} {base : Nat} {e : TypeId} {s n c : Nat} {A : Option Addr} {xs : List Value} (h : w.ownsRow base e s (.slice A n c) n xs) : Reads w w.heap.size s A n xs := by
 obtain ⟨A', c', he, _, _, h⟩ := own_vals h
 simp only [Value.slice.injEq] at he
 obtain ⟨rfl, _, _⟩ := he
 exact h
theorem szS_n (l : List EntD) : l.length ≤ szS l := by unfold szS; omega
theorem szS_mem (l : List EntD) (e : EntD) (h : e ∈ l) : e.s.size ≤ szS l := by
 have : ∀ l : List EntD, e ∈ l → e.s.size ≤ (l.map fun e => e.s.size).sum := by
  intro l
  induction l with
  | nil => intro h; cases h
  | cons a l ih =>
   intro h
   rcases List.mem_cons.1 h with rfl | h
   ·simp
   ·have := ih h; simp; omega
 have := this l h
 unfold szS; omega

end Go.Proofs.YthdbomkddpnhaaaGreatDoor

