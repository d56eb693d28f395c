/- Rows of entries and pages of them, as values of a law's walk. -/
import Derived.Test.YtghgafbfpejinaaGreatDoorRBase
namespace Go.Proofs.YtghgafbfpejinaaGreatDoor
open Go Go.RowKit

structure EntD where
 h : Int
 i : Int
 s : ByteArray
 d : Int
def EntD.arr (e : EntD) : Array Value := #[.int .i64 e.h, .int .i64 e.i, .string e.s, .int .i64 e.d]
def EntD.val (e : EntD) : Value := .agg #[.int .i64 e.h, .int .i64 e.i, .string e.s, .int .i64 e.d]
def EntD.cells (e : EntD) : List Value := [.int .i64 e.h, .int .i64 e.i, .string e.s, .int .i64 e.d]
/-- Entries as cells. -/
def ES (l : List EntD) : List Value := l.flatMap EntD.cells
theorem ES_cons (e : EntD) (l : List EntD) : ES (e :: l) = .int .i64 e.h :: .int .i64 e.i :: .string e.s :: .int .i64 e.d :: ES l := rfl
theorem ES_append (a b : List EntD) : ES (a ++ b) = ES a ++ ES b := by simp [ES]
theorem ES_length (l : List EntD) : (ES l).length = l.length * 4 := by
 induction l with
 | nil => rfl
 | cons e l ih => rw [ES_cons]; simp [ih]; omega
theorem ES_get : ∀ (l : List EntD) (k : Nat) (h : k < l.length), (ES l)[k * 4]? = some (.int .i64 l[k].h) ∧ (ES l)[k * 4 + 1]? = some (.int .i64 l[k].i) ∧ (ES l)[k * 4 + 2]? = some (.string l[k].s) ∧ (ES l)[k * 4 + 3]? = some (.int .i64 l[k].d)
 | e :: l, 0, _ => ⟨rfl, rfl, rfl, rfl⟩
 | e :: l, k + 1, h => by
  have := ES_get l k (by simpa using h)
  rw [ES_cons, show (k + 1) * 4 = k * 4 + 1 + 1 + 1 + 1 by omega]
  simpa using this
theorem ES_cells (l : List EntD) : ∀ u ∈ ES l, u.oneCell' = true := by
 induction l with
 | nil => intro u hu; cases hu
 | cons e l ih =>
  intro u hu
  rw [ES_cons] at hu
  simp only [List.mem_cons] at hu
  rcases hu with rfl | rfl | rfl | rfl | hu
  ·rfl
  ·rfl
  ·rfl
  ·rfl
  ·exact ih u hu
theorem flat_addr {w : World} {ad : Addr} {v : Value} (h : w.cell? ad = some v) : ∃ b o, ad = ⟨b, o, none⟩ := by
 obtain ⟨b, o, sp⟩ := ad
 cases sp with
 | none => exact ⟨b, o, rfl⟩
 | some x =>
  simp only [World.cell?] at h
  split at h <;> simp at h
theorem reads_ent {w : World} {B n : Nat} {A : Option Addr} {xs : List EntD} (h : Reads w B 4 A n (ES xs)) {k : Nat} (hk : k < n) :
  ∃ (hk' : k < xs.length) (b o : Nat), A = some ⟨b, o, none⟩ ∧ b < B ∧ w.cell? ⟨b, o + k * 4, none⟩ = some (.int .i64 xs[k].h) ∧ w.cell? ⟨b, o + k * 4 + 1, none⟩ = some (.int .i64 xs[k].i) ∧
   w.cell? ⟨b, o + k * 4 + 2, none⟩ = some (.string xs[k].s) ∧ w.cell? ⟨b, o + k * 4 + 3, none⟩ = some (.int .i64 xs[k].d) := by
 have hl : k < xs.length := by have := h.1; rw [ES_length] at this; omega
 obtain ⟨ad, rfl, hb, hc⟩ := h.2 (by omega)
 obtain ⟨h0, h1, h2, h3⟩ := ES_get xs k hl
 have z0 := hc _ _ h0
 have z1 := hc _ _ h1
 have z2 := hc _ _ h2
 have z3 := hc _ _ h3
 obtain ⟨h00, _⟩ := ES_get xs 0 (by omega)
 have z00 := hc 0 _ h00
 obtain ⟨b, o, hbo⟩ := flat_addr z00
 have hbo' : ad = ⟨b, o, none⟩ := by rw [← hbo]; simp [Addr.add]
 subst hbo'
 have ha : ∀ j, (Addr.add ⟨b, o, none⟩ j) = ⟨b, o + j, none⟩ := fun j => by unfold Addr.add; split <;> simp_all
 rw [ha] at z0 z1 z2 z3
 exact ⟨hl, b, o, rfl, hb, z0, by rw [show o + k * 4 + 1 = o + (k * 4 + 1) by omega]; exact z1, by rw [show o + k * 4 + 2 = o + (k * 4 + 2) by omega]; exact z2, by rw [show o + k * 4 + 3 = o + (k * 4 + 3) by omega]; exact z3⟩

/-- How much entries have of the size. -/
def szS (l : List EntD) : Nat := l.length + (l.map fun e => e.s.size).sum

theorem own_cells4 {w : World} {base : Nat} {e : TypeId} {n g c : Nat} {xs : List Value} (h : w.ownsRow base e 4 (.slice (some ⟨g, 0, none⟩) n c) n xs) (k : Nat) (hk : k < n) :
  (∃ u, w.cell? ⟨g, k * 4, none⟩ = some u) ∧ (∃ u, w.cell? ⟨g, k * 4 + 1, none⟩ = some u) ∧ (∃ u, w.cell? ⟨g, k * 4 + 2, none⟩ = some u) ∧ (∃ u, w.cell? ⟨g, k * 4 + 3, none⟩ = some u) := by
 have hl := h.1
 have f : ∀ i, i < n * 4 → ∃ u, w.cell? ⟨g, i, none⟩ = some u := fun i hi => ⟨xs[i]'(by omega), by rw [h.cellAt i (by omega)]; exact List.getElem?_eq_getElem (by omega)⟩
 exact ⟨f _ (by omega), f _ (by omega), f _ (by omega), f _ (by omega)⟩

theorem own_lt {w : World} {base : Nat} {e : TypeId} {size n g c : Nat} {xs : List Value} (h : w.ownsRow base e size (.slice (some ⟨g, 0, none⟩) n c) n xs) : base ≤ g ∧ g < w.heap.size := by
 obtain ⟨hb, cur, hg, _⟩ := own_some h
 exact ⟨hb, (Array.getElem?_eq_some_iff.1 hg).1⟩
theorem own_same {w w' : World} {base : Nat} {e : TypeId} {size n g c : Nat} {xs : List Value} (h : w.ownsRow base e size (.slice (some ⟨g, 0, none⟩) n c) n xs) (hg : w'.heap[g]? = w.heap[g]?) : w'.ownsRow base e size (.slice (some ⟨g, 0, none⟩) n c) n xs := by
 obtain ⟨hb, cur, hh, hn, hc, hs, ht⟩ := own_some h
 exact ⟨h.1, .inr ⟨g, c, cur, rfl, hb, hg.trans hh, hn, hc, hs, ht⟩⟩
theorem own_cell1 {w : World} {base : Nat} {e : TypeId} {n g c : Nat} {xs : List Value} (h : w.ownsRow base e 1 (.slice (some ⟨g, 0, none⟩) n c) n xs) (k : Nat) (hk : k < n) : ∃ u, w.cell? ⟨g, k, none⟩ = some u := by
 have hl := h.1
 exact ⟨xs[k]'(by omega), by rw [h.cellAt k (by omega)]; exact List.getElem?_eq_getElem (by omega)⟩

/-- A value is a row of these entries. -/
def IsS (w : World) (v : Value) (xs : List EntD) : Prop := ∃ A c, v = .slice A xs.length c ∧ Reads w w.heap.size 4 A xs.length (ES xs)
theorem IsS.next {w w' : World} {v : Value} {xs : List EntD} (h : IsS w v xs) (hb : Below w.heap.size w w') : IsS w' v xs := by
 obtain ⟨A, c, h1, h2⟩ := h
 exact ⟨A, c, h1, (h2.below hb).more hb.size⟩
theorem Reads.own {w : World} {base : Nat} {e : TypeId} {s n c : Nat} {A : Option Addr} {xs : List Value} (h : w.ownsRow base e s (.slice A n c) n xs) : Reads w w.heap.size s A n xs := by
 obtain ⟨A', c', he, _, _, h⟩ := own_vals h
 simp only [Value.slice.injEq] at he
 obtain ⟨rfl, _, _⟩ := he
 exact h
theorem szS_n (l : List EntD) : l.length ≤ szS l := by unfold szS; omega
theorem szS_mem (l : List EntD) (e : EntD) (h : e ∈ l) : e.s.size ≤ szS l := by
 have : ∀ l : List EntD, e ∈ l → e.s.size ≤ (l.map fun e => e.s.size).sum := by
  intro l
  induction l with
  | nil => intro h; cases h
  | cons a l ih =>
   intro h
   rcases List.mem_cons.1 h with rfl | h
   ·simp
   ·have := ih h; simp; omega
 have := this l h
 unfold szS; omega

end Go.Proofs.YtghgafbfpejinaaGreatDoor
