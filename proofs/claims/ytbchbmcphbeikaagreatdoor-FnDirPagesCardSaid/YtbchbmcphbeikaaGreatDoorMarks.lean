/- Marks in rows of entries and in pages. -/
import Derived.Test.YtbchbmcphbeikaaGreatDoorPages
import Derived.Test.YtbchbmcphbeikaaGreatDoorStrs
import Derived.Test.YtbchbmcphbeikaaGreatDoorPgOk
namespace Go.Proofs.YtbchbmcphbeikaaGreatDoor
open Go Go.RowKit

/-- So many marked entries from a number on. -/
def markD (k : Int) : EntD := ⟨k, k + 1, markB (k + 1 + 1), k + 1 + 1 + 1⟩
def marksD (k : Int) (n : Nat) : List EntD := (List.range n).map fun (j : Nat) => markD (k + 4 * (j : Int))
theorem marksD_len (k : Int) (n : Nat) : (marksD k n).length = n := by simp [marksD]
theorem marksD_get (k : Int) (n j : Nat) (h : j < n) : (marksD k n)[j]'(by rw [marksD_len]; exact h) = markD (k + 4 * (j : Int)) := by simp [marksD]
theorem marksD_succ (k : Int) (n : Nat) : marksD k (n + 1) = marksD k n ++ [markD (k + 4 * (n : Int))] := by simp [marksD, List.range_succ]

theorem ES_set4 {n k : Nat} (l : List EntD) (xs : List Value) (x : EntD) (hk : l.length = k) (hx : k < n) (hxs : xs.length = n * 4) :
    ((((ES l ++ xs.drop (k * 4)).set (k * 4) (.int .i64 x.h)).set (k * 4 + 1) (.int .i64 x.i)).set (k * 4 + 2) (.string x.s)).set (k * 4 + 3) (.int .i64 x.d) = ES (l ++ [x]) ++ xs.drop ((k + 1) * 4) := by
  subst hk
  obtain ⟨a, b, c, d, r, hr⟩ : ∃ a b c d r, xs.drop (l.length * 4) = a :: b :: c :: d :: r := by
    have : 4 ≤ (xs.drop (l.length * 4)).length := by rw [List.length_drop]; omega
    match hh : xs.drop (l.length * 4), this with
    | a :: b :: c :: d :: r, _ => exact ⟨a, b, c, d, r, rfl⟩
  have hd : xs.drop ((l.length + 1) * 4) = r := by
    rw [show (l.length + 1) * 4 = l.length * 4 + 4 by omega, ← List.drop_drop, hr]; rfl
  rw [hd, hr, ES_append, show ES [x] = [.int .i64 x.h, .int .i64 x.i, .string x.s, .int .i64 x.d] from rfl]
  have hz : l.length * 4 = (ES l).length := (ES_length l).symm
  rw [hz]
  simp

/-- Only blocks between two marks have turned. -/
structure Betw (lo hi : Nat) (w w' : World) : Prop where
  os : w'.os = w.os
  tape : w'.tape = w.tape
  output : w'.output = w.output
  size : w.heap.size ≤ w'.heap.size
  block : ∀ i, i < w.heap.size → (i < lo ∨ hi ≤ i) → w'.heap[i]? = w.heap[i]?
theorem Betw.refl (lo hi : Nat) (w : World) : Betw lo hi w w := ⟨rfl, rfl, rfl, Nat.le_refl _, fun _ _ _ => rfl⟩
theorem Betw.grown {lo hi g : Nat} {w wr w' : World} (h : Betw lo hi w wr) (hg : wr.grownBy w' (some g)) (h1 : lo ≤ g) (h2 : g < hi) : Betw lo hi w w' :=
  ⟨hg.os.trans h.os, hg.tape.trans h.tape, hg.output.trans h.output, Nat.le_trans h.size hg.size, fun i hi' ho => (hg.block i (Nat.lt_of_lt_of_le hi' h.size) (fun e => by injection e with e; omega)).trans (h.block i hi' ho)⟩
theorem Betw.below {lo hi : Nat} {w w' : World} (h : Betw lo hi w w') (hl : lo ≤ w.heap.size) : Below lo w w' := ⟨h.os, h.tape, h.output, h.size, fun i hi' => h.block i (by omega) (.inl hi')⟩
theorem own_betw {lo hi : Nat} {w w' : World} {base : Nat} {e : TypeId} {size n : Nat} {v : Value} {xs : List Value} (h : w.ownsRow base e size v n xs) (hb : Betw lo hi w w') (hg : ∀ g, v.ownBlock = some g → g < lo ∨ hi ≤ g) : w'.ownsRow base e size v n xs := by
  obtain ⟨h1, h2⟩ := h
  refine ⟨h1, ?_⟩
  rcases h2 with h2 | ⟨g, cap, cur, rfl, hg', hh, r⟩
  · exact .inl h2
  · exact .inr ⟨g, cap, cur, rfl, hg', (hb.block g (Array.getElem?_eq_some_iff.1 hh).1 (hg g (by simp [Value.ownBlock]))).trans hh, r⟩
theorem own_grown {w w' : World} {base : Nat} {e : TypeId} {size n g g' c : Nat} {xs : List Value} (h : w.ownsRow base e size (.slice (some ⟨g, 0, none⟩) n c) n xs) (hg : w.grownBy w' (some g')) (hne : g ≠ g') : w'.ownsRow base e size (.slice (some ⟨g, 0, none⟩) n c) n xs :=
  own_same h (hg.block g (own_lt h).2 (fun e => hne (by injection e)))

theorem own_apart {w w' : World} {b e' : Nat} {e : TypeId} {s s' n n' : Nat} {v v' : Value} {xs xs' : List Value} (h : w.ownsRow b e s v n xs) (h' : w'.ownsRow w.heap.size e' s' v' n' xs') : v.ownBlock = none ∨ v.ownBlock ≠ v'.ownBlock := by
  cases hv : v.ownBlock with
  | none => exact .inl rfl
  | some k =>
    refine .inr fun e => ?_
    have h1 := h.lt k hv
    have h2 := h'.lt k e.symm
    omega
theorem own_reads {w : World} {b : Nat} {e : TypeId} {s n c : Nat} {A : Option Addr} {xs : List Value} (h : w.ownsRow b e s (.slice A n c) n xs) : Reads w w.heap.size s A n xs := by
  obtain ⟨A', c', he, _, _, h⟩ := own_vals h
  simp only [Value.slice.injEq] at he
  obtain ⟨rfl, _, _⟩ := he
  exact h

end Go.Proofs.YtbchbmcphbeikaaGreatDoor
