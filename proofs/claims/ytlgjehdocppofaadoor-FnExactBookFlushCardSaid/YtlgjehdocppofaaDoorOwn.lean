/- Words for rows of one's own and for blocks. -/
import Derived.Test.YtlgjehdocppofaaDoorScan
namespace Go.Proofs.YtlgjehdocppofaaDoor
open Go Go.RowKit

theorem Blk.get {w : World} {g : Nat} {t : TypeId} {cs : Array Value} {x : Value} (h : Blk w g t cs) (i : Nat) (hx : cs[i]? = some x) : w.cell? ⟨g, i, none⟩ = some x := (h.cell i).trans hx
theorem Blk.new' (w : World) (t : TypeId) (cs : Array Value) (g : Nat) (hg : g = w.heap.size := by simp) : Blk (w.alloc (.cells cs t)) g t cs := by subst hg; exact Blk.new w t cs
theorem Blk.put {w : World} {g : Nat} {t : TypeId} {cs : Array Value} (h : Blk w g t cs) (i : Nat) (u : Value) (cs' : Array Value) (hc : cs.setIfInBounds i u = cs') : Blk (w.setCell ⟨g, i, none⟩ u) g t cs' := hc ▸ h.set_ i u
theorem scN_le (s : ByteArray) (b : Bool) : (scN s b).2.1.size ≤ s.size := by
  unfold scN; split
  · exact Nat.le_refl _
  · simp only [dropB_size]; omega
theorem dropB_dropB (s : ByteArray) (a b : Nat) : dropB (dropB s a) b = dropB s (a + b) := bytes_ext (by simp only [dropB_list, List.drop_drop])
theorem belG {a W w1 : World} {g : Nat} (h : Below a.heap.size a W) (hg : W.grownBy w1 (some g)) (hgb : a.heap.size ≤ g) : Below a.heap.size a w1 :=
  h.grown hg h.size (fun k hk => by injection hk with hk; omega)
theorem belC {a W : World} (h : Below a.heap.size a W) (g o : Nat) (hg : a.heap.size ≤ g) (u : Value) : Below a.heap.size a (W.setCell ⟨g, o, none⟩ u) := h.setCell (p := ⟨g, o, none⟩) hg u
theorem not_empty (s : ByteArray) (h : 0 < s.size) : s.toList.isEmpty = false := by
  rw [ByteArray.toList_eq]
  cases hl : s.data.toList with
  | nil => have := size_list s; rw [hl] at this; simp at this; omega
  | cons => rfl
theorem own_vals {w : World} {base : Nat} {e : TypeId} {size n : Nat} {v : Value} {xs : List Value} (h : w.ownsRow base e size v n xs) : ∃ A c, v = .slice A n c ∧ n ≤ c ∧ c ≤ maxLen ∧ Reads w w.heap.size size A n xs := by
  rcases h.2 with ⟨rfl, rfl⟩ | ⟨g, cap, cur, rfl, _, _, hc, hm, _⟩
  · exact ⟨none, 0, rfl, Nat.le_refl _, Nat.zero_le _, by have := h.1; simp at this; subst this; exact Reads.none_⟩
  · exact ⟨_, cap, rfl, hc, hm, Reads.of_own h⟩
theorem own_some {w : World} {base : Nat} {e : TypeId} {size n g c : Nat} {xs : List Value} (h : w.ownsRow base e size (.slice (some ⟨g, 0, none⟩) n c) n xs) :
    base ≤ g ∧ ∃ cur, w.heap[g]? = some (.cells cur e (0, 0)) ∧ n ≤ c ∧ c ≤ maxLen ∧ cur.size = c * size ∧ cur.toList.take (n * size) = xs := by
  rcases h.2 with ⟨h', _⟩ | ⟨g', cap, cur, h', hb, hg, hn, hc, hs, ht⟩
  · cases h'
  · simp only [Value.slice.injEq, Option.some.injEq, Addr.mk.injEq, and_true, true_and] at h'
    obtain ⟨rfl, rfl⟩ := h'
    exact ⟨hb, cur, hg, hn, hc, hs, ht⟩
theorem own_frozen {w : World} {base : Nat} {e : TypeId} {size n g c : Nat} {xs : List Value} (h : w.ownsRow base e size (.slice (some ⟨g, 0, none⟩) n c) n xs) (k : Nat) : w.frozen? ⟨g, k, none⟩ = false := by
  obtain ⟨_, cur, hg, _⟩ := own_some h
  simp [World.frozen?, hg]
theorem own_set {w : World} {base : Nat} {e : TypeId} {size n g c : Nat} {xs : List Value} (h : w.ownsRow base e size (.slice (some ⟨g, 0, none⟩) n c) n xs) (k : Nat) (u : Value) :
    (w.setCell ⟨g, k, none⟩ u).ownsRow base e size (.slice (some ⟨g, 0, none⟩) n c) n (xs.set k u) := by
  obtain ⟨hb, cur, hg, hn, hc, hs, ht⟩ := own_some h
  refine ⟨by rw [List.length_set]; exact h.1, .inr ⟨g, c, cur.setIfInBounds k u, rfl, hb, by simp [World.setCell, Array.getElem?_modify, hg], hn, hc, by simpa using hs, ?_⟩⟩
  rw [Array.toList_setIfInBounds, List.take_set, ht]
/-- The first so many of a row of one's own. -/
theorem own_pre {w : World} {base : Nat} {e : TypeId} {n g c : Nat} {xs : List Value} (h : w.ownsRow base e 1 (.slice (some ⟨g, 0, none⟩) n c) n xs) (m : Nat) (hm : m ≤ n) :
    w.ownsRow base e 1 (.slice (some ⟨g, 0, none⟩) m c) m (xs.take m) := by
  obtain ⟨hb, cur, hg, hn, hc, hs, ht⟩ := own_some h
  have h1 := h.1
  refine ⟨by rw [List.length_take]; omega, .inr ⟨g, c, cur, rfl, hb, hg, by omega, hc, hs, ?_⟩⟩
  rw [← ht, List.take_take]; congr 1; omega
theorem own_form1 {w : World} {base : Nat} {e : TypeId} {size n : Nat} {v : Value} {xs : List Value} (h : w.ownsRow base e size v n xs) (hn : 0 < n) : ∃ g c, v = .slice (some ⟨g, 0, none⟩) n c := by
  obtain ⟨g, c, h1, _⟩ := h.form hn
  exact ⟨g, c, h1⟩
theorem only_sc {a w : World} {g : Nat} (h : a.grownBy w (some g)) (k : Nat) (u : Value) : a.grownBy (w.setCell ⟨g, k, none⟩ u) (some g) := only_setCell (p := ⟨g, k, none⟩) h (.inl rfl) u
theorem gb_below {a w w1 : World} {g : Nat} (h : a.grownBy w (some g)) (hb : Below w.heap.size w w1) : a.grownBy w1 (some g) :=
  ⟨hb.os.trans h.os, hb.tape.trans h.tape, hb.output.trans h.output, Nat.le_trans h.size hb.size, fun i hi hn => (hb.block i (Nat.lt_of_lt_of_le hi h.size)).trans (h.block i hi hn)⟩
theorem ret_bool {a b : Bool} (h : a = b) : Ending.returned (.bool a) = .returned (.bool b) := by rw [h]

end Go.Proofs.YtlgjehdocppofaaDoor
