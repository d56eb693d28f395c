/- Rows of texts: sizes, copies, what a law's argument of them is. -/
import Derived.Test.YtbchbmcphbeikaaGreatDoorStrs
import Derived.Test.YtbchbmcphbeikaaGreatDoorFrame
import Derived.Deep.Slices
namespace Go.Proofs.YtbchbmcphbeikaaGreatDoor
open Go Go.RowKit Go.WideShapes Go.ChangeShapes Go.Deep

/-- How much texts have of the size. -/
def szT (l : List ByteArray) : Nat := l.length + (l.map fun e => e.size).sum
theorem szT_len (l : List ByteArray) : l.length ≤ szT l := by unfold szT; omega
theorem szT_mem (l : List ByteArray) (s : ByteArray) (h : s ∈ l) : s.size ≤ szT l := by
  have : ∀ (l : List ByteArray), s ∈ l → s.size ≤ (l.map fun e => e.size).sum := by
    intro l
    induction l with
    | nil => intro h; cases h
    | cons a l ih =>
      intro h
      rcases List.mem_cons.1 h with rfl | h
      · simp
      · have := ih h; simp; omega
  have := this l h
  unfold szT; omega

theorem make_any {P : Program} (t e : TypeId) (z : Value) (size bytes : Nat) (ht : P.underlying t = some (.slice e)) (hinfo : (P.info? e).map (fun i => (i.zero, i.size, i.bytes)) = some (some z, size, bytes))
    (n : Nat) (hbytes : bytes * n ≤ 281474976710656) (h63 : n ≤ 9223372036854775807) (w : World) :
    (Instr.makeSlice t (.int .i64 (n : Int)) (.int .i64 (n : Int))).run P w = .ok (.slice (some ⟨w.heap.size, 0, none⟩) n n) (w.alloc (.cells (madeCells z.cells (n * size)) e)) := by
  obtain ⟨i, hi, hzz⟩ := Option.map_eq_some_iff.1 hinfo
  simp only [Prod.mk.injEq] at hzz
  obtain ⟨hz, hs, hb⟩ := hzz
  have hb' : (i.bytes : Int) * (n : Int) ≤ 281474976710656 := by
    have h : ((i.bytes * n : Nat) : Int) ≤ 281474976710656 := by rw [hb]; omega
    rwa [Int.natCast_mul] at h
  have hr := run_make (P := P) w t e i z ht hi hz .i64 .i64 n n (by omega) (Int.le_refl _) hb' (by omega)
  simp only [Int.toNat_natCast, hs] at hr
  exact hr
theorem own_make (w : World) (z : Array Value) (e : TypeId) (n size : Nat) (hn : n ≤ maxLen) :
    (w.alloc (.cells (madeCells z (n * size)) e)).ownsRow w.heap.size e size (.slice (some ⟨w.heap.size, 0, none⟩) n n) n (madeCells z (n * size)).toList :=
  World.ownsRow_lit w (madeCells z (n * size)) n (Nat.le_refl _) hn (by rw [size_madeCells])
theorem own_cel {w : World} {base : Nat} {e : TypeId} {n g c : Nat} {xs : List Value} (h : w.ownsRow base e 1 (.slice (some ⟨g, 0, none⟩) n c) n xs) (k : Nat) (hk : k < n) : ∃ u, w.cell? ⟨g, k, none⟩ = some u := by
  have hl := h.1
  exact ⟨xs[k]'(by omega), by rw [h.cellAt k (by omega)]; exact List.getElem?_eq_getElem (by omega)⟩
theorem set_md {α : Type} (l xs : List α) (j : Nat) (u : α) (h : l.length = j) (hj : j < xs.length) : (l ++ xs.drop j).set j u = l ++ [u] ++ xs.drop (j + 1) := by
  rw [List.set_append_right _ _ (by omega), h, Nat.sub_self, List.drop_eq_getElem_cons hj, List.set_cons_zero, List.append_assoc]; rfl

theorem Tryz.onc9 : Tryz.prog.cellsOf 9 = 1 := by kernel_rfl
section
variable {H : Type} {enc : TypeId × Value → H} {w : World} {base : Nat} {spare : Nat → Bool} {held : Bool}
set_option maxRecDepth 100000 in
theorem open_strs {fuel : Nat} {cs : List Value} {x : DataW H × List MemPlace} (h : DataW.trod enc Tryz.prog w base spare held fuel 63 cs = some x) :
    ∃ (A : Option Addr) (c : Nat) (l : List ByteArray), cs = [.slice A l.length c] ∧ Reads w w.heap.size 1 A l.length (SS l) ∧ l.length ≤ 9223372036854775807 ∧ ∀ e ∈ l, e.size ≤ 9223372036854775807 := by
  rcases open_slice1 Tryz.underlying63 Tryz.onc9 h with ⟨rfl, _⟩ | ⟨a, len, cap, m, n', V, D, Pl, rfl, hb, hl, hm, hmm, _, hi⟩
  · exact ⟨none, 0, [], rfl, Reads.none_, by simp, by simp⟩
  · have hlm : len ≤ m := by rw [hmm]; split <;> omega
    have each : ∀ i, ∃ s : ByteArray, i < len → V i = .string s ∧ s.size ≤ 9223372036854775807 := by
      intro i
      by_cases hil : i < len
      · obtain ⟨x0, e0, _, w0⟩ := DataW.trod_string Tryz.underlying9 (hi i (by omega)).2
        simp at e0
        unfold maxLen at w0
        exact ⟨x0, fun _ => ⟨e0, by omega⟩⟩
      · exact ⟨⟨#[]⟩, fun h => absurd h hil⟩
    obtain ⟨E, hE⟩ := Classical.skolem.1 each
    have hlen : ((List.range len).map E).length = len := by simp
    refine ⟨some a, cap, (List.range len).map E, by rw [hlen], ⟨by rw [SS_length, Nat.mul_one], fun hn => ⟨a, rfl, ?_, fun j u hu => ?_⟩⟩, by rw [hlen]; unfold maxLen at hm; omega, ?_⟩
    · have := World.block_lt_of_cell? _ _ (hi 0 (by omega)).1
      rwa [block_of_add] at this
    · have hj : j < len := by
        have := (List.getElem?_eq_some_iff.1 hu).1
        rw [SS_length, hlen] at this
        exact this
      rw [(hi j (by omega)).1, (hE j hj).1]
      unfold SS at hu
      rw [List.getElem?_map, List.getElem?_map, List.getElem?_range hj] at hu
      simpa using hu
    · intro e he
      obtain ⟨i, hi', rfl⟩ := List.mem_map.1 he
      exact (hE i (List.mem_range.1 hi')).2
end

end Go.Proofs.YtbchbmcphbeikaaGreatDoor
