/- Rows of texts: sizes, copies, what a law's argument of them is. -/
import Derived.Test.YtajgenjfhcapjaaStrs
import Derived.Test.YtajgenjfhcapjaaFrame
import Derived.Deep.Slices
namespace Go.Proofs.Ytajgenjfhcapjaa
open Go Go.RowKit Go.WideShapes Go.ChangeShapes Go.Deep

/-- How much texts have of the size. -/
def szT (l : List ByteArray) : Nat := l.length + (l.map fun e => e.size).sum
theorem szT_len (l : List ByteArray) : l.length ≤ szT l := by unfold szT; omega
theorem szT_mem (l : List ByteArray) (s : ByteArray) (h : s ∈ l) : s.size ≤ szT l := by
  have : ∀ (l : List ByteArray), s ∈ l → s.size ≤ (l.map fun e => e.size).sum := by
    intro l
    induction l with
    | nil => intro h; cases h
    | cons a l ih =>
      intro h
      rcases List.mem_cons.1 h with rfl | h
      · simp
      · have := ih h; simp; omega
  have := this l h
  unfold szT; omega

set_option maxRecDepth 100000 in
set_option maxHeartbeats 1000000 in
theorem szStringS_any (A : Option Addr) (n c : Nat) (xs : List ByteArray) (hz : ∀ e ∈ xs, e.size ≤ 9223372036854775807) (hn : n ≤ 9223372036854775807) (k : Int) (h0 : 0 ≤ k) (hk : k ≤ 1048576) (w : World) (hr : Reads w w.heap.size 1 A n (SS xs)) :
    Calls Try.prog 17 #[.slice A n c, .int .i64 k] w fun e w' => ∃ r : Int, e = .returned (.int .i64 r) ∧ (r < 0 ∨ r = k - szT xs) ∧ Below w.heap.size w w' := by
  have hl : xs.length = n := by have := hr.1; rw [SS_length] at this; omega
  have Hr := Lib.hid hr
  clear hr
  by_cases hb : k - n < 0
  · go_enter Try.func17, Try.ntmps17
    go_wp2
    go_ret
    exact ⟨_, rfl, .inl (by omega), bel0 w⟩
  · go_enter Try.func17, Try.ntmps17
    go_wp2
    go_loopw [1, 5] (fun m i wr => ∃ (j : Nat) (q : Int), j ≤ n ∧ i = .int .i64 j ∧ m = .int .i64 q ∧ 0 ≤ q ∧ q ≤ k ∧ Hid (q + ((xs.take j).map fun e => e.size).sum = k - n) ∧ Below w.heap.size w wr)
      (fun _ i _ => n - (intOf i).toNat)
    case atStart => exact ⟨0, k - n, by omega, rfl, by go_num, by omega, by omega, by simp [Hid], bel0 w⟩
    case round =>
      obtain ⟨j, q, hj, rfl, rfl, hq0, hqk, hsum, hbel⟩ := hrel
      by_cases hlt : j < n
      · obtain ⟨hkx, ad, rfl, hadb, z0⟩ := reads_str (Hr.out.below hbel) hlt
        have q0 : (0 : Int) ≤ ↑j := by omega
        have q1 : (↑j : Int) < ↑n := by omega
        have hzj := hz _ (List.getElem_mem hkx)
        have Hz := Lib.hid hz
        have Hs := Lib.hid (show ((xs.take (j + 1)).map fun e => e.size).sum = ((xs.take j).map fun e => e.size).sum + xs[j].size by
          rw [List.take_succ_eq_append_getElem hkx, List.map_append, List.sum_append]; simp)
        clear hz
        by_cases hneg : q - xs[j].size < 0
        · go_wp2
          go_ret
          exact ⟨_, rfl, .inl (by omega), hbel⟩
        · go_wp2
          go_roundw
          case rel => exact ⟨j + 1, q - xs[j].size, by omega, by go_num, rfl, by omega, by omega, by have := hsum.out; have := Hs.out; show _ = _; omega, hbel⟩
          case measure => simp [intOf]; omega
      · have Hs := Lib.hid (show xs.take j = xs from List.take_of_length_le (by omega))
        go_wp2
        go_ret
        exact ⟨_, rfl, .inr (by have := hsum.out; rw [Hs.out] at this; unfold szT; omega), hbel⟩

theorem make_any {P : Program} (t e : TypeId) (z : Value) (size bytes : Nat) (ht : P.underlying t = some (.slice e)) (hinfo : (P.info? e).map (fun i => (i.zero, i.size, i.bytes)) = some (some z, size, bytes))
    (n : Nat) (hbytes : bytes * n ≤ 281474976710656) (h63 : n ≤ 9223372036854775807) (w : World) :
    (Instr.makeSlice t (.int .i64 (n : Int)) (.int .i64 (n : Int))).run P w = .ok (.slice (some ⟨w.heap.size, 0, none⟩) n n) (w.alloc (.cells (madeCells z.cells (n * size)) e)) := by
  obtain ⟨i, hi, hzz⟩ := Option.map_eq_some_iff.1 hinfo
  simp only [Prod.mk.injEq] at hzz
  obtain ⟨hz, hs, hb⟩ := hzz
  have hb' : (i.bytes : Int) * (n : Int) ≤ 281474976710656 := by
    have h : ((i.bytes * n : Nat) : Int) ≤ 281474976710656 := by rw [hb]; omega
    rwa [Int.natCast_mul] at h
  have hr := run_make (P := P) w t e i z ht hi hz .i64 .i64 n n (by omega) (Int.le_refl _) hb' (by omega)
  simp only [Int.toNat_natCast, hs] at hr
  exact hr
theorem own_make (w : World) (z : Array Value) (e : TypeId) (n size : Nat) (hn : n ≤ maxLen) :
    (w.alloc (.cells (madeCells z (n * size)) e)).ownsRow w.heap.size e size (.slice (some ⟨w.heap.size, 0, none⟩) n n) n (madeCells z (n * size)).toList :=
  World.ownsRow_lit w (madeCells z (n * size)) n (Nat.le_refl _) hn (by rw [size_madeCells])
theorem own_cel {w : World} {base : Nat} {e : TypeId} {n g c : Nat} {xs : List Value} (h : w.ownsRow base e 1 (.slice (some ⟨g, 0, none⟩) n c) n xs) (k : Nat) (hk : k < n) : ∃ u, w.cell? ⟨g, k, none⟩ = some u := by
  have hl := h.1
  exact ⟨xs[k]'(by omega), by rw [h.cellAt k (by omega)]; exact List.getElem?_eq_getElem (by omega)⟩
theorem set_md {α : Type} (l xs : List α) (j : Nat) (u : α) (h : l.length = j) (hj : j < xs.length) : (l ++ xs.drop j).set j u = l ++ [u] ++ xs.drop (j + 1) := by
  rw [List.set_append_right _ _ (by omega), h, Nat.sub_self, List.drop_eq_getElem_cons hj, List.set_cons_zero, List.append_assoc]; rfl

set_option maxRecDepth 100000 in
set_option maxHeartbeats 2000000 in
theorem toStringS_any (A : Option Addr) (n c : Nat) (xs : List ByteArray) (hn : n ≤ 10000000) (w : World) (hr : Reads w w.heap.size 1 A n (SS xs)) :
    Calls Try.prog 28 #[.slice A n c] w fun e w' => e = .returned (.slice (some ⟨w.heap.size, 0, none⟩) n n) ∧ w'.ownsRow w.heap.size 9 1 (.slice (some ⟨w.heap.size, 0, none⟩) n n) n (SS xs) ∧ Below w.heap.size w w' := by
  have hl : xs.length = n := by have := hr.1; rw [SS_length] at this; omega
  have Hr := Lib.hid hr
  clear hr
  have hmk := make_any (P := Try.prog) 23 9 (.string ⟨#[]⟩) 1 16 Try.underlying23 (by kernel_rfl) n (by omega) (by omega)
  have Hown := Lib.hid (own_make w (Value.string ⟨#[]⟩).cells 9 n 1 (by unfold maxLen; omega))
  obtain ⟨M, hM⟩ : ∃ M, madeCells (Value.string ⟨#[]⟩).cells (n * 1) = M := ⟨_, rfl⟩
  rw [hM] at hmk Hown
  clear hM
  have hML : M.toList.length = n := by have := Hown.out.1; omega
  go_enter Try.func28, Try.ntmps28
  go_wp2
  clear hmk
  go_loopw [4] (fun i wr => ∃ (j : Nat), j ≤ n ∧ i = .int .i64 j ∧ wr.ownsRow w.heap.size 9 1 (.slice (some ⟨w.heap.size, 0, none⟩) n n) n (SS (xs.take j) ++ M.toList.drop j) ∧ Below w.heap.size w wr)
    (fun i _ => n - (intOf i).toNat)
  case atStart => exact ⟨0, by omega, rfl, by simpa [SS] using Hown.out, belA (bel0 w) _⟩
  case round =>
    obtain ⟨j, hj, rfl, hown, hbel⟩ := hrel
    by_cases hlt : j < n
    · obtain ⟨hkx, ad, rfl, hadb, z0⟩ := reads_str (Hr.out.below hbel) hlt
      have q0 : (0 : Int) ≤ ↑j := by omega
      have q1 : (↑j : Int) < ↑n := by omega
      obtain ⟨u0, c0⟩ := own_cel hown j hlt
      have f0 := own_frozen hown j
      have hoz : ((xs.take j).length) = j := by rw [List.length_take]; omega
      have own2 := own_set hown j (.string xs[j])
      rw [set_md _ _ _ _ (by rw [SS_length, hoz]) (by omega), show ([Value.string xs[j]] : List Value) = SS [xs[j]] from rfl, ← SS_append, List.take_append_getElem hkx] at own2
      have Own2 := Lib.hid own2
      have ne : ∀ k, (ad.add j) ≠ ⟨w.heap.size, k, none⟩ := fun k e => by
        have := congrArg Addr.block e
        rw [block_of_add] at this
        simp at this; omega
      clear own2 hown
      go_wp2_with fail
      go_roundw
      case rel => exact ⟨j + 1, by omega, by go_num, Own2.out, belC hbel _ _ (Nat.le_refl _) _⟩
      case measure => simp [intOf]; omega
    · obtain rfl : j = n := by omega
      rw [List.drop_eq_nil_of_le (by omega), List.append_nil, List.take_of_length_le (by omega)] at hown
      go_wp2
      go_ret
      exact ⟨rfl, hown, hbel⟩

theorem Try.onc9 : Try.prog.cellsOf 9 = 1 := by kernel_rfl
section
variable {H : Type} {enc : TypeId × Value → H} {w : World} {base : Nat} {spare : Nat → Bool} {held : Bool}
set_option maxRecDepth 100000 in
theorem open_strs {fuel : Nat} {cs : List Value} {x : DataW H × List MemPlace} (h : DataW.trod enc Try.prog w base spare held fuel 23 cs = some x) :
    ∃ (A : Option Addr) (c : Nat) (l : List ByteArray), cs = [.slice A l.length c] ∧ Reads w w.heap.size 1 A l.length (SS l) ∧ l.length ≤ 9223372036854775807 ∧ ∀ e ∈ l, e.size ≤ 9223372036854775807 := by
  rcases open_slice1 Try.underlying23 Try.onc9 h with ⟨rfl, _⟩ | ⟨a, len, cap, m, n', V, D, Pl, rfl, hb, hl, hm, hmm, _, hi⟩
  · exact ⟨none, 0, [], rfl, Reads.none_, by simp, by simp⟩
  · have hlm : len ≤ m := by rw [hmm]; split <;> omega
    have each : ∀ i, ∃ s : ByteArray, i < len → V i = .string s ∧ s.size ≤ 9223372036854775807 := by
      intro i
      by_cases hil : i < len
      · obtain ⟨x0, e0, _, w0⟩ := DataW.trod_string Try.underlying9 (hi i (by omega)).2
        simp at e0
        unfold maxLen at w0
        exact ⟨x0, fun _ => ⟨e0, by omega⟩⟩
      · exact ⟨⟨#[]⟩, fun h => absurd h hil⟩
    obtain ⟨E, hE⟩ := Classical.skolem.1 each
    have hlen : ((List.range len).map E).length = len := by simp
    refine ⟨some a, cap, (List.range len).map E, by rw [hlen], ⟨by rw [SS_length, Nat.mul_one], fun hn => ⟨a, rfl, ?_, fun j u hu => ?_⟩⟩, by rw [hlen]; unfold maxLen at hm; omega, ?_⟩
    · have := World.block_lt_of_cell? _ _ (hi 0 (by omega)).1
      rwa [block_of_add] at this
    · have hj : j < len := by
        have := (List.getElem?_eq_some_iff.1 hu).1
        rw [SS_length, hlen] at this
        exact this
      rw [(hi j (by omega)).1, (hE j hj).1]
      unfold SS at hu
      rw [List.getElem?_map, List.getElem?_map, List.getElem?_range hj] at hu
      simpa using hu
    · intro e he
      obtain ⟨i, hi', rfl⟩ := List.mem_map.1 he
      exact (hE i (List.mem_range.1 hi')).2
end

end Go.Proofs.Ytajgenjfhcapjaa
