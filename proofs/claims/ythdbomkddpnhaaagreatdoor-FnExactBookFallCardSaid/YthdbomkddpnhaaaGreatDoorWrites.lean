/- Rows of writes: sizes, copies, equality, what a law's argument of them is. -/
import Derived.Test.YthdbomkddpnhaaaGreatDoorRecs
import Derived.Test.YthdbomkddpnhaaaGreatDoorStrRows
import Derived.Test.YthdbomkddpnhaaaGreatDoorFrameV
import Derived.Test.YthdbomkddpnhaaaGreatDoorIsPg
import Derived.Deep.RegionHeld3
namespace Go.Proofs.YthdbomkddpnhaaaGreatDoor
open Go Go.RowKit Go.WideShapes Go.ChangeShapes Go.Deep

/-- How much writes have of the size. -/
def szW (l : List (Int × ByteArray)) : Nat := l.length + (l.map fun e => e.2.size).sum
theorem szW_len (l : List (Int × ByteArray)) : l.length ≤ szW l := by unfold szW; omega

set_option maxHeartbeats 1000000 in
theorem szWrite_any (e : Int × ByteArray) (hz : e.2.size ≤ 9223372036854775807) (k : Int) (h0 : 0 ≤ k) (hk : k ≤ 1048576) (w : World) :
    Calls Tryz.prog 140 #[.agg #[.int .i64 e.1, .string e.2], .int .i64 k] w fun x w' => ∃ r : Int, x = .returned (.int .i64 r) ∧ (r < 0 ∨ r = k - e.2.size) ∧ Below w.heap.size w w' := by
  obtain ⟨i, s⟩ := e
  simp only at hz ⊢
  by_cases hb : k - s.size < 0
  · go_enter Tryz.func140, Tryz.ntmps140
    go_wp2
    go_ret
    exact ⟨_, rfl, .inl (by omega), belA (bel0 w) _⟩
  · go_enter Tryz.func140, Tryz.ntmps140
    go_wp2
    go_ret
    exact ⟨_, rfl, .inr rfl, belA (bel0 w) _⟩

set_option maxHeartbeats 1000000 in
theorem toWrite_any (e : Int × ByteArray) (w : World) :
    Calls Tryz.prog 154 #[.agg #[.int .i64 e.1, .string e.2]] w fun x w' => x = .returned (.agg #[.int .i64 e.1, .string e.2]) ∧ Below w.heap.size w w' := by
  obtain ⟨i, s⟩ := e
  go_enter Tryz.func154, Tryz.ntmps154
  go_wp2
  refine bodyPost_ret (v := .agg #[.int .i64 i, .string s]) (by simp [results, Tryz.results154, go_sem]) rfl ⟨rfl, ?_⟩
  exact belA (belA (belA (bel0 w) _) _) _

set_option maxHeartbeats 1000000 in
theorem eqWrite_self (e : Int × ByteArray) (w : World) :
    Calls Tryz.prog 170 #[.agg #[.int .i64 e.1, .string e.2], .agg #[.int .i64 e.1, .string e.2]] w fun x w' => x = .returned (.bool true) ∧ Below w.heap.size w w' := by
  obtain ⟨i, s⟩ := e
  go_enter Tryz.func170, Tryz.ntmps170
  go_wp2
  go_ret
  exact ⟨rfl, belA (belA (bel0 w) _) _⟩

set_option maxRecDepth 100000 in
set_option maxHeartbeats 1000000 in
theorem szWriteS_any (A : Option Addr) (n c : Nat) (xs : List (Int × ByteArray)) (hz : ∀ e ∈ xs, e.2.size ≤ 9223372036854775807) (hn : n ≤ 9223372036854775807) (k : Int) (h0 : 0 ≤ k) (hk : k ≤ 1048576) (w : World) (hr : Reads w w.heap.size 2 A n (RS xs)) :
    Calls Tryz.prog 71 #[.slice A n c, .int .i64 k] w fun e w' => ∃ r : Int, e = .returned (.int .i64 r) ∧ (r < 0 ∨ r = k - szW xs) ∧ Below w.heap.size w w' := by
  have hl : xs.length = n := by have := hr.1; rw [RS_length] at this; omega
  have Hr := Lib.hid hr
  have Hz := Lib.hid hz
  clear hr hz
  by_cases hb : k - n < 0
  · go_enter Tryz.func71, Tryz.ntmps71
    go_wp2
    go_ret
    exact ⟨_, rfl, .inl (by omega), bel0 w⟩
  · go_enter Tryz.func71, Tryz.ntmps71
    go_wp2
    go_loopw [1, 5] (fun m i wr => ∃ (j : Nat) (q : Int), j ≤ n ∧ i = .int .i64 j ∧ m = .int .i64 q ∧ 0 ≤ q ∧ q ≤ k ∧ Hid (q + ((xs.take j).map fun e => e.2.size).sum = k - n) ∧ Below w.heap.size w wr)
      (fun _ i _ => n - (intOf i).toNat)
    case atStart => exact ⟨0, k - n, by omega, rfl, by go_num, by omega, by omega, by simp [Hid], bel0 w⟩
    case round =>
      obtain ⟨j, q, hj, rfl, rfl, hq0, hqk, hsum, hbel⟩ := hrel
      by_cases hlt : j < n
      · obtain ⟨hkx, b, o, rfl, hadb, z0, z1⟩ := reads_rec (Hr.out.below hbel) hlt
        have q0 : (0 : Int) ≤ ↑j := by omega
        have q1 : (↑j : Int) < ↑n := by omega
        have hzj := Hz.out _ (List.getElem_mem hkx)
        have Hs := Lib.hid (show ((xs.take (j + 1)).map fun e => e.2.size).sum = ((xs.take j).map fun e => e.2.size).sum + xs[j].2.size by
          rw [List.take_succ_eq_append_getElem hkx, List.map_append, List.sum_append]; simp)
        go_wp2_with fail
        refine (szWrite_any xs[j] hzj q hq0 (by omega) _).mono ?_
        rintro e w1 ⟨r, rfl, hr, hb1⟩
        by_cases hneg : r < 0
        · go_wp2
          go_ret
          exact ⟨_, rfl, .inl (by omega), belN hbel hb1⟩
        · obtain rfl : r = q - xs[j].2.size := by omega
          go_wp2_with fail
          go_roundw
          case rel => exact ⟨j + 1, q - xs[j].2.size, by omega, by go_num, rfl, by omega, by omega, by have := hsum.out; have := Hs.out; show _ = _; omega, belN hbel hb1⟩
          case measure => simp [intOf]; omega
      · have Hs := Lib.hid (show xs.take j = xs from List.take_of_length_le (by omega))
        go_wp2
        go_ret
        exact ⟨_, rfl, .inr (by have := hsum.out; rw [Hs.out] at this; unfold szW; omega), hbel⟩

set_option maxRecDepth 100000 in
set_option maxHeartbeats 1000000 in
theorem eqWriteS_self (A A' : Option Addr) (n c c' : Nat) (xs : List (Int × ByteArray)) (hn : n ≤ 10000000) (w : World) (hr : Reads w w.heap.size 2 A n (RS xs)) (hr' : Reads w w.heap.size 2 A' n (RS xs)) :
    Calls Tryz.prog 90 #[.slice A n c, .slice A' n c'] w fun e w' => e = .returned (.bool true) ∧ Below w.heap.size w w' := by
  have Hr := Lib.hid hr
  have Hr' := Lib.hid hr'
  clear hr hr'
  go_enter Tryz.func90, Tryz.ntmps90
  go_wp2
  go_loopw [5] (fun i wr => ∃ (j : Nat), j ≤ n ∧ i = .int .i64 j ∧ Below w.heap.size w wr)
    (fun i _ => n - (intOf i).toNat)
  case atStart => exact ⟨0, by omega, rfl, bel0 w⟩
  case round =>
    obtain ⟨j, hj, rfl, hbel⟩ := hrel
    by_cases hlt : j < n
    · obtain ⟨hkx, b, o, rfl, hadb, z0, z1⟩ := reads_rec (Hr.out.below hbel) hlt
      obtain ⟨_, b', o', rfl, hadb', y0, y1⟩ := reads_rec (Hr'.out.below hbel) hlt
      have q0 : (0 : Int) ≤ ↑j := by omega
      have q1 : (↑j : Int) < ↑n := by omega
      go_wp2_with fail
      go_region_held3 (fun w' => w'.cell? ⟨b, o + j * 2, none⟩ = some (.int .i64 xs[j].1) ∧ w'.cell? ⟨b, o + j * 2 + 1, none⟩ = some (.string xs[j].2) ∧ w'.cell? ⟨b', o' + j * 2, none⟩ = some (.int .i64 xs[j].1) ∧ w'.cell? ⟨b', o' + j * 2 + 1, none⟩ = some (.string xs[j].2)) (first | go_keep | (refine ⟨keep1 hb1 ?_, keep1 hb1 ?_, keep1 hb1 ?_, keep1 hb1 ?_⟩ <;> go_keep))
        (first
          | (go_at_call 170; refine (eqWrite_self xs[j] _).mono ?_; rintro e w1 ⟨rfl, hb1⟩))
      go_wp2
      go_roundw
      case rel => exact ⟨j + 1, by omega, by go_num, belN hbel.drew hb1⟩
      case measure => simp [intOf]; omega
    · go_wp2
      go_ret
      exact ⟨rfl, hbel⟩

theorem own_set2 {w : World} {base : Nat} {e : TypeId} {n g c k : Nat} {l : List (Int × ByteArray)} {xs : List Value} (x : Int × ByteArray) (h : w.ownsRow base e 2 (.slice (some ⟨g, 0, none⟩) n c) n (RS l ++ xs.drop (k * 2))) (hk : l.length = k) (hx : k < n) (hxs : xs.length = n * 2) :
    ((w.setCell ⟨g, k * 2, none⟩ (.int .i64 x.1)).setCell ⟨g, k * 2 + 1, none⟩ (.string x.2)).ownsRow base e 2 (.slice (some ⟨g, 0, none⟩) n c) n (RS (l ++ [x]) ++ xs.drop ((k + 1) * 2)) := by
  have h1 := own_set (own_set h (k * 2) (.int .i64 x.1)) (k * 2 + 1) (.string x.2)
  rw [RS_set2 l xs x hk hx hxs] at h1
  exact h1

set_option maxRecDepth 100000 in
set_option maxHeartbeats 2000000 in
theorem toWriteS_any (A : Option Addr) (n c : Nat) (xs : List (Int × ByteArray)) (hn : n ≤ 10000000) (w : World) (hr : Reads w w.heap.size 2 A n (RS xs)) :
    Calls Tryz.prog 81 #[.slice A n c] w fun e w' => e = .returned (.slice (some ⟨w.heap.size, 0, none⟩) n n) ∧ w'.ownsRow w.heap.size 109 2 (.slice (some ⟨w.heap.size, 0, none⟩) n n) n (RS xs) ∧ Below w.heap.size w w' := by
  have hl : xs.length = n := by have := hr.1; rw [RS_length] at this; omega
  have Hr := Lib.hid hr
  clear hr
  have hmk := run_make_any (P := Tryz.prog) 47 109 (.agg #[.int .i64 0, .string ⟨#[]⟩]) 2 24 Tryz.underlying47 (by kernel_rfl) n (by omega) (by omega)
  have Hown := Lib.hid (own_made w (Value.agg #[.int .i64 0, .string ⟨#[]⟩]).cells 109 n 2 (by unfold maxLen; omega))
  obtain ⟨M, hM⟩ : ∃ M, madeCells (Value.agg #[.int .i64 0, .string ⟨#[]⟩]).cells (n * 2) = M := ⟨_, rfl⟩
  rw [hM] at hmk Hown
  clear hM
  have hML : M.toList.length = n * 2 := Hown.out.1
  go_enter Tryz.func81, Tryz.ntmps81
  go_wp2
  clear hmk
  go_loopw [4] (fun i wr => ∃ (j : Nat), j ≤ n ∧ i = .int .i64 j ∧ wr.ownsRow w.heap.size 109 2 (.slice (some ⟨w.heap.size, 0, none⟩) n n) n (RS (xs.take j) ++ M.toList.drop (j * 2)) ∧ Below w.heap.size w wr)
    (fun i _ => n - (intOf i).toNat)
  case atStart => exact ⟨0, by omega, rfl, by simpa [RS] using Hown.out, belA (bel0 w) _⟩
  case round =>
    obtain ⟨j, hj, rfl, hown, hbel⟩ := hrel
    by_cases hlt : j < n
    · obtain ⟨hkx, b, o, rfl, hadb, z0, z1⟩ := reads_rec (Hr.out.below hbel) hlt
      have q0 : (0 : Int) ≤ ↑j := by omega
      have q1 : (↑j : Int) < ↑n := by omega
      go_wp2_with fail
      refine (toWrite_any xs[j] _).mono ?_
      rintro e w1 ⟨rfl, hb1⟩
      have own1 := own_below hown hb1 (Nat.le_refl _)
      obtain ⟨⟨u0, c0⟩, ⟨u1, c1⟩⟩ := own_cells2 own1 j hlt
      have f0 := own_frozen own1 (j * 2)
      have f1 := own_frozen own1 (j * 2 + 1)
      clear z0 z1
      have ne : b ≠ w.heap.size := by omega
      have hoz : ((xs.take j).length) = j := by rw [List.length_take]; omega
      have own2 := own_set2 xs[j] own1 hoz hlt hML
      have Hs := Lib.hid (show xs.take j ++ [xs[j]] = xs.take (j + 1) from (List.take_succ_eq_append_getElem hkx).symm)
      have Own2 := Lib.hid own2
      clear own1 own2 hown
      go_wp2_with fail
      go_roundw
      case rel => exact ⟨j + 1, by omega, by go_num, by rw [← Hs.out]; exact Own2.out, belC (belC (belN hbel hb1) _ _ (Nat.le_refl _) _) _ _ (Nat.le_refl _) _⟩
      case measure => simp [intOf]; omega
    · obtain rfl : j = n := by omega
      rw [List.drop_eq_nil_of_le (by omega), List.append_nil, List.take_of_length_le (by omega)] at hown
      go_wp2
      go_ret
      exact ⟨rfl, hown, hbel⟩

theorem Tryz.one162 : Tryz.prog.cellsOf 162 = 2 := by kernel_rfl
section
variable {H : Type} {enc : TypeId × Value → H} {w : World} {base : Nat} {spare : Nat → Bool} {held : Bool}
set_option maxRecDepth 100000 in
theorem open_writes {fuel : Nat} {cs : List Value} {x : DataW H × List MemPlace} (h : DataW.trod enc Tryz.prog w base spare held fuel 42 cs = some x) :
    ∃ (A : Option Addr) (c : Nat) (l : List (Int × ByteArray)), cs = [.slice A l.length c] ∧ Reads w w.heap.size 2 A l.length (RS l) ∧ l.length ≤ 9223372036854775807 ∧ ∀ e ∈ l, e.2.size ≤ 9223372036854775807 := by
  rcases open_slice_fields Tryz.underlying42 Tryz.underlying162 (by kernel_rfl) Tryz.one162 h with ⟨rfl, _⟩ | ⟨a, len, cap, m, D, Pl, rfl, hb, hl, hm, hmm, _, hi⟩
  · exact ⟨none, 0, [], rfl, Reads.none_, by simp, by simp⟩
  · have hlm : len ≤ m := by rw [hmm]; split <;> omega
    have each : ∀ i, ∃ e : Int × ByteArray, i < len → (w.cell? (a.add (i * 2 + 0)) = some (.int .i64 e.1) ∧ w.cell? (a.add (i * 2 + 1)) = some (.string e.2)) ∧ e.2.size ≤ maxLen := by
      intro i
      by_cases hil : i < len
      · obtain ⟨ys, n, _, _, _, hf⟩ := hi i (by omega)
        obtain ⟨v0, y0, c0, _, t0⟩ := hf 0 _ rfl
        obtain ⟨v1, y1, c1, _, t1⟩ := hf 1 _ rfl
        obtain ⟨x0, e0, _, _⟩ := DataW.trod_int Tryz.underlying3 t0
        obtain ⟨x1, e1, _, w1⟩ := DataW.trod_string Tryz.underlying9 t1
        simp at e0 e1
        subst e0 e1
        exact ⟨⟨x0, x1⟩, fun _ => ⟨⟨c0, c1⟩, w1⟩⟩
      · exact ⟨⟨0, ⟨#[]⟩⟩, fun h => absurd h hil⟩
    obtain ⟨E, hE⟩ := Classical.skolem.1 each
    have hlen : ((List.range len).map E).length = len := by simp
    refine ⟨some a, cap, (List.range len).map E, by rw [hlen], ⟨by rw [RS_length], fun hn => ⟨a, rfl, ?_, fun j u hu => ?_⟩⟩, by rw [hlen]; unfold maxLen at hm; omega, ?_⟩
    · have := World.block_lt_of_cell? _ _ (hE 0 (by omega)).1.1
      rwa [block_of_add] at this
    · have hj : j < len * 2 := by
        have := (List.getElem?_eq_some_iff.1 hu).1
        rw [RS_length, hlen] at this
        exact this
      have hk : j / 2 < len := by omega
      obtain ⟨g0, g1⟩ := RS_get ((List.range len).map E) (j / 2) (by omega)
      have hEk : ((List.range len).map E)[j / 2]'(by omega) = E (j / 2) := by simp
      rw [hEk] at g0 g1
      obtain ⟨⟨z0, z1⟩, _⟩ := hE (j / 2) hk
      rcases (show j = j / 2 * 2 + 0 ∨ j = j / 2 * 2 + 1 by omega) with h0 | h0
      · rw [h0] at hu ⊢; exact z0.trans (g0.symm.trans hu)
      · rw [h0] at hu ⊢; exact z1.trans (g1.symm.trans hu)
    · intro e he
      obtain ⟨i, hi', rfl⟩ := List.mem_map.1 he
      have := (hE i (List.mem_range.1 hi')).2
      unfold maxLen at this; omega
end

end Go.Proofs.YthdbomkddpnhaaaGreatDoor
