/- Rows of extents and rows of bits: marks. -/
import Derived.Test.YtajgenjfhcapjaaFwRow
namespace Go.Proofs.Ytajgenjfhcapjaa
open Go Go.RowKit

theorem own_ltX {w : World} {base : Nat} {e : TypeId} {size n g c : Nat} {xs : List Value} (h : w.ownsRow base e size (.slice (some ⟨g, 0, none⟩) n c) n xs) : base ≤ g ∧ g < w.heap.size := by
  obtain ⟨hb, cur, hg, _⟩ := own_some h
  exact ⟨hb, (Array.getElem?_eq_some_iff.1 hg).1⟩
/-- So many marked extents from a number on. -/
def markX (k : Int) : ExtD := ⟨k, k + 1, k + 1 + 1⟩
def marksX (k : Int) (n : Nat) : List ExtD := (List.range n).map fun (j : Nat) => markX (k + 3 * (j : Int))
theorem marksX_len (k : Int) (n : Nat) : (marksX k n).length = n := by simp [marksX]
theorem marksX_get (k : Int) (n j : Nat) (h : j < n) : (marksX k n)[j]'(by rw [marksX_len]; exact h) = markX (k + 3 * (j : Int)) := by simp [marksX]
theorem marksX_succ (k : Int) (n : Nat) : marksX k (n + 1) = marksX k n ++ [markX (k + 3 * (n : Int))] := by simp [marksX, List.range_succ]

set_option maxRecDepth 100000 in
set_option maxHeartbeats 1000000 in
theorem markExtS_any (base g n c : Nat) (xs : List Value) (k : Int) (hk0 : 0 ≤ k) (hk : k ≤ 100000000) (hn : n ≤ 10000000) (w : World) (hown : w.ownsRow base 76 3 (.slice (some ⟨g, 0, none⟩) n c) n xs) :
    Calls Try.prog 44 #[.slice (some ⟨g, 0, none⟩) n c, .int .i64 k] w fun e w' => e = .returned (.int .i64 (k + 3 * (n : Int))) ∧ w'.ownsRow base 76 3 (.slice (some ⟨g, 0, none⟩) n c) n (XS (marksX k n)) ∧ w.grownBy w' (some g) := by
  have hl := hown.1
  have Hown := Lib.hid hown
  clear hown
  go_enter Try.func44, Try.ntmps44
  go_wp2
  go_loopw [1, 5] (fun m i wr => ∃ (j : Nat) (q : Int), j ≤ n ∧ i = .int .i64 j ∧ m = .int .i64 q ∧ Hid (q = k + 3 * j) ∧ wr.ownsRow base 76 3 (.slice (some ⟨g, 0, none⟩) n c) n (XS (marksX k j) ++ xs.drop (j * 3)) ∧ w.grownBy wr (some g))
    (fun _ i _ => n - (intOf i).toNat)
  case atStart => exact ⟨0, k, by omega, rfl, rfl, by simp [Hid], by simpa [marksX, XS] using Hown.out, grown_refl _ _⟩
  case round =>
    obtain ⟨j, q, hj, rfl, rfl, hq, hown, hg⟩ := hrel
    have hq' := hq.out
    have b0 : 0 ≤ q := by omega
    have b1 : q ≤ 200000000 := by omega
    clear hq'
    by_cases hlt : j < n
    · obtain ⟨⟨u0, c0⟩, ⟨u1, c1⟩, ⟨u2, c2⟩⟩ := own_cells3 hown j hlt
      have f0 := own_frozen hown (j * 3)
      have f1 := own_frozen hown (j * 3 + 1)
      have f2 := own_frozen hown (j * 3 + 2)
      have hlt0 := (own_ltX hown).2
      have q0 : (0 : Int) ≤ ↑j := by omega
      have q1 : (↑j : Int) < ↑n := by omega
      have own2 := own_set3 (markX q) hown (marksX_len k j) hlt hl
      rw [show marksX k j ++ [markX q] = marksX k (j + 1) by rw [marksX_succ, hq.out]] at own2
      simp only [markX] at own2
      have Own2 := Lib.hid own2
      have hg2 := Lib.hid (only_sc (only_sc (only_sc hg (j * 3) (.int .i64 q)) (j * 3 + 1) (.int .i64 (q + 1))) (j * 3 + 2) (.int .i64 (q + 1 + 1)))
      clear own2 hown
      go_wp2
      go_roundw
      case rel => exact ⟨j + 1, q + 1 + 1 + 1, by omega, by go_num, by go_num, by have := hq.out; show _ = _; omega, Own2.out, hg2.out⟩
      case measure => simp [intOf]; omega
    · obtain rfl : j = n := by omega
      rw [List.drop_eq_nil_of_le (by omega), List.append_nil] at hown
      go_wp2
      go_ret
      exact ⟨ret_int hq.out, hown, hg⟩

theorem none_row {w : World} {base : Nat} {e : TypeId} {size n : Nat} {v : Value} {xs : List Value} (h : w.ownsRow base e size v n xs) (h0 : n = 0) : ∃ A c, v = .slice A 0 c ∧ xs = [] := by
  subst h0
  obtain ⟨A, c, rfl, _, _, _⟩ := own_vals h
  exact ⟨A, c, rfl, List.eq_nil_of_length_eq_zero (by have := h.1; omega)⟩

set_option maxRecDepth 100000 in
set_option maxHeartbeats 1000000 in
theorem markExtS_v (base : Nat) (v : Value) (n : Nat) (xs : List Value) (k : Int) (hk0 : 0 ≤ k) (hk : k ≤ 100000000) (hn : n ≤ 10000000) (w : World) (hown : w.ownsRow base 76 3 v n xs) :
    Calls Try.prog 44 #[v, .int .i64 k] w fun e w' => e = .returned (.int .i64 (k + 3 * (n : Int))) ∧ w'.ownsRow base 76 3 v n (XS (marksX k n)) ∧ w.grownBy w' v.ownBlock := by
  rcases Nat.eq_zero_or_pos n with h0 | h0
  · obtain ⟨A, c, rfl, rfl⟩ := none_row hown h0
    subst h0
    have Hown := Lib.hid hown
    clear hown
    go_enter Try.func44, Try.ntmps44
    go_wp2
    refine wp_loop_rounds 1 ?_
    rw [rounds_succ]
    go_wp2
    go_ret
    exact ⟨ret_int (by simp), Hown.out, grown_refl _ _⟩
  · obtain ⟨g, c', rfl⟩ := own_form1 hown h0
    exact markExtS_any base g n c' xs k hk0 hk hn w hown

set_option maxRecDepth 100000 in
set_option maxHeartbeats 1000000 in
theorem heldExtS_any (A : Option Addr) (n c : Nat) (k : Int) (hk0 : 0 ≤ k) (hk : k ≤ 100000000) (hn : n ≤ 10000000) (w : World) (hr : Reads w w.heap.size 3 A n (XS (marksX k n))) :
    Calls Try.prog 47 #[.slice A n c, .int .i64 k] w fun e w' => e = .returned (.int .i64 (k + 3 * (n : Int))) ∧ Below w.heap.size w w' := by
  have Hr := Lib.hid hr
  clear hr
  go_enter Try.func47, Try.ntmps47
  go_wp2
  go_loopw [1, 5] (fun m i wr => ∃ (j : Nat) (q : Int), j ≤ n ∧ i = .int .i64 j ∧ m = .int .i64 q ∧ Hid (q = k + 3 * j) ∧ Below w.heap.size w wr)
    (fun _ i _ => n - (intOf i).toNat)
  case atStart => exact ⟨0, k, by omega, rfl, rfl, by simp [Hid], bel0 w⟩
  case round =>
    obtain ⟨j, q, hj, rfl, rfl, hq, hbel⟩ := hrel
    have hq' := hq.out
    have b0 : 0 ≤ q := by omega
    have b1 : q ≤ 400000000 := by omega
    clear hq'
    by_cases hlt : j < n
    · obtain ⟨hkx, b, o, rfl, hadb, z0, z1, z2⟩ := reads_ext (Hr.out.below hbel) hlt
      rw [marksX_get k n j hlt, ← hq.out] at z0 z1 z2
      simp only [markX] at z0 z1 z2
      have q0 : (0 : Int) ≤ ↑j := by omega
      have q1 : (↑j : Int) < ↑n := by omega
      go_wp2
      go_roundw
      case rel => exact ⟨j + 1, q + 1 + 1 + 1, by omega, by go_num, by go_num, by have := hq.out; show _ = _; omega, hbel⟩
      case measure => simp [intOf]; omega
    · obtain rfl : j = n := by omega
      go_wp2
      go_ret
      exact ⟨ret_int hq.out, hbel⟩

/-- The mark of a bit. -/
def bmk (k : Int) : Bool := k % 3 == 0
def marksB (k : Int) (n : Nat) : List Bool := (List.range n).map fun (j : Nat) => bmk (k + j)
theorem marksB_len (k : Int) (n : Nat) : (marksB k n).length = n := by simp [marksB]
theorem marksB_get (k : Int) (n j : Nat) (h : j < n) : (marksB k n)[j]'(by rw [marksB_len]; exact h) = bmk (k + j) := by simp [marksB]
theorem marksB_succ (k : Int) (n : Nat) : marksB k (n + 1) = marksB k n ++ [bmk (k + n)] := by simp [marksB, List.range_succ]
theorem marksB_set (k : Int) (j : Nat) (xs : List Value) (hj : j < xs.length) : (BS (marksB k j) ++ xs.drop j).set j (.bool (bmk (k + j))) = BS (marksB k (j + 1)) ++ xs.drop (j + 1) := by
  rw [set_md _ _ _ _ (by rw [BS_length, marksB_len]) hj, marksB_succ, BS_append]
  rfl

set_option maxRecDepth 100000 in
set_option maxHeartbeats 1000000 in
theorem markBoolS_any (base g n c : Nat) (xs : List Value) (k : Int) (hk0 : 0 ≤ k) (hk : k ≤ 100000000) (hn : n ≤ 10000000) (w : World) (hown : w.ownsRow base 4 1 (.slice (some ⟨g, 0, none⟩) n c) n xs) :
    Calls Try.prog 42 #[.slice (some ⟨g, 0, none⟩) n c, .int .i64 k] w fun e w' => e = .returned (.int .i64 (k + (n : Int))) ∧ w'.ownsRow base 4 1 (.slice (some ⟨g, 0, none⟩) n c) n (BS (marksB k n)) ∧ w.grownBy w' (some g) := by
  have hl := hown.1
  have Hown := Lib.hid hown
  clear hown
  go_enter Try.func42, Try.ntmps42
  go_wp2
  go_loopw [1, 5] (fun m i wr => ∃ (j : Nat) (q : Int), j ≤ n ∧ i = .int .i64 j ∧ m = .int .i64 q ∧ Hid (q = k + j) ∧ wr.ownsRow base 4 1 (.slice (some ⟨g, 0, none⟩) n c) n (BS (marksB k j) ++ xs.drop j) ∧ w.grownBy wr (some g))
    (fun _ i _ => n - (intOf i).toNat)
  case atStart => exact ⟨0, k, by omega, rfl, rfl, by simp [Hid], by simpa [marksB, BS] using Hown.out, grown_refl _ _⟩
  case round =>
    obtain ⟨j, q, hj, rfl, rfl, hq, hown, hg⟩ := hrel
    have hq' := hq.out
    have b0 : 0 ≤ q := by omega
    have b1 : q ≤ 200000000 := by omega
    clear hq'
    by_cases hlt : j < n
    · obtain ⟨u0, c0⟩ := own_cel hown j hlt
      have f0 := own_frozen hown j
      have hlt0 := (own_ltX hown).2
      have q0 : (0 : Int) ≤ ↑j := by omega
      have q1 : (↑j : Int) < ↑n := by omega
      have own2 := own_set hown j (.bool (bmk q))
      rw [show (BS (marksB k j) ++ xs.drop j).set j (.bool (bmk q)) = BS (marksB k (j + 1)) ++ xs.drop (j + 1) by rw [hq.out]; exact marksB_set k j xs (by omega)] at own2
      obtain ⟨B, hB⟩ : ∃ B, bmk q = B := ⟨_, rfl⟩
      have hB1 : (q % 3 == 0) = B := hB
      rw [hB] at own2
      have Own2 := Lib.hid own2
      have hg2 := Lib.hid (only_sc hg j (.bool B))
      clear own2 hown hB
      go_wp2
      go_roundw
      case rel => exact ⟨j + 1, q + 1, by omega, by go_num, by go_num, by have := hq.out; show _ = _; omega, Own2.out, hg2.out⟩
      case measure => simp [intOf]; omega
    · obtain rfl : j = n := by omega
      rw [List.drop_eq_nil_of_le (by omega), List.append_nil] at hown
      go_wp2
      go_ret
      exact ⟨ret_int hq.out, hown, hg⟩

set_option maxRecDepth 100000 in
set_option maxHeartbeats 1000000 in
theorem markBoolS_v (base : Nat) (v : Value) (n : Nat) (xs : List Value) (k : Int) (hk0 : 0 ≤ k) (hk : k ≤ 100000000) (hn : n ≤ 10000000) (w : World) (hown : w.ownsRow base 4 1 v n xs) :
    Calls Try.prog 42 #[v, .int .i64 k] w fun e w' => e = .returned (.int .i64 (k + (n : Int))) ∧ w'.ownsRow base 4 1 v n (BS (marksB k n)) ∧ w.grownBy w' v.ownBlock := by
  rcases Nat.eq_zero_or_pos n with h0 | h0
  · obtain ⟨A, c, rfl, rfl⟩ := none_row hown h0
    subst h0
    have Hown := Lib.hid hown
    clear hown
    go_enter Try.func42, Try.ntmps42
    go_wp2
    refine wp_loop_rounds 1 ?_
    rw [rounds_succ]
    go_wp2
    go_ret
    exact ⟨ret_int (by simp), Hown.out, grown_refl _ _⟩
  · obtain ⟨g, c', rfl⟩ := own_form1 hown h0
    exact markBoolS_any base g n c' xs k hk0 hk hn w hown

set_option maxRecDepth 100000 in
set_option maxHeartbeats 1000000 in
theorem heldBoolS_any (A : Option Addr) (n c : Nat) (k : Int) (hk0 : 0 ≤ k) (hk : k ≤ 100000000) (hn : n ≤ 10000000) (w : World) (hr : Reads w w.heap.size 1 A n (BS (marksB k n))) :
    Calls Try.prog 45 #[.slice A n c, .int .i64 k] w fun e w' => e = .returned (.int .i64 (k + (n : Int))) ∧ Below w.heap.size w w' := by
  have Hr := Lib.hid hr
  clear hr
  go_enter Try.func45, Try.ntmps45
  go_wp2
  go_loopw [1, 5] (fun m i wr => ∃ (j : Nat) (q : Int), j ≤ n ∧ i = .int .i64 j ∧ m = .int .i64 q ∧ Hid (q = k + j) ∧ Below w.heap.size w wr)
    (fun _ i _ => n - (intOf i).toNat)
  case atStart => exact ⟨0, k, by omega, rfl, rfl, by simp [Hid], bel0 w⟩
  case round =>
    obtain ⟨j, q, hj, rfl, rfl, hq, hbel⟩ := hrel
    have hq' := hq.out
    have b0 : 0 ≤ q := by omega
    have b1 : q ≤ 400000000 := by omega
    clear hq'
    by_cases hlt : j < n
    · obtain ⟨hkx, ad, rfl, hadb, z0⟩ := reads_bit (Hr.out.below hbel) hlt
      rw [marksB_get k n j hlt, ← hq.out] at z0
      have q0 : (0 : Int) ≤ ↑j := by omega
      have q1 : (↑j : Int) < ↑n := by omega
      obtain ⟨B, hB⟩ : ∃ B, bmk q = B := ⟨_, rfl⟩
      have hB1 : (q % 3 == 0) = B := hB
      rw [hB] at z0
      clear hB
      cases B
      all_goals
        go_wp2
        go_roundw
        case rel => exact ⟨j + 1, q + 1, by omega, by go_num, by go_num, by have := hq.out; show _ = _; omega, hbel⟩
        case measure => simp [intOf]; omega
    · obtain rfl : j = n := by omega
      go_wp2
      go_ret
      exact ⟨ret_int hq.out, hbel⟩

end Go.Proofs.Ytajgenjfhcapjaa
