/- The rows of the table and the parts of a sign, in the program. -/
import Derived.Test.YtlgjehdocppofaaDoorEncI
namespace Go.Proofs.YtlgjehdocppofaaDoor
open Go Go.RowKit

/-- What a row of the table leaves. -/
def RowsPost (w : World) (T : TypeId) (i : Nat) (e : Ending) (w' : World) : Prop :=
  ∃ v1 v2, e = .returned (.tuple #[v1, v2, .int .i64 (rowMark i)]) ∧ w'.ownsRow w.heap.size T 1 v1 (rowFrom i).length (II (rowFrom i)) ∧ w'.ownsRow w.heap.size T 1 v2 (rowLets i).length (II (rowLets i)) ∧ Below w.heap.size w w'
theorem reads_newG (W : World) (g : Nat) (hg : g = W.heap.size) (cs : Array Value) (e : TypeId) (size m : Nat) (hs : cs.size = m * size) : Reads (W.alloc (.cells cs e)) (g + 1) size (some ⟨g, 0, none⟩) m cs.toList := by
  subst hg
  exact reads_new W cs e size m hs
theorem lit_own (w : World) (T : TypeId) (xs : List Int) (cs : Array Value) (hc : cs.toList = II xs) (h63 : xs.length ≤ 1000) :
    (w.alloc (.cells cs T)).ownsRow w.heap.size T 1 (.slice (some ⟨w.heap.size, 0, none⟩) xs.length xs.length) xs.length (II xs) := by
  rw [← hc]
  exact World.ownsRow_lit w cs xs.length (Nat.le_refl _) (by unfold maxLen; omega) (by rw [← Array.length_toList, hc, II_length]; omega)
theorem lit_at (w W : World) (T : TypeId) (xs : List Int) (cs : Array Value) (g : Nat) (hg : g = W.heap.size) (hw : w.heap.size ≤ W.heap.size) (hc : cs.toList = II xs) (h63 : xs.length ≤ 1000) :
    (W.alloc (.cells cs T)).ownsRow w.heap.size T 1 (.slice (some ⟨g, 0, none⟩) xs.length xs.length) xs.length (II xs) := by
  subst hg
  exact own_more (lit_own W T xs cs hc h63) hw

set_option maxRecDepth 100000 in
set_option maxHeartbeats 1000000 in
theorem row_0 (w : World) : Calls Tryd.prog 208 #[.int .i64 0] w (RowsPost w 3 0) := by
  go_enter Tryd.func208, Tryd.ntmps208
  go_wp2_with (go_at_call 210; refine (signs_any _ (by decide) _).mono ?_; rintro e w1 ⟨v, rfl, hown, hb1⟩)
  go_ret3
  exact ⟨_, _, rfl, own_below (lit_own w 3 (rowFrom 0) _ rfl (by decide)) hb1 (Nat.le_refl _), own_more hown (by simp), belN (belA (bel0 w) _) hb1⟩
set_option maxRecDepth 100000 in
set_option maxHeartbeats 1000000 in
theorem row_1 (w : World) : Calls Tryd.prog 208 #[.int .i64 1] w (RowsPost w 3 1) := by
  go_enter Tryd.func208, Tryd.ntmps208
  go_wp2_with (go_at_call 210; refine (signs_any _ (by decide) _).mono ?_; rintro e w1 ⟨v, rfl, hown, hb1⟩)
  go_ret3
  exact ⟨_, _, rfl, own_below (lit_own w 3 (rowFrom 1) _ rfl (by decide)) hb1 (Nat.le_refl _), own_more hown (by simp), belN (belA (bel0 w) _) hb1⟩
set_option maxRecDepth 100000 in
set_option maxHeartbeats 1000000 in
theorem row_2 (w : World) : Calls Tryd.prog 208 #[.int .i64 2] w (RowsPost w 3 2) := by
  go_enter Tryd.func208, Tryd.ntmps208
  go_wp2_with (go_at_call 210; refine (signs_any _ (by decide) _).mono ?_; rintro e w1 ⟨v, rfl, hown, hb1⟩)
  go_ret3
  exact ⟨_, _, rfl, own_below (lit_own w 3 (rowFrom 2) _ rfl (by decide)) hb1 (Nat.le_refl _), own_more hown (by simp), belN (belA (bel0 w) _) hb1⟩
set_option maxRecDepth 100000 in
set_option maxHeartbeats 1000000 in
theorem row_3 (w : World) : Calls Tryd.prog 208 #[.int .i64 3] w (RowsPost w 3 3) := by
  go_enter Tryd.func208, Tryd.ntmps208
  go_wp2_with (go_at_call 210; refine (signs_any _ (by decide) _).mono ?_; rintro e w1 ⟨v, rfl, hown, hb1⟩)
  go_ret3
  exact ⟨_, _, rfl, own_below (lit_own w 3 (rowFrom 3) _ rfl (by decide)) hb1 (Nat.le_refl _), own_more hown (by simp), belN (belA (bel0 w) _) hb1⟩
set_option maxRecDepth 100000 in
set_option maxHeartbeats 1000000 in
theorem row_4 (w : World) : Calls Tryd.prog 208 #[.int .i64 4] w (RowsPost w 3 4) := by
  go_enter Tryd.func208, Tryd.ntmps208
  go_wp2_with (go_at_call 210; refine (signs_any _ (by decide) _).mono ?_; rintro e w1 ⟨v, rfl, hown, hb1⟩)
  go_ret3
  exact ⟨_, _, rfl, own_below (lit_own w 3 (rowFrom 4) _ rfl (by decide)) hb1 (Nat.le_refl _), own_more hown (by simp), belN (belA (bel0 w) _) hb1⟩
set_option maxRecDepth 100000 in
set_option maxHeartbeats 1000000 in
theorem row_5 (w : World) : Calls Tryd.prog 208 #[.int .i64 5] w (RowsPost w 3 5) := by
  go_enter Tryd.func208, Tryd.ntmps208
  go_wp2_with (go_at_call 210; refine (signs_any _ (by decide) _).mono ?_; rintro e w1 ⟨v, rfl, hown, hb1⟩)
  go_ret3
  exact ⟨_, _, rfl, own_below (lit_own w 3 (rowFrom 5) _ rfl (by decide)) hb1 (Nat.le_refl _), own_more hown (by simp), belN (belA (bel0 w) _) hb1⟩
set_option maxRecDepth 100000 in
set_option maxHeartbeats 1000000 in
theorem row_6 (w : World) : Calls Tryd.prog 208 #[.int .i64 6] w (RowsPost w 3 6) := by
  go_enter Tryd.func208, Tryd.ntmps208
  go_wp2_with (go_at_call 210; refine (signs_any _ (by decide) _).mono ?_; rintro e w1 ⟨v, rfl, hown, hb1⟩)
  go_ret3
  exact ⟨_, _, rfl, own_below (lit_own w 3 (rowFrom 6) _ rfl (by decide)) hb1 (Nat.le_refl _), own_more hown (by simp), belN (belA (bel0 w) _) hb1⟩
set_option maxRecDepth 100000 in
set_option maxHeartbeats 1000000 in
theorem row_7 (w : World) : Calls Tryd.prog 208 #[.int .i64 7] w (RowsPost w 3 7) := by
  go_enter Tryd.func208, Tryd.ntmps208
  go_wp2
  go_ret3
  exact ⟨_, _, rfl, own_below (lit_own w 3 (rowFrom 7) _ rfl (by decide)) (belA (bel0 _) _) (Nat.le_refl _), lit_at w _ 3 (rowLets 7) _ _ (by simp) (by simp) rfl (by decide), belA (belA (bel0 w) _) _⟩
set_option maxRecDepth 100000 in
set_option maxHeartbeats 1000000 in
theorem row_8 (w : World) : Calls Tryd.prog 208 #[.int .i64 8] w (RowsPost w 3 8) := by
  go_enter Tryd.func208, Tryd.ntmps208
  go_wp2
  go_ret3
  exact ⟨_, _, rfl, own_below (lit_own w 3 (rowFrom 8) _ rfl (by decide)) (belA (bel0 _) _) (Nat.le_refl _), lit_at w _ 3 (rowLets 8) _ _ (by simp) (by simp) rfl (by decide), belA (belA (bel0 w) _) _⟩
set_option maxRecDepth 100000 in
set_option maxHeartbeats 1000000 in
theorem row_9 (w : World) : Calls Tryd.prog 208 #[.int .i64 9] w (RowsPost w 3 9) := by
  go_enter Tryd.func208, Tryd.ntmps208
  go_wp2
  go_ret3
  exact ⟨_, _, rfl, own_below (lit_own w 3 (rowFrom 9) _ rfl (by decide)) (belA (bel0 _) _) (Nat.le_refl _), lit_at w _ 3 (rowLets 9) _ _ (by simp) (by simp) rfl (by decide), belA (belA (bel0 w) _) _⟩
set_option maxRecDepth 100000 in
set_option maxHeartbeats 1000000 in
theorem row_10 (w : World) : Calls Tryd.prog 208 #[.int .i64 10] w (RowsPost w 3 10) := by
  go_enter Tryd.func208, Tryd.ntmps208
  go_wp2_with (go_at_call 210; refine (signs_any _ (by decide) _).mono ?_; rintro e w1 ⟨v, rfl, hown, hb1⟩)
  go_ret3
  exact ⟨_, _, rfl, own_below (lit_own w 3 (rowFrom 10) _ rfl (by decide)) hb1 (Nat.le_refl _), own_more hown (by simp), belN (belA (bel0 w) _) hb1⟩
set_option maxRecDepth 100000 in
set_option maxHeartbeats 1000000 in
theorem row_11 (w : World) : Calls Tryd.prog 208 #[.int .i64 11] w (RowsPost w 3 11) := by
  go_enter Tryd.func208, Tryd.ntmps208
  go_wp2
  go_ret3
  exact ⟨_, _, rfl, own_below (lit_own w 3 (rowFrom 11) _ rfl (by decide)) (belA (bel0 _) _) (Nat.le_refl _), lit_at w _ 3 (rowLets 11) _ _ (by simp) (by simp) rfl (by decide), belA (belA (bel0 w) _) _⟩
set_option maxRecDepth 100000 in
set_option maxHeartbeats 1000000 in
theorem row_12 (w : World) : Calls Tryd.prog 208 #[.int .i64 12] w (RowsPost w 3 12) := by
  go_enter Tryd.func208, Tryd.ntmps208
  go_wp2
  go_ret3
  exact ⟨_, _, rfl, own_below (lit_own w 3 (rowFrom 12) _ rfl (by decide)) (belA (bel0 _) _) (Nat.le_refl _), lit_at w _ 3 (rowLets 12) _ _ (by simp) (by simp) rfl (by decide), belA (belA (bel0 w) _) _⟩
theorem row_any (i : Nat) (hi : i < 13) (w : World) : Calls Tryd.prog 208 #[.int .i64 i] w (RowsPost w 3 i) := by
  match i, hi with
  | 0, _ => exact row_0 w
  | 1, _ => exact row_1 w
  | 2, _ => exact row_2 w
  | 3, _ => exact row_3 w
  | 4, _ => exact row_4 w
  | 5, _ => exact row_5 w
  | 6, _ => exact row_6 w
  | 7, _ => exact row_7 w
  | 8, _ => exact row_8 w
  | 9, _ => exact row_9 w
  | 10, _ => exact row_10 w
  | 11, _ => exact row_11 w
  | 12, _ => exact row_12 w
  | n + 13, h => exact absurd h (by omega)
theorem rows_same : ∀ i, i < 13 → (rowLets i).length = (rowFrom i).length ∧ 0 ≤ rowMark i ∧ rowMark i ≤ 1000 ∧ (rowFrom i).length ≤ 12 := by decide +kernel

set_option maxRecDepth 100000 in
set_option maxHeartbeats 2000000 in
theorem parts_impl (c : Int) (w : World) :
    Calls Tryd.prog 205 #[.int .i64 c] w (RowPost w 3 (partsL c)) := by
  rcases hh : inI c 44032 55203 with _ | _
  rotate_left
  · have Hp := Lib.hid (parts_hang hh)
    obtain ⟨h0, h1⟩ := inI_true.1 hh
    by_cases hm : 0 < (c - 44032) % 28
    · have Hh := Lib.hid (show hang c = [4352 + (c - 44032) / 588, 4449 + (c - 44032) % 588 / 28] ++ [4519 + (c - 44032) % 28] by unfold hang; rw [if_pos hm])
      go_enter Tryd.func205, Tryd.ntmps205
      go_wp2_with (first
        | (go_at_call 88; refine (within_any _ _ _ _).mono ?_; rintro e w' ⟨rfl, rfl⟩)
        | (at_builtin; go_must (refine wpList_app _ rfl _ _ _ rfl Tryd.el_int (World.ownsRow_lit (e := 3) (size := 1) w #[.int .i64 (4352 + (c - 44032) / 588), .int .i64 (4449 + (c - 44032) % 588 / 28)] 2 (Nat.le_refl _) (by unfold maxLen; omega) rfl |>.alloc _) rfl (reads_newG _ (w.heap.size + 1) (by simp) _ _ _ 1 (by rfl)) rfl (by simp [Value.oneCell']) (max_small (by omega)) (by omega) (by simp; omega) ?_); intro v1 w1 own1 hg1 _ hb1))
      go_ret
      refine ⟨_, rfl, ?_, (belA (belA (bel0 w) _) _).trans hb1⟩
      rw [Hp.out, Hh.out]; exact own1
    · have Hh := Lib.hid (show hang c = [4352 + (c - 44032) / 588, 4449 + (c - 44032) % 588 / 28] by unfold hang; rw [if_neg hm, List.append_nil])
      go_enter Tryd.func205, Tryd.ntmps205
      go_wp2_with (go_at_call 88; refine (within_any _ _ _ _).mono ?_; rintro e w' ⟨rfl, rfl⟩)
      go_ret
      rw [Hp.out, Hh.out]
      exact row_lit w _ _ _ _ rfl rfl (by simp)
  rcases hk : inI c 192 8491 with _ | _
  · have Hp := Lib.hid (parts_out hh hk)
    go_enter Tryd.func205, Tryd.ntmps205
    go_wp2_with (go_at_call 88; refine (within_any _ _ _ _).mono ?_; rintro e w' ⟨rfl, rfl⟩)
    go_ret
    rw [Hp.out]
    exact row_lit w _ _ _ _ rfl rfl (by simp)
  go_enter Tryd.func205, Tryd.ntmps205
  go_wp2_with (go_at_call 88; refine (within_any _ _ _ _).mono ?_; rintro e w' ⟨rfl, rfl⟩)
  have Hh := Lib.hid hh
  clear hh hk
  go_loopw [36] (fun i wr => ∃ (k : Nat), k ≤ 13 ∧ i = .int .i64 k ∧ Hid (∀ j, j < k → c ∉ rowFrom j) ∧ Below w.heap.size w wr)
    (fun i _ => 13 - (intOf i).toNat)
  case atStart => exact ⟨0, by omega, rfl, fun j hj => absurd hj (by omega), bel0 w⟩
  case round =>
    obtain ⟨k, hk, rfl, hno, hbel⟩ := hrel
    by_cases hlt : k < 13
    · have hsame := rows_same k hlt
      obtain ⟨hl, hM0, hM1, hl12⟩ := hsame
      go_wp2_with fail
      refine (row_any k hlt _).mono ?_
      rintro e w1 ⟨v1, v2, rfl, own1, own2, hb1⟩
      obtain ⟨A1, c1, rfl, _, _, hr1⟩ := own_vals own1
      have Own2 := Lib.hid own2
      have b1 := belN hbel hb1
      clear own1 own2
      go_wp2_with fail
      refine (index_any A1 _ c1 (rowFrom k) c (by omega) _ hr1).mono ?_
      rintro e w2 ⟨r, rfl, hidx, hb2⟩
      have b2 := belN b1 hb2
      rcases hidx with ⟨rfl, hmiss⟩ | ⟨x, hx, rfl, hit⟩
      · have Hmiss := Lib.hid hmiss
        clear hmiss
        go_wp2
        go_roundw
        case rel =>
          refine ⟨k + 1, by omega, by go_num, fun j hj => ?_, b2⟩
          rcases Nat.lt_or_ge j k with h | h
          · exact hno.out j h
          · rw [show j = k by omega]; exact Hmiss.out
        case measure => simp [intOf]; omega
      · have Hp := Lib.hid (parts_hit hlt hx hit).1
        obtain ⟨A2, c2, rfl, _, _, hr2⟩ := own_vals (own_below Own2.out hb2 (Nat.le_refl _))
        obtain ⟨hx2, ad, rfl, hadb, hcell⟩ := reads_at hr2 (k := x) (by omega)
        have Hg := Lib.hid (show (rowLets k).getD x 0 = (rowLets k)[x] by simp [List.getD, hx2])
        obtain ⟨y, hy⟩ : ∃ y, (rowLets k)[x] = y := ⟨_, rfl⟩
        rw [hy] at hcell Hg
        clear hy
        obtain ⟨n2, hn2⟩ : ∃ n2, (rowLets k).length = n2 := ⟨_, rfl⟩
        rw [hn2] at hx2 ⊢
        clear hn2 hl hit hr1 hr2
        have p0 : (0 : Int) ≤ ↑x := by omega
        have p1 : (x : Int) < ↑n2 := by omega
        by_cases hM : rowMark k = 0
        · have Hr := Lib.hid (show rowParts k x = [y] by unfold rowParts; rw [if_pos hM, Hg.out])
          rw [hM]
          clear hM hM0 hM1
          go_wp2
          go_ret
          rw [Hp.out, Hr.out]
          exact row_lit2 b2 _ _ _ rfl rfl (by simp)
        · have Hr := Lib.hid (show rowParts k x = [y, rowMark k] by unfold rowParts; rw [if_neg hM, Hg.out])
          obtain ⟨M, hMM⟩ : ∃ M, rowMark k = M := ⟨_, rfl⟩
          rw [hMM] at Hr hM hM0 hM1 ⊢
          clear hMM
          go_wp2
          go_ret
          rw [Hp.out, Hr.out]
          exact row_lit2 b2 _ _ _ rfl rfl (by simp)
    · have Hp := Lib.hid (parts_miss Hh.out (fun j hj => hno.out j (by omega)))
      go_wp2
      go_ret
      rw [Hp.out]
      exact row_lit2 hbel _ _ _ rfl rfl (by simp)

end Go.Proofs.YtlgjehdocppofaaDoor
