/- What is drawn: texts, spoiled texts, sizes. -/
import Derived.Test.YtpnmmigoencbdaaDoorDraw4
namespace Go.Proofs.YtpnmmigoencbdaaDoor
open Go Go.RowKit

set_option maxHeartbeats 400000 in
theorem l1Size_any (A : Option Addr) (n cp : Nat) (hn : n ≤ 9223372036854775000) (m : Int) (w : World) :
    Calls Tryd.prog 34 #[.slice A n cp, .int .i64 m] w fun e w' => ∃ x : Int, e = .returned (.int .i64 x) ∧ x ≤ m ∧ w = w' := by
  have hq : (n : Int).tdiv 20 = (n : Int) / 20 := Int.tdiv_eq_ediv_of_nonneg (by omega)
  by_cases h : 2 + (n : Int) / 20 > m
  · go_enter Tryd.func34, Tryd.ntmps34
    go_wp2
    go_ret
    exact ⟨_, rfl, Int.le_refl _, rfl⟩
  · go_enter Tryd.func34, Tryd.ntmps34
    go_wp2
    go_ret
    exact ⟨_, rfl, by omega, rfl⟩

set_option maxRecDepth 100000 in
set_option maxHeartbeats 4000000 in
theorem l1Text_any (g : Nat) (A : Option Addr) (n cp : Nat) (bs : List UInt8) (hn : n ≤ 9223372036854775806) (most : Nat) (hm : most ≤ 1000) (w : World) (h : Curs w g A n cp bs) :
    Calls Tryd.prog 57 #[.pointer (some ⟨g, 0, none⟩), .int .i64 most] w fun e w' => ∃ s : ByteArray, e = .returned (.string s) ∧ s.size ≤ most ∧ Curs w' g A n cp bs ∧ w.grownBy w' (some g) := by
  have Hb := Lib.hid (fun m hm W hW => l1Below_any g A n cp bs hn m hm W hW)
  have Hy := Lib.hid (fun W hW => l1Byte_any g A n cp bs hn W hW)
  have hlt := h.lt
  have own0 := World.ownsRow_lit (e := 5) (size := 1) w #[] 0 (Nat.le_refl _) (by unfold maxLen; omega) rfl
  go_enter Tryd.func57, Tryd.ntmps57
  go_wp2_with fail
  refine (Hb.out 4 (by omega) _ (h.alloc _)).mono ?_
  rintro e w0 ⟨y, rfl, _, hy, hc0, hg0⟩
  obtain ⟨hy0, hy1⟩ := hy (by omega)
  have own1 := own_g own0 hg0 hlt
  have G0 := gb_al hg0
  clear hy own0
  go_wp2_with fail
  refine (Hb.out _ (by omega) _ hc0).mono ?_
  rintro e w1 ⟨x, rfl, _, hx, hc1, hg1⟩
  obtain ⟨hx0, hx1⟩ := hx (by omega)
  obtain ⟨k, rfl⟩ : ∃ k : Nat, x = (k : Int) := ⟨x.toNat, by omega⟩
  have Own1 := Lib.hid (own_g own1 hg1 hlt)
  have G1 := G0.trans hg1
  clear own1 hx
  go_wp2
  go_loopw [5, 7] (fun v i wr => ∃ (k : Nat) (l : List UInt8), i = .int .i64 k ∧ k + l.length ≤ most ∧ Hid (wr.ownsRow w.heap.size 5 1 v l.length (B8 l)) ∧ Curs wr g A n cp bs ∧ w.grownBy wr (some g))
    (fun _ i _ => (intOf i).toNat)
  case atStart => exact ⟨k, [], rfl, by simp; omega, Own1.out, hc1, G1⟩
  case round =>
    clear Own1 hc1 G1 hg1
    obtain ⟨k, l, rfl, hk, Own, hc, G⟩ := hrel
    by_cases h0 : k = 0
    · subst h0
      have hcv := run_convert_own Tryd.underlying22 Tryd.underlying5 Tryd.underlying9 Own.out
      go_wp2
      go_ret
      exact ⟨_, rfl, by rw [str_size]; omega, hc, G⟩
    · have hk0 : (k : Int) > 0 := by omega
      go_wp2_with fail
      refine (Hy.out _ hc).mono ?_
      rintro e w2 ⟨x, rfl, x8, x9, hc2, hg2⟩
      have Own2 := Lib.hid (own_g Own.out hg2 hlt)
      have G2 := G.trans hg2
      have sz := G2.size
      have wk : IntKind.i64.wrap ((k : Int) - 1) = ((k - 1 : Nat) : Int) := by rw [IntKind.wrap_i64]; omega
      rcases (show y = 0 ∨ y = 1 ∨ y = 2 ∨ y = 3 by omega) with rfl | rfl | rfl | rfl
      · have hsz := x9
        obtain ⟨b, hbv, hbb⟩ := byte_ex (x) (x.toNat) (by omega) (by omega)
        go_wp2_with (at_builtin; go_must (refine wpList_app _ rfl _ _ _ rfl Tryd.el_u8 (Own2.out.alloc _) rfl (reads_new _ _ _ _ 1 (by rfl)) rfl (B8_cells [b]) (max_small (by omega)) (by omega) (by simp; omega) ?_); intro v3 w3 own3 hg3 _ hb3)
        have own4 : w3.ownsRow w.heap.size 5 1 v3 (l ++ [b]).length (B8 (l ++ [b])) := by rw [B8_append, List.length_append]; exact own3
        have hb4 : Below w.heap.size w2 w3 := ((Below.refl w.heap.size w2).alloc sz (.cells #[.int .u8 b.toNat] 5)).trans hb3
        have hc4 := hc2.bel hb4 hlt
        have G4 := gb_bel0 G2 hb4
        have Own4 := Lib.hid own4
        clear own3 own4
        go_wp2
        first
          | exact ⟨⟨k - 1, l ++ [b], by go_num, by simp; omega, Own4.out, hc4, G4⟩, by simp [intOf]; omega⟩
          | (go_roundw; case rel => exact ⟨k - 1, l ++ [b], by go_num, by simp; omega, Own4.out, hc4, G4⟩; case measure => (simp [intOf]; omega))
      · have hsz := x9
        have mt : x.tmod 2 = x % 2 := Int.tmod_eq_emod_of_nonneg x8
        obtain ⟨b, hbv, hbb⟩ := byte_ex (x % 2) (x.toNat % 2) (by omega) (by omega)
        go_wp2_with (at_builtin; go_must (refine wpList_app _ rfl _ _ _ rfl Tryd.el_u8 (Own2.out.alloc _) rfl (reads_new _ _ _ _ 1 (by rfl)) rfl (B8_cells [b]) (max_small (by omega)) (by omega) (by simp; omega) ?_); intro v3 w3 own3 hg3 _ hb3)
        have own4 : w3.ownsRow w.heap.size 5 1 v3 (l ++ [b]).length (B8 (l ++ [b])) := by rw [B8_append, List.length_append]; exact own3
        have hb4 : Below w.heap.size w2 w3 := ((Below.refl w.heap.size w2).alloc sz (.cells #[.int .u8 b.toNat] 5)).trans hb3
        have hc4 := hc2.bel hb4 hlt
        have G4 := gb_bel0 G2 hb4
        have Own4 := Lib.hid own4
        clear own3 own4
        go_wp2
        first
          | exact ⟨⟨k - 1, l ++ [b], by go_num, by simp; omega, Own4.out, hc4, G4⟩, by simp [intOf]; omega⟩
          | (go_roundw; case rel => exact ⟨k - 1, l ++ [b], by go_num, by simp; omega, Own4.out, hc4, G4⟩; case measure => (simp [intOf]; omega))
      · have hsz := x9
        have mt : x.tmod 4 = x % 4 := Int.tmod_eq_emod_of_nonneg x8
        obtain ⟨b, hbv, hbb⟩ := byte_ex (97 + x % 4) (97 + x.toNat % 4) (by omega) (by omega)
        go_wp2_with (at_builtin; go_must (refine wpList_app _ rfl _ _ _ rfl Tryd.el_u8 (Own2.out.alloc _) rfl (reads_new _ _ _ _ 1 (by rfl)) rfl (B8_cells [b]) (max_small (by omega)) (by omega) (by simp; omega) ?_); intro v3 w3 own3 hg3 _ hb3)
        have own4 : w3.ownsRow w.heap.size 5 1 v3 (l ++ [b]).length (B8 (l ++ [b])) := by rw [B8_append, List.length_append]; exact own3
        have hb4 : Below w.heap.size w2 w3 := ((Below.refl w.heap.size w2).alloc sz (.cells #[.int .u8 b.toNat] 5)).trans hb3
        have hc4 := hc2.bel hb4 hlt
        have G4 := gb_bel0 G2 hb4
        have Own4 := Lib.hid own4
        clear own3 own4
        go_wp2
        first
          | exact ⟨⟨k - 1, l ++ [b], by go_num, by simp; omega, Own4.out, hc4, G4⟩, by simp [intOf]; omega⟩
          | (go_roundw; case rel => exact ⟨k - 1, l ++ [b], by go_num, by simp; omega, Own4.out, hc4, G4⟩; case measure => (simp [intOf]; omega))
      · have hsz := x9
        obtain ⟨b, hbv, hbb⟩ := byte_ex (x) (x.toNat) (by omega) (by omega)
        go_wp2_with (at_builtin; go_must (refine wpList_app _ rfl _ _ _ rfl Tryd.el_u8 (Own2.out.alloc _) rfl (reads_new _ _ _ _ 1 (by rfl)) rfl (B8_cells [b]) (max_small (by omega)) (by omega) (by simp; omega) ?_); intro v3 w3 own3 hg3 _ hb3)
        have own4 : w3.ownsRow w.heap.size 5 1 v3 (l ++ [b]).length (B8 (l ++ [b])) := by rw [B8_append, List.length_append]; exact own3
        have hb4 : Below w.heap.size w2 w3 := ((Below.refl w.heap.size w2).alloc sz (.cells #[.int .u8 b.toNat] 5)).trans hb3
        have hc4 := hc2.bel hb4 hlt
        have G4 := gb_bel0 G2 hb4
        have Own4 := Lib.hid own4
        clear own3 own4
        go_wp2
        first
          | exact ⟨⟨k - 1, l ++ [b], by go_num, by simp; omega, Own4.out, hc4, G4⟩, by simp [intOf]; omega⟩
          | (go_roundw; case rel => exact ⟨k - 1, l ++ [b], by go_num, by simp; omega, Own4.out, hc4, G4⟩; case measure => (simp [intOf]; omega))

end Go.Proofs.YtpnmmigoencbdaaDoor
