/- Signs taken apart and folded, in both packages. -/
import Derived.Test.YtlgjehdocppofaaDoorPartsS
namespace Go.Proofs.YtlgjehdocppofaaDoor
open Go Go.RowKit

set_option maxRecDepth 100000 in
set_option maxHeartbeats 2000000 in
theorem taken_impl0 (n : Nat) (hn : n ≤ 3) : ∀ (c : Int), flatn n c → ∀ w, Calls Tryd.prog 195 #[.int .i64 c] w (RowPost w 3 (tak n c)) := by
  induction n with
  | zero =>
    intro c hf w
    have Hp := Lib.hid (show partsL c = [] from hf)
    go_enter Tryd.func195, Tryd.ntmps195
    go_wp2_with fail
    refine (parts_impl c _).mono ?_
    rintro e w1 ⟨v, rfl, hown, hb1⟩
    rw [Hp.out] at hown
    obtain ⟨A, c1, rfl, _, _, _⟩ := own_vals hown
    clear hown hf
    go_wp2
    go_ret
    exact row_lit2 hb1 [c] _ _ rfl rfl (by simp)
  | succ n ih =>
    intro c hf w
    have ih' := ih (by omega)
    have IH := Lib.hid ih'
    clear ih ih'
    by_cases hp : partsL c = []
    · have Hp := Lib.hid hp
      have Ht := Lib.hid (tak_nil hp (n + 1))
      clear hp
      go_enter Tryd.func195, Tryd.ntmps195
      go_wp2_with fail
      refine (parts_impl c _).mono ?_
      rintro e w1 ⟨v, rfl, hown, hb1⟩
      rw [Hp.out] at hown
      obtain ⟨A, c1, rfl, _, _, _⟩ := own_vals hown
      clear hown hf
      go_wp2
      go_ret
      rw [Ht.out]
      exact row_lit2 hb1 [c] _ _ rfl rfl (by simp)
    · have Ht := Lib.hid (tak_ne n hp)
      have Hf := Lib.hid (show ∀ p ∈ partsL c, flatn n p from hf)
      have hl3 := parts_len c
      have hl0 : 0 < (partsL c).length := List.length_pos_iff.2 hp
      have Htl := Lib.hid (tak_len n)
      have h27 : 3 ^ n ≤ 27 := Nat.pow_le_pow_right (j := 3) (by omega) (by omega)
      clear hp hf
      go_enter Tryd.func195, Tryd.ntmps195
      go_wp2_with fail
      refine (parts_impl c _).mono ?_
      rintro e w1 ⟨v, rfl, hown, hb1⟩
      obtain ⟨A, c1, rfl, _, _, hr⟩ := own_vals hown
      have Hr := Lib.hid hr
      obtain ⟨xs, hxs⟩ : ∃ xs, partsL c = xs := ⟨_, rfl⟩
      rw [hxs] at Ht Hf hl3 hl0 Hr ⊢
      clear hown hr hxs
      obtain ⟨L, hL⟩ : ∃ L, xs.length = L := ⟨_, rfl⟩
      have HL := Lib.hid hL
      rw [hL] at hl3 hl0 Hr ⊢
      clear hL
      have hLe : ((L : Int) == 0) = false := by simp; omega
      go_wp2
      go_loopw [4, 17] (fun v i wr => ∃ (k : Nat), k ≤ L ∧ i = .int .i64 k ∧ wr.ownsRow w1.heap.size 3 1 v ((xs.take k).flatMap (tak n)).length (II ((xs.take k).flatMap (tak n))) ∧ Below w1.heap.size w1 wr)
        (fun _ i _ => L - (intOf i).toNat)
      case atStart => exact ⟨0, by omega, rfl, lit_at w1 w1 3 [] _ _ rfl (Nat.le_refl _) rfl (by simp), belA (bel0 w1) _⟩
      case round =>
        obtain ⟨k, hk, rfl, hown, hbel⟩ := hrel
        have hb := belN hb1 hbel
        have hsz := hbel.size
        by_cases hlt : k < L
        · obtain ⟨hkx, ad, rfl, hadb, hcell⟩ := reads_at (Hr.out.below hbel) hlt
          have Hmem := Lib.hid (Hf.out _ (List.getElem_mem hkx))
          have Hs := Lib.hid (show (xs.take (k + 1)).flatMap (tak n) = (xs.take k).flatMap (tak n) ++ tak n xs[k] by rw [List.take_succ_eq_append_getElem hkx, List.flatMap_append]; simp)
          have hlen : ((xs.take k).flatMap (tak n)).length ≤ 100 := by
            have h1 := flatMap_len (b := 27) (xs.take k) (fun x _ => Nat.le_trans (Htl.out x) h27)
            rw [List.length_take] at h1
            omega
          have hlen2 : (tak n xs[k]).length ≤ 27 := Nat.le_trans (Htl.out _) h27
          obtain ⟨x, hx⟩ : ∃ x, xs[k] = x := ⟨_, rfl⟩
          rw [hx] at hcell Hmem Hs hlen2
          clear hx
          have q0 : (0 : Int) ≤ ↑k := by omega
          have q1 : (k : Int) < ↑L := by omega
          go_wp2_with fail
          refine (IH.out x Hmem.out _).mono ?_
          rintro e w2 ⟨v2, rfl, hown2, hb2⟩
          obtain ⟨A2, c2, rfl, _, _, hr2⟩ := own_vals hown2
          have own1 := own_below hown hb2 (Nat.le_refl _)
          have hs2 := hb2.size
          obtain ⟨L1, hL1⟩ : ∃ L1, (xs.take k).flatMap (tak n) = L1 := ⟨_, rfl⟩
          obtain ⟨L2, hL2⟩ : ∃ L2, tak n x = L2 := ⟨_, rfl⟩
          rw [hL1] at own1 hlen Hs
          rw [hL2] at hr2 hlen2 Hs ⊢
          clear hown2 hown hcell hL1 hL2
          go_wp2_with (at_builtin; go_must (refine wpList_app _ rfl _ _ _ rfl Tryd.el_int own1 rfl hr2 rfl (II_cells _) (max_small (by omega)) (by omega) (by omega) ?_); intro v3 w3 own3 hg3 _ hb3)
          go_roundw
          case rel =>
            refine ⟨k + 1, by omega, by go_num, ?_, (belN hbel hb2).trans hb3⟩
            rw [Hs.out, List.length_append, II_append]; exact own3
          case measure => simp [intOf]; omega
        · obtain rfl : k = L := by omega
          rw [List.take_of_length_le (by have := HL.out; omega)] at hown
          go_wp2
          go_ret
          exact ⟨_, rfl, by rw [Ht.out]; exact own_more hown hb1.size, hb⟩

set_option maxRecDepth 100000 in
set_option maxHeartbeats 2000000 in
theorem l4Take_any0 (n : Nat) (hn : n ≤ 3) : ∀ (c : Int), flatn n c → ∀ w, Calls Tryd.prog 201 #[.int .i64 c] w (RowPost w 3 (tak n c)) := by
  induction n with
  | zero =>
    intro c hf w
    have Hp := Lib.hid (show partsL c = [] from hf)
    go_enter Tryd.func201, Tryd.ntmps201
    go_wp2_with fail
    refine (parts_spec c _).mono ?_
    rintro e w1 ⟨v, rfl, hown, hb1⟩
    rw [Hp.out] at hown
    obtain ⟨A, c1, rfl, _, _, _⟩ := own_vals hown
    clear hown hf
    go_wp2
    go_ret
    exact row_lit2 hb1 [c] _ _ rfl rfl (by simp)
  | succ n ih =>
    intro c hf w
    have ih' := ih (by omega)
    have IH := Lib.hid ih'
    clear ih ih'
    by_cases hp : partsL c = []
    · have Hp := Lib.hid hp
      have Ht := Lib.hid (tak_nil hp (n + 1))
      clear hp
      go_enter Tryd.func201, Tryd.ntmps201
      go_wp2_with fail
      refine (parts_spec c _).mono ?_
      rintro e w1 ⟨v, rfl, hown, hb1⟩
      rw [Hp.out] at hown
      obtain ⟨A, c1, rfl, _, _, _⟩ := own_vals hown
      clear hown hf
      go_wp2
      go_ret
      rw [Ht.out]
      exact row_lit2 hb1 [c] _ _ rfl rfl (by simp)
    · have Ht := Lib.hid (tak_ne n hp)
      have Hf := Lib.hid (show ∀ p ∈ partsL c, flatn n p from hf)
      have hl3 := parts_len c
      have hl0 : 0 < (partsL c).length := List.length_pos_iff.2 hp
      have Htl := Lib.hid (tak_len n)
      have h27 : 3 ^ n ≤ 27 := Nat.pow_le_pow_right (j := 3) (by omega) (by omega)
      clear hp hf
      go_enter Tryd.func201, Tryd.ntmps201
      go_wp2_with fail
      refine (parts_spec c _).mono ?_
      rintro e w1 ⟨v, rfl, hown, hb1⟩
      obtain ⟨A, c1, rfl, _, _, hr⟩ := own_vals hown
      have Hr := Lib.hid hr
      obtain ⟨xs, hxs⟩ : ∃ xs, partsL c = xs := ⟨_, rfl⟩
      rw [hxs] at Ht Hf hl3 hl0 Hr ⊢
      clear hown hr hxs
      obtain ⟨L, hL⟩ : ∃ L, xs.length = L := ⟨_, rfl⟩
      have HL := Lib.hid hL
      rw [hL] at hl3 hl0 Hr ⊢
      clear hL
      have hLe : ((L : Int) == 0) = false := by simp; omega
      go_wp2
      go_loopw [4, 5] (fun v i wr => ∃ (k : Nat), k ≤ L ∧ i = .int .i64 k ∧ wr.ownsRow w1.heap.size 3 1 v ((xs.take k).flatMap (tak n)).length (II ((xs.take k).flatMap (tak n))) ∧ Below w1.heap.size w1 wr)
        (fun _ i _ => L - (intOf i).toNat)
      case atStart => exact ⟨0, by omega, rfl, lit_at w1 w1 3 [] _ _ rfl (Nat.le_refl _) rfl (by simp), belA (bel0 w1) _⟩
      case round =>
        obtain ⟨k, hk, rfl, hown, hbel⟩ := hrel
        have hb := belN hb1 hbel
        have hsz := hbel.size
        by_cases hlt : k < L
        · obtain ⟨hkx, ad, rfl, hadb, hcell⟩ := reads_at (Hr.out.below hbel) hlt
          have Hmem := Lib.hid (Hf.out _ (List.getElem_mem hkx))
          have Hs := Lib.hid (show (xs.take (k + 1)).flatMap (tak n) = (xs.take k).flatMap (tak n) ++ tak n xs[k] by rw [List.take_succ_eq_append_getElem hkx, List.flatMap_append]; simp)
          have hlen : ((xs.take k).flatMap (tak n)).length ≤ 100 := by
            have h1 := flatMap_len (b := 27) (xs.take k) (fun x _ => Nat.le_trans (Htl.out x) h27)
            rw [List.length_take] at h1
            omega
          have hlen2 : (tak n xs[k]).length ≤ 27 := Nat.le_trans (Htl.out _) h27
          obtain ⟨x, hx⟩ : ∃ x, xs[k] = x := ⟨_, rfl⟩
          rw [hx] at hcell Hmem Hs hlen2
          clear hx
          have q0 : (0 : Int) ≤ ↑k := by omega
          have q1 : (k : Int) < ↑L := by omega
          go_wp2_with fail
          refine (IH.out x Hmem.out _).mono ?_
          rintro e w2 ⟨v2, rfl, hown2, hb2⟩
          obtain ⟨A2, c2, rfl, _, _, hr2⟩ := own_vals hown2
          have own1 := own_below hown hb2 (Nat.le_refl _)
          have hs2 := hb2.size
          obtain ⟨L1, hL1⟩ : ∃ L1, (xs.take k).flatMap (tak n) = L1 := ⟨_, rfl⟩
          obtain ⟨L2, hL2⟩ : ∃ L2, tak n x = L2 := ⟨_, rfl⟩
          rw [hL1] at own1 hlen Hs
          rw [hL2] at hr2 hlen2 Hs ⊢
          clear hown2 hown hcell hL1 hL2
          go_wp2_with (at_builtin; go_must (refine wpList_app _ rfl _ _ _ rfl Tryd.el_int own1 rfl hr2 rfl (II_cells _) (max_small (by omega)) (by omega) (by omega) ?_); intro v3 w3 own3 hg3 _ hb3)
          go_roundw
          case rel =>
            refine ⟨k + 1, by omega, by go_num, ?_, (belN hbel hb2).trans hb3⟩
            rw [Hs.out, List.length_append, II_append]; exact own3
          case measure => simp [intOf]; omega
        · obtain rfl : k = L := by omega
          rw [List.take_of_length_le (by have := HL.out; omega)] at hown
          go_wp2
          go_ret
          exact ⟨_, rfl, by rw [Ht.out]; exact own_more hown hb1.size, hb⟩
theorem taken_impl (c : Int) (w : World) : Calls Tryd.prog 195 #[.int .i64 c] w (RowPost w 3 (takL c)) := taken_impl0 2 (by omega) c (flat_all c) w
theorem l4Take_any (c : Int) (w : World) : Calls Tryd.prog 201 #[.int .i64 c] w (RowPost w 3 (takL c)) := l4Take_any0 2 (by omega) c (flat_all c) w
theorem takL_len9 (c : Int) : (takL c).length ≤ 9 := takL_len c
theorem foldOfL_len9 (c : Int) : (foldOfL c).length ≤ 9 := by have := foldOfL_len c; omega

set_option maxRecDepth 100000 in
set_option maxHeartbeats 2000000 in
theorem fold_impl (A : Option Addr) (n c : Nat) (xs : List Int) (hl : xs.length = n) (hn : n ≤ 100000) (w : World) (hr : Reads w w.heap.size 1 A n (II xs)) :
    Calls Tryd.prog 178 #[.slice A n c] w (RowPost w 3 (foldL xs)) := by
  have Hr := Lib.hid hr
  have HL := Lib.hid hl
  clear hr hl
  go_enter Tryd.func178, Tryd.ntmps178
  go_wp2
  go_loopw [3, 9] (fun v i wr => ∃ (k : Nat), k ≤ n ∧ i = .int .i64 k ∧ wr.ownsRow w.heap.size 3 1 v ((xs.take k).flatMap foldOfL).length (II ((xs.take k).flatMap foldOfL)) ∧ Below w.heap.size w wr)
    (fun _ i _ => n - (intOf i).toNat)
  case atStart => exact ⟨0, by omega, rfl, lit_at w w 3 [] _ _ rfl (Nat.le_refl _) rfl (by simp), belA (bel0 w) _⟩
  case round =>
    obtain ⟨k, hk, rfl, hown, hbel⟩ := hrel
    have hsz := hbel.size
    by_cases hlt : k < n
    · obtain ⟨hkx, ad, rfl, hadb, hcell⟩ := reads_at (Hr.out.below hbel) hlt
      have Hs := Lib.hid (show (xs.take (k + 1)).flatMap foldOfL = (xs.take k).flatMap foldOfL ++ foldOfL xs[k] by rw [List.take_succ_eq_append_getElem hkx, List.flatMap_append]; simp)
      have hlen : ((xs.take k).flatMap foldOfL).length ≤ 1000000 := by
        have h1 := flatMap_len (b := 9) (xs.take k) (fun x _ => show (foldOfL x).length ≤ 9 from foldOfL_len9 x)
        rw [List.length_take] at h1
        omega
      have hlen2 : (foldOfL xs[k]).length ≤ 9 := foldOfL_len9 _
      obtain ⟨x, hx⟩ : ∃ x, xs[k] = x := ⟨_, rfl⟩
      rw [hx] at hcell Hs hlen2
      clear hx
      have q0 : (0 : Int) ≤ ↑k := by omega
      have q1 : (k : Int) < ↑n := by omega
      go_wp2_with fail
      refine (foldOf_impl x _).mono ?_
      rintro e w2 ⟨v2, rfl, hown2, hb2⟩
      obtain ⟨A2, c2, rfl, _, _, hr2⟩ := own_vals hown2
      have own1 := own_below hown hb2 (Nat.le_refl _)
      have hs2 := hb2.size
      obtain ⟨L1, hL1⟩ : ∃ L1, (xs.take k).flatMap foldOfL = L1 := ⟨_, rfl⟩
      obtain ⟨L2, hL2⟩ : ∃ L2, foldOfL x = L2 := ⟨_, rfl⟩
      rw [hL1] at own1 hlen Hs
      rw [hL2] at hr2 hlen2 Hs ⊢
      clear hown2 hown hcell hL1 hL2
      go_wp2_with (at_builtin; go_must (refine wpList_app _ rfl _ _ _ rfl Tryd.el_int own1 rfl hr2 rfl (II_cells _) (max_small (by omega)) (by omega) (by omega) ?_); intro v3 w3 own3 hg3 _ hb3)
      go_roundw
      case rel =>
        refine ⟨k + 1, by omega, by go_num, ?_, (belN hbel hb2).trans hb3⟩
        rw [Hs.out, List.length_append, II_append]; exact own3
      case measure => simp [intOf]; omega
    · obtain rfl : k = n := by omega
      rw [List.take_of_length_le (by have := HL.out; omega)] at hown
      go_wp2
      go_ret
      exact ⟨_, rfl, hown, hbel⟩

set_option maxRecDepth 100000 in
set_option maxHeartbeats 2000000 in
theorem fold_spec (A : Option Addr) (n c : Nat) (xs : List Int) (hl : xs.length = n) (hn : n ≤ 100000) (w : World) (hr : Reads w w.heap.size 1 A n (II xs)) :
    Calls Tryd.prog 192 #[.slice A n c] w (RowPost w 3 (foldL xs)) := by
  have Hr := Lib.hid hr
  have HL := Lib.hid hl
  clear hr hl
  go_enter Tryd.func192, Tryd.ntmps192
  go_wp2
  go_loopw [3, 4] (fun v i wr => ∃ (k : Nat), k ≤ n ∧ i = .int .i64 k ∧ wr.ownsRow w.heap.size 3 1 v ((xs.take k).flatMap foldOfL).length (II ((xs.take k).flatMap foldOfL)) ∧ Below w.heap.size w wr)
    (fun _ i _ => n - (intOf i).toNat)
  case atStart => exact ⟨0, by omega, rfl, lit_at w w 3 [] _ _ rfl (Nat.le_refl _) rfl (by simp), belA (bel0 w) _⟩
  case round =>
    obtain ⟨k, hk, rfl, hown, hbel⟩ := hrel
    have hsz := hbel.size
    by_cases hlt : k < n
    · obtain ⟨hkx, ad, rfl, hadb, hcell⟩ := reads_at (Hr.out.below hbel) hlt
      have Hs := Lib.hid (show (xs.take (k + 1)).flatMap foldOfL = (xs.take k).flatMap foldOfL ++ foldOfL xs[k] by rw [List.take_succ_eq_append_getElem hkx, List.flatMap_append]; simp)
      have hlen : ((xs.take k).flatMap foldOfL).length ≤ 1000000 := by
        have h1 := flatMap_len (b := 9) (xs.take k) (fun x _ => show (foldOfL x).length ≤ 9 from foldOfL_len9 x)
        rw [List.length_take] at h1
        omega
      have hlen2 : (foldOfL xs[k]).length ≤ 9 := foldOfL_len9 _
      obtain ⟨x, hx⟩ : ∃ x, xs[k] = x := ⟨_, rfl⟩
      rw [hx] at hcell Hs hlen2
      clear hx
      have q0 : (0 : Int) ≤ ↑k := by omega
      have q1 : (k : Int) < ↑n := by omega
      go_wp2_with fail
      refine (foldOf_spec x _).mono ?_
      rintro e w2 ⟨v2, rfl, hown2, hb2⟩
      obtain ⟨A2, c2, rfl, _, _, hr2⟩ := own_vals hown2
      have own1 := own_below hown hb2 (Nat.le_refl _)
      have hs2 := hb2.size
      obtain ⟨L1, hL1⟩ : ∃ L1, (xs.take k).flatMap foldOfL = L1 := ⟨_, rfl⟩
      obtain ⟨L2, hL2⟩ : ∃ L2, foldOfL x = L2 := ⟨_, rfl⟩
      rw [hL1] at own1 hlen Hs
      rw [hL2] at hr2 hlen2 Hs ⊢
      clear hown2 hown hcell hL1 hL2
      go_wp2_with (at_builtin; go_must (refine wpList_app _ rfl _ _ _ rfl Tryd.el_int own1 rfl hr2 rfl (II_cells _) (max_small (by omega)) (by omega) (by omega) ?_); intro v3 w3 own3 hg3 _ hb3)
      go_roundw
      case rel =>
        refine ⟨k + 1, by omega, by go_num, ?_, (belN hbel hb2).trans hb3⟩
        rw [Hs.out, List.length_append, II_append]; exact own3
      case measure => simp [intOf]; omega
    · obtain rfl : k = n := by omega
      rw [List.take_of_length_le (by have := HL.out; omega)] at hown
      go_wp2
      go_ret
      exact ⟨_, rfl, hown, hbel⟩

end Go.Proofs.YtlgjehdocppofaaDoor
