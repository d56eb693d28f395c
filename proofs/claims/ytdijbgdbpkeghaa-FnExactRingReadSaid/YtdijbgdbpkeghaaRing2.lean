/- The newest records of a ring, in the reference. -/
import Derived.Test.YtdijbgdbpkeghaaRing
namespace Go.Proofs.Ytdijbgdbpkeghaa
open Go Go.RowKit

theorem max_gt {a b : Int} (h : a < b) : max a b = b := by omega
theorem max_le' {a b : Int} (h : ¬ a < b) : max a b = a := by omega

set_option maxRecDepth 100000 in
set_option maxHeartbeats 4000000 in
theorem ringRead_spec (A : Option Addr) (n c : Nat) (L : List ByteArray) (hn : n ≤ 10000000) (hs : ∀ s ∈ L, s.size ≤ 1000000000) (w : World) (hr : Reads w w.heap.size 1 A n (SS L)) :
    Calls Try.prog 37 #[.slice A n c] w fun e w' => ∃ v, e = .returned v ∧ w'.ownsRow w.heap.size 26 2 v (ringL L).length (RS (ringL L)) ∧ Below w.heap.size w w' := by
  have hl : L.length = n := by have := hr.1; rw [SS_length] at this; omega
  have Hr := Lib.hid hr
  have Hs := Lib.hid hs
  clear hr hs
  by_cases h6 : n = 6
  · subst h6
    have Hf := Lib.hid (show ringL L = downF L 6 (topN L 6) [] by unfold ringL; rw [if_pos hl])
    have Hl := Lib.hid hl
    go_enter Try.func37, Try.ntmps37
    go_wp2
    have Hown0 := Lib.hid (World.ownsRow_lit (e := 26) (size := 2) w #[] 0 (Nat.le_refl _) (by unfold maxLen; omega) rfl)
    have hbel0 := belA (bel0 w) (.cells #[] 26)
    go_loopw [4, 5] (fun v i wr => ∃ (k : Nat), k ≤ 6 ∧ i = .int .i64 k ∧ v = .int .i64 (topN L k) ∧ Below (w.alloc (.cells #[] 26)).heap.size (w.alloc (.cells #[] 26)) wr)
      (fun _ i _ => 6 - (intOf i).toNat)
    case atStart => exact ⟨0, by omega, rfl, rfl, bel0 _⟩
    case round =>
      obtain ⟨k, hk, rfl, rfl, hbel⟩ := hrel
      have hbd := topN_bd L k
      have hb := belN hbel0 hbel
      by_cases hlt : k < 6
      · obtain ⟨hkx, bb, oo, rfl, hadb, hcell⟩ := reads_strF (Hr.out.below hb) hlt
        have hsz := Hs.out _ (List.getElem_mem hkx)
        have q0 : (0 : Int) ≤ ↑k := by omega
        have q1 : (↑k : Int) < 6 := by omega
        obtain ⟨r, t, b, hp⟩ : ∃ r t b, recP L[k] = (r, t, b) := ⟨_, _, _, rfl⟩
        have hrb := recP_bd L[k]
        rw [hp] at hrb
        obtain ⟨hr0, hr1⟩ := hrb
        simp only at hr0 hr1
        have Hp := Lib.hid hp
        have Hst := Lib.hid (show topN L (k + 1) = cond (b && decide (r % 6 = (k : Int))) (max (topN L k) r) (topN L k) by rw [topN, getD_at L k hkx, hp])
        clear hp
        go_wp2_with fail
        refine (readRec_spec L[k] hsz _).mono ?_
        rintro e w1 ⟨rfl, hb1⟩
        rw [Hp.out]
        simp only
        clear hcell
        cases b
        · have Hst' := Lib.hid (show topN L (k + 1) = topN L k by rw [Hst.out]; rfl)
          go_wp2
          go_roundw
          case rel => exact ⟨k + 1, by omega, by go_num, by rw [Hst'.out], belA (belN hbel hb1) _⟩
          case measure => simp [intOf]; omega
        · by_cases hm : r % 6 = (k : Int)
          · have Hst' := Lib.hid (show topN L (k + 1) = max (topN L k) r by rw [Hst.out]; simp [hm])
            have hm' : (r % 6 == (k : Int)) = true := by simpa using hm
            clear hm
            by_cases hgt : topN L k < r
            · have Hst2 := Lib.hid (Hst'.out.trans (max_gt hgt))
              go_wp2
              go_roundw
              case rel => exact ⟨k + 1, by omega, by go_num, by rw [Hst2.out], belA (belN hbel hb1) _⟩
              case measure => simp [intOf]; omega
            · have Hst2 := Lib.hid (Hst'.out.trans (max_le' hgt))
              go_wp2
              go_roundw
              case rel => exact ⟨k + 1, by omega, by go_num, by rw [Hst2.out], belA (belN hbel hb1) _⟩
              case measure => simp [intOf]; omega
          · have Hst' := Lib.hid (show topN L (k + 1) = topN L k by rw [Hst.out]; simp [hm])
            have hm' : (r % 6 == (k : Int)) = false := by simpa using hm
            clear hm
            go_wp2
            go_roundw
            case rel => exact ⟨k + 1, by omega, by go_num, by rw [Hst'.out], belA (belN hbel hb1) _⟩
            case measure => simp [intOf]; omega
      · obtain rfl : k = 6 := by omega
        have Hown1 := Lib.hid (own_below Hown0.out hbel (Nat.le_refl _))
        obtain ⟨T, hT⟩ : ∃ T, topN L 6 = T := ⟨_, rfl⟩
        have HT := Lib.hid hT
        rw [hT] at hbd ⊢
        clear hT
        go_wp2
        go_loopw [3, 8] (fun v i wr => ∃ (j : Nat) (acc : List (Int × ByteArray)), j ≤ 6 ∧ i = .int .i64 j ∧ Hid (acc.length = j) ∧ Hid (ringL L = downF L (6 - j) (T - j) acc) ∧ wr.ownsRow w.heap.size 26 2 v j (RS acc) ∧ Below w.heap.size w wr)
          (fun _ i _ => 6 - (intOf i).toNat)
        case atStart => exact ⟨0, [], by omega, rfl, rfl, by show _ = _; rw [Hf.out, HT.out]; simp, Hown1.out, hb⟩
        case round =>
          obtain ⟨j, acc, hj, rfl, Hacc, hres, hown, hbel2⟩ := hrel
          have hsz2 := hbel2.size
          by_cases hj6 : j < 6
          · rcases hat : recAtB L (T - j) with _ | _
            · have Hat := Lib.hid hat
              have Hend := Lib.hid (show ringL L = acc by rw [hres.out, downF_no hat])
              clear hat
              go_wp2_with fail
              refine (l24At_any A c L (T - j) Hl.out (by omega) Hs.out _ ((Hr.out.below hbel2).more hsz2)).mono ?_
              rintro e w1 ⟨hpost, hb1⟩
              obtain ⟨r, t, rfl⟩ := hpost.no Hat.out
              have own1 := own_below hown hb1 (Nat.le_refl _)
              go_wp2
              go_ret
              exact ⟨_, rfl, by rw [Hend.out, Hacc.out]; exact own1.alloc _, belA (belN hbel2 hb1) _⟩
            · have Hat := Lib.hid hat
              have Hnx := Lib.hid (show ringL L = downF L (6 - (j + 1)) (T - (j + 1 : Nat)) ((T - j, txtAt L (T - j)) :: acc) by
                rw [hres.out, show 6 - j = (6 - (j + 1)) + 1 by omega, downF_yes hat, show T - (j : Int) - 1 = T - (j + 1 : Nat) by omega])
              clear hat
              go_wp2_with fail
              refine (l24At_any A c L (T - j) Hl.out (by omega) Hs.out _ ((Hr.out.below hbel2).more hsz2)).mono ?_
              rintro e w1 ⟨hpost, hb1⟩
              obtain rfl := hpost.yes Hat.out
              have own1 := own_below hown hb1 (Nat.le_refl _)
              obtain ⟨t, ht⟩ : ∃ t, txtAt L (T - j) = t := ⟨_, rfl⟩
              obtain ⟨q, hq⟩ : ∃ q : Int, T - j = q := ⟨_, rfl⟩
              rw [ht, hq] at Hnx
              rw [ht, hq]
              clear ht hq
              obtain ⟨A1, c1, rfl, _, _, hread⟩ := own_vals own1
              have hsz3 := hb1.size
              have hread2 := (hread.below (belA (belA (bel0 w1) (.cells #[.int .i64 q, .string t] 26)) (.cells #[.int .i64 q, .string t] 26)))
              clear own1 hown
              have litown := World.ownsRow_lit (e := 26) (size := 2) (w1.alloc (.cells #[.int .i64 q, .string t] 26)) #[.int .i64 q, .string t] 1 (Nat.le_refl _) (by unfold maxLen; omega) rfl
              rw [show (w1.alloc (.cells #[.int .i64 q, .string t] 26)).heap.size = w1.heap.size + 1 by simp] at litown
              go_wp2_with (at_builtin; go_must (refine wpList_app _ rfl _ _ _ rfl Try.el_rec litown rfl hread2 rfl (RS_cells _) (max_small (by omega)) (by omega) (by simp) ?_); intro v2 w2 own2 hg2 _ hb2)
              go_roundw
              case rel =>
                refine ⟨j + 1, (q, t) :: acc, by omega, by go_num, by show _ = _; rw [List.length_cons, Hacc.out], Hnx.out, ?_, ?_⟩
                · rw [Nat.add_comm j 1]; exact own_more own2 (by omega)
                · exact (belA (belA (belN hbel2 hb1) _) _).trans (hb2.mono (by omega))
              case measure => simp [intOf]; omega
          · obtain rfl : j = 6 := by omega
            have Hend := Lib.hid (show ringL L = acc by rw [hres.out]; rfl)
            go_wp2
            go_ret
            exact ⟨_, rfl, by rw [Hend.out, Hacc.out]; exact hown, hbel2⟩
  · have Hf := Lib.hid (show ringL L = [] by unfold ringL; rw [if_neg (by omega)])
    go_enter Try.func37, Try.ntmps37
    go_wp2
    go_ret
    exact ⟨_, rfl, by rw [Hf.out]; exact World.ownsRow_lit w #[] 0 (Nat.le_refl _) (by unfold maxLen; omega) rfl, belA (bel0 w) _⟩

end Go.Proofs.Ytdijbgdbpkeghaa
