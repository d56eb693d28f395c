/- A mask's writes of a book: the reference. -/
import Derived.Test.YtghgafbfpejinaaGreatDoorRFallP
import Derived.Lib.RabinKarpLaws
namespace Go.Proofs.YtghgafbfpejinaaGreatDoor
open Go Go.RowKit

theorem wrm_0 {m : Int} {rg hm : List ByteArray} {pd : List (Int × ByteArray)} : wrmB m rg hm pd 0 = (rg, hm) := rfl
theorem bit_neg {m : Int} {k : Nat} (h : m < 0) : bitB m k = false := by unfold bitB; simp; intro h2; omega
theorem bit_val {m : Int} {k : Nat} (h0 : 0 ≤ m) (hm : m ≤ 9223372036854775807) : bits BinOp.and IntKind.i64 (m / 2 ^ k) 1 = m / 2 ^ k % 2 := by
 have h1 : 0 ≤ m / 2 ^ k := Int.ediv_nonneg h0 (Int.pow_nonneg (by omega))
 have h2 : m / 2 ^ k ≤ m := Int.ediv_le_self _ h0
 have h := and_one (m / 2 ^ k).toNat (by omega)
 rw [Int.toNat_of_nonneg h1] at h
 rw [h]; omega
theorem bit_one {m : Int} {k : Nat} (h0 : 0 ≤ m) (hm : m ≤ 9223372036854775807) (_hk : k < 20) (h : bitB m k = true) : bits BinOp.and IntKind.i64 (m / 2 ^ k) 1 = 1 := by
 rw [bit_val h0 hm]; unfold bitB at h; simp at h; exact h.2
theorem bit_zero {m : Int} {k : Nat} (h0 : 0 ≤ m) (hm : m ≤ 9223372036854775807) (_hk : k < 20) (h : bitB m k = false) : bits BinOp.and IntKind.i64 (m / 2 ^ k) 1 = 0 := by
 rw [bit_val h0 hm]
 have h1 : ¬ (m / 2 ^ k % 2 = 1) := by intro e; unfold bitB at h; simp [h0, e] at h
 omega
set_option maxRecDepth 100000 in
set_option maxHeartbeats 8000000 in
theorem l25Mask_any (g1 c1 g2 c2 base lo : Nat) (A3 : Option Addr) (c3 : Nat) (A4 : Option Addr) (c4 : Nat) (B : BookD) (hp : ∀ e ∈ B.pd, inI e.1 0 7 = true) (hn : B.pd.length ≤ 20) (m : Int) (hm : m ≤ 9223372036854775807) (w : World) (hlo1 : lo ≤ w.heap.size) (hlo2 : lo ≤ base)
  (o1 : w.ownsRow base 9 1 (.slice (some ⟨g1, 0, none⟩) 6 c1) 6 (SS B.rg)) (o2 : w.ownsRow base 9 1 (.slice (some ⟨g2, 0, none⟩) 2 c2) 2 (SS B.hm)) (o3 : w.ownsRow base 55 2 (.slice A3 B.pd.length c3) B.pd.length (RS B.pd)) (o4 : w.ownsRow base 66 4 (.slice A4 B.dr.length c4) B.dr.length (ES B.dr))
  (d12 : Dis (.slice (some ⟨g1, 0, none⟩) 6 c1) (.slice (some ⟨g2, 0, none⟩) 2 c2)) (d13 : Dis (.slice (some ⟨g1, 0, none⟩) 6 c1) (.slice A3 B.pd.length c3)) (d14 : Dis (.slice (some ⟨g1, 0, none⟩) 6 c1) (.slice A4 B.dr.length c4)) (d23 : Dis (.slice (some ⟨g2, 0, none⟩) 2 c2) (.slice A3 B.pd.length c3)) (d24 : Dis (.slice (some ⟨g2, 0, none⟩) 2 c2) (.slice A4 B.dr.length c4)) :
  Calls Tryz.prog 51 #[.agg #[.slice (some ⟨g1, 0, none⟩) 6 c1, .slice (some ⟨g2, 0, none⟩) 2 c2, .slice A3 B.pd.length c3, .slice A4 B.dr.length c4, .int .i64 B.sq, .int .i64 B.bs, .int .i64 B.sf, .int .i64 B.at_, .int .i64 B.df], .int .i64 m, .bool false] w fun r w' => ∃ gn, r = .returned (.agg #[.slice (some ⟨g1, 0, none⟩) 6 c1, .slice (some ⟨g2, 0, none⟩) 2 c2, .slice (some ⟨gn, 0, none⟩) 0 0, .slice A4 B.dr.length c4, .int .i64 B.sq, .int .i64 B.bs, .int .i64 B.sf, .int .i64 B.at_, .int .i64 B.df]) ∧ w.heap.size ≤ gn ∧
   w'.ownsRow base 9 1 (.slice (some ⟨g1, 0, none⟩) 6 c1) 6 (SS (wrmB m B.rg B.hm B.pd B.pd.length).1) ∧ w'.ownsRow base 9 1 (.slice (some ⟨g2, 0, none⟩) 2 c2) 2 (SS (wrmB m B.rg B.hm B.pd B.pd.length).2) ∧ w'.ownsRow w.heap.size 55 2 (.slice (some ⟨gn, 0, none⟩) 0 0) 0 (RS []) ∧ w'.ownsRow base 66 4 (.slice A4 B.dr.length c4) B.dr.length (ES B.dr) ∧ Below lo w w' ∧ (∀ i, i < w.heap.size → i ≠ g1 → i ≠ g2 → w'.heap[i]? = w.heap[i]?) := by
 have hne : g1 ≠ g2 := by
  rcases d12 with h | h | h
  ·cases h
  ·cases h
  ·intro e; exact h (by rw [e]; rfl)
 have hg1 := own_hi o1 g1 rfl
 have hg2 := own_hi o2 g2 rfl
 have HV4 := Lib.hid (own_hi o4)
 obtain ⟨W1, hW1⟩ : ∃ W, (w.alloc (.cells #[.slice (some ⟨g1, 0, none⟩) 6 c1, .slice (some ⟨g2, 0, none⟩) 2 c2, .slice A3 B.pd.length c3, .slice A4 B.dr.length c4, .int .i64 B.sq, .int .i64 B.bs, .int .i64 B.sf, .int .i64 B.at_, .int .i64 B.df] 28)).alloc (.cells zB_ 28) = W := ⟨_, rfl⟩
 have S1 : W1.heap.size = w.heap.size + 2 := by rw [← hW1]; simp
 have hV1 := Lib.hid (show Blk W1 w.heap.size 28 #[.slice (some ⟨g1, 0, none⟩) 6 c1, .slice (some ⟨g2, 0, none⟩) 2 c2, .slice A3 B.pd.length c3, .slice A4 B.dr.length c4, .int .i64 B.sq, .int .i64 B.bs, .int .i64 B.sf, .int .i64 B.at_, .int .i64 B.df] by rw [← hW1]; exact (Blk.new' _ _ _ _ rfl).alloc _)
 have hR1 := Lib.hid (show Blk W1 (w.heap.size + 1) 28 zB_ by rw [← hW1]; exact Blk.new' _ _ _ _ (by simp))
 have B1 : Below lo w W1 := by rw [← hW1]; exact ((Below.refl lo w).alloc hlo1 _).alloc (by simp; omega) _
 have O1 := Lib.hid (hW1 ▸ (o1.alloc (.cells #[.slice (some ⟨g1, 0, none⟩) 6 c1, .slice (some ⟨g2, 0, none⟩) 2 c2, .slice A3 B.pd.length c3, .slice A4 B.dr.length c4, .int .i64 B.sq, .int .i64 B.bs, .int .i64 B.sf, .int .i64 B.at_, .int .i64 B.df] 28)).alloc (.cells zB_ 28))
 have O2 := Lib.hid (hW1 ▸ (o2.alloc (.cells #[.slice (some ⟨g1, 0, none⟩) 6 c1, .slice (some ⟨g2, 0, none⟩) 2 c2, .slice A3 B.pd.length c3, .slice A4 B.dr.length c4, .int .i64 B.sq, .int .i64 B.bs, .int .i64 B.sf, .int .i64 B.at_, .int .i64 B.df] 28)).alloc (.cells zB_ 28))
 have O3 := Lib.hid (hW1 ▸ (o3.alloc (.cells #[.slice (some ⟨g1, 0, none⟩) 6 c1, .slice (some ⟨g2, 0, none⟩) 2 c2, .slice A3 B.pd.length c3, .slice A4 B.dr.length c4, .int .i64 B.sq, .int .i64 B.bs, .int .i64 B.sf, .int .i64 B.at_, .int .i64 B.df] 28)).alloc (.cells zB_ 28))
 have O4 := Lib.hid (hW1 ▸ (o4.alloc (.cells #[.slice (some ⟨g1, 0, none⟩) 6 c1, .slice (some ⟨g2, 0, none⟩) 2 c2, .slice A3 B.pd.length c3, .slice A4 B.dr.length c4, .int .i64 B.sq, .int .i64 B.bs, .int .i64 B.sf, .int .i64 B.at_, .int .i64 B.df] 28)).alloc (.cells zB_ 28))
 have K1 : ∀ i, i < w.heap.size → W1.heap[i]? = w.heap[i]? := by rw [← hW1]; exact (belA (belA (bel0 w) _) _).block
 have HW1 := Lib.hid hW1
 have Hp := Lib.hid hp
 have D13 := Lib.hid d13
 have D14 := Lib.hid d14
 have D23 := Lib.hid d23
 have D24 := Lib.hid d24
 clear hW1 o1 o2 o3 o4 hp d12 d13 d14 d23 d24
 go_enter Tryz.func51, Tryz.ntmps51
 go_wp2_with fail
 rw [HW1.out]
 go_loopw [7] (fun i wr => ∃ k : Nat, k ≤ B.pd.length ∧ i = .int .i64 k ∧ Hid (Blk wr w.heap.size 28 #[.slice (some ⟨g1, 0, none⟩) 6 c1, .slice (some ⟨g2, 0, none⟩) 2 c2, .slice A3 B.pd.length c3, .slice A4 B.dr.length c4, .int .i64 B.sq, .int .i64 B.bs, .int .i64 B.sf, .int .i64 B.at_, .int .i64 B.df]) ∧ Hid (Blk wr (w.heap.size + 1) 28 zB_) ∧ Hid (wr.ownsRow base 9 1 (.slice (some ⟨g1, 0, none⟩) 6 c1) 6 (SS (wrmB m B.rg B.hm B.pd k).1)) ∧ Hid (wr.ownsRow base 9 1 (.slice (some ⟨g2, 0, none⟩) 2 c2) 2 (SS (wrmB m B.rg B.hm B.pd k).2)) ∧ Hid (wr.ownsRow base 55 2 (.slice A3 B.pd.length c3) B.pd.length (RS B.pd)) ∧ Hid (wr.ownsRow base 66 4 (.slice A4 B.dr.length c4) B.dr.length (ES B.dr)) ∧ Below lo w wr ∧ w.heap.size + 2 ≤ wr.heap.size ∧ Hid (∀ i, i < w.heap.size → i ≠ g1 → i ≠ g2 → wr.heap[i]? = w.heap[i]?))
  (fun i _ => B.pd.length - (intOf i).toNat)
 case atStart => exact ⟨0, by omega, rfl, hV1.out, hR1.out, by rw [wrm_0]; exact O1.out, by rw [wrm_0]; exact O2.out, O3.out, O4.out, B1, by omega, fun i hi _ _ => K1 i hi⟩
 case round =>
  obtain ⟨k, hk, rfl, hB, hR, P1, P2, P3, P4, hbel, hsz, HK⟩ := hrel
  have lB := hB.out.lt
  have x0 := hB.out.get (x := .slice (some ⟨g1, 0, none⟩) 6 c1) 0 rfl
  have x1 := hB.out.get (x := .slice (some ⟨g2, 0, none⟩) 2 c2) 1 rfl
  have x2 := hB.out.get (x := .slice A3 B.pd.length c3) 2 rfl
  by_cases hlt : k < B.pd.length
  ·have k20 : k < 20 := by omega
   by_cases hm0 : m < 0
   ·have hoff := Lib.hid (wrm_off (m := m) (rg := B.rg) (hm := B.hm) hlt (bit_neg hm0))
    go_wp2
    go_roundw
    case rel => exact ⟨k + 1, by omega, by go_num, hB.out, hR.out, by show World.ownsRow _ _ _ _ _ _ _; rw [hoff.out]; exact P1.out, by show World.ownsRow _ _ _ _ _ _ _; rw [hoff.out]; exact P2.out, P3.out, P4.out, hbel, hsz, HK.out⟩
    case measure => simp [intOf]; omega
   have m0 : (0 : Int) ≤ m := by omega

   by_cases hbit : bitB m k = true
   ·have hbq := bit_one m0 hm k20 hbit
    obtain ⟨A', c', he, _, _, hr⟩ := own_vals P3.out
    simp only [Value.slice.injEq] at he
    obtain ⟨rfl, _, rfl⟩ := he
    obtain ⟨hkx, b, o, hA3, hadb, z0, z1⟩ := reads_rec hr hlt
    have q0 : (0 : Int) ≤ ↑k := by omega
    have q1 : (↑k : Int) < ↑B.pd.length := by omega
    have hws := Lib.hid (wrm_on (m := m) (rg := B.rg) (hm := B.hm) hkx hbit)
    have hpe := inI_t.1 (Hp.out _ (List.getElem_mem hkx))
    obtain ⟨e, hee⟩ : ∃ e, B.pd[k] = e := ⟨_, rfl⟩
    rw [hee] at z0 z1 hws hpe
    subst hA3
    obtain ⟨hx0, hx7⟩ := hpe
    clear hee hr
    obtain ⟨xx, tt⟩ := e
    simp only at z0 z1 hws hx0 hx7
    obtain ⟨q, rfl⟩ : ∃ q : Nat, xx = (q : Int) := ⟨xx.toNat, by omega⟩
    by_cases h6 : (q : Int) < 6
    ·have hq6 : q < 6 := by omega
     have hw := Lib.hid (show wrB (wrmB m B.rg B.hm B.pd k) ((q : Int), tt) = ((wrmB m B.rg B.hm B.pd k).1.set q tt, (wrmB m B.rg B.hm B.pd k).2) by unfold wrB; rw [if_pos h6]; simp)
     have hcell := (P1.out).cellAt q (by omega)
     have hlen := (P1.out).1
     rw [List.getElem?_eq_getElem (by omega)] at hcell
     have f1 := own_frozen P1.out q
     have q2 : (0 : Int) ≤ (q : Int) := by omega
     have q3 : (q : Int) < 6 := by omega
     have lg := own_hi P1.out _ rfl
     have hlg : lo ≤ g1 := Nat.le_trans hlo2 (own_lo P1.out _ rfl)
     have Ra := Lib.hid ((own_set P1.out q (.string tt)).alloc (.cells #[.int .i64 (q : Int), .string tt] 55))
     have Rb := Lib.hid ((P2.out.kept (only_sc (grown_refl wr (some g1)) q (.string tt)) (.inr (by simp [Value.ownBlock]; exact fun h => hne h.symm))).alloc (.cells #[.int .i64 (q : Int), .string tt] 55))
     have R3 := Lib.hid ((P3.out.kept (only_sc (grown_refl wr (some g1)) q (.string tt)) (D13.out.symm.l)).alloc (.cells #[.int .i64 (q : Int), .string tt] 55))
     have R4 := Lib.hid ((P4.out.kept (only_sc (grown_refl wr (some g1)) q (.string tt)) (D14.out.symm.l)).alloc (.cells #[.int .i64 (q : Int), .string tt] 55))
     have hB2 := Lib.hid ((hB.out.far (p := ⟨g1, q, none⟩) (by simp only; omega) (.string tt)).alloc (.cells #[.int .i64 (q : Int), .string tt] 55))
     have hR2 := Lib.hid ((hR.out.far (p := ⟨g1, q, none⟩) (by simp only; omega) (.string tt)).alloc (.cells #[.int .i64 (q : Int), .string tt] 55))
     have hk2 := Lib.hid (fun i hi ha hb => (Below.heap_alloc (wr.setCell ⟨g1, q, none⟩ (.string tt)) (.cells #[.int .i64 (q : Int), .string tt] 55) i (by rw [sz_sc]; omega)).trans ((Below.heap_setCell wr ⟨g1, q, none⟩ (.string tt) i (by simp only; omega)).trans (HK.out i hi ha hb)))
     have hb2 := (hbel.setCell (p := ⟨g1, q, none⟩) hlg (.string tt)).alloc (by rw [sz_sc]; omega) (.cells #[.int .i64 (q : Int), .string tt] 55)
     go_wp2
     go_roundw
     case rel =>
      refine ⟨k + 1, by omega, by go_num, hB2.out, hR2.out, ?_, ?_, R3.out, R4.out, hb2, by simp; omega, hk2.out⟩
      ·show World.ownsRow _ _ _ _ _ _ _; rw [hws.out, hw.out]; rw [SS_set]; exact Ra.out
      ·show World.ownsRow _ _ _ _ _ _ _; rw [hws.out, hw.out]; exact Rb.out
     case measure => simp [intOf]; omega

    ·obtain ⟨u, hm6⟩ : ∃ u : Nat, (q : Int) = (u : Int) + 6 := ⟨q - 6, by omega⟩
     have w7 : (q : Int) - 6 = (u : Int) := by omega
     have w6 : IntKind.i64.wrap ((q : Int) - 6) = (u : Int) := by rw [IntKind.wrap_i64]; omega
     have w5 : IntKind.i64.wrap (u : Int) = (u : Int) := by rw [IntKind.wrap_i64]; omega
     have hm2 : u < 2 := by omega
     have hw := Lib.hid (show wrB (wrmB m B.rg B.hm B.pd k) ((q : Int), tt) = ((wrmB m B.rg B.hm B.pd k).1, (wrmB m B.rg B.hm B.pd k).2.set u tt) by unfold wrB; rw [if_neg h6]; show (_, List.set _ ((q : Int) - 6).toNat tt) = _; rw [w7]; simp)
     replace hm6 := Lib.hid hm6
     have hcell := (P2.out).cellAt u (by omega)
     have hlen := (P2.out).1
     rw [List.getElem?_eq_getElem (by omega)] at hcell
     have f1 := own_frozen P2.out u
     have q2 : (0 : Int) ≤ (u : Int) := by omega
     have q3 : (u : Int) < 2 := by omega
     have lg := own_hi P2.out _ rfl
     have hlg : lo ≤ g2 := Nat.le_trans hlo2 (own_lo P2.out _ rfl)
     have Ra := Lib.hid ((own_set P2.out u (.string tt)).alloc (.cells #[.int .i64 (q : Int), .string tt] 55))
     have Rb := Lib.hid ((P1.out.kept (only_sc (grown_refl wr (some g2)) u (.string tt)) (.inr (by simp [Value.ownBlock]; exact fun h => hne h))).alloc (.cells #[.int .i64 (q : Int), .string tt] 55))
     have R3 := Lib.hid ((P3.out.kept (only_sc (grown_refl wr (some g2)) u (.string tt)) (D23.out.symm.l)).alloc (.cells #[.int .i64 (q : Int), .string tt] 55))
     have R4 := Lib.hid ((P4.out.kept (only_sc (grown_refl wr (some g2)) u (.string tt)) (D24.out.symm.l)).alloc (.cells #[.int .i64 (q : Int), .string tt] 55))
     have hB2 := Lib.hid ((hB.out.far (p := ⟨g2, u, none⟩) (by simp only; omega) (.string tt)).alloc (.cells #[.int .i64 (q : Int), .string tt] 55))
     have hR2 := Lib.hid ((hR.out.far (p := ⟨g2, u, none⟩) (by simp only; omega) (.string tt)).alloc (.cells #[.int .i64 (q : Int), .string tt] 55))
     have hk2 := Lib.hid (fun i hi ha hb => (Below.heap_alloc (wr.setCell ⟨g2, u, none⟩ (.string tt)) (.cells #[.int .i64 (q : Int), .string tt] 55) i (by rw [sz_sc]; omega)).trans ((Below.heap_setCell wr ⟨g2, u, none⟩ (.string tt) i (by simp only; omega)).trans (HK.out i hi ha hb)))
     have hb2 := (hbel.setCell (p := ⟨g2, u, none⟩) hlg (.string tt)).alloc (by rw [sz_sc]; omega) (.cells #[.int .i64 (q : Int), .string tt] 55)
     go_wp2
     go_roundw
     case rel =>
      refine ⟨k + 1, by omega, by go_num, hB2.out, hR2.out, ?_, ?_, R3.out, R4.out, hb2, by simp; omega, hk2.out⟩
      ·show World.ownsRow _ _ _ _ _ _ _; rw [hws.out, hw.out]; exact Rb.out
      ·show World.ownsRow _ _ _ _ _ _ _; rw [hws.out, hw.out]; rw [SS_set]; exact Ra.out
     case measure => simp [intOf]; omega

   ·have hoff := Lib.hid (wrm_off (m := m) (rg := B.rg) (hm := B.hm) hlt (by simpa using hbit))
    have hbq := bit_zero m0 hm k20 (by simpa using hbit)
    go_wp2
    go_roundw
    case rel => exact ⟨k + 1, by omega, by go_num, hB.out, hR.out, by show World.ownsRow _ _ _ _ _ _ _; rw [hoff.out]; exact P1.out, by show World.ownsRow _ _ _ _ _ _ _; rw [hoff.out]; exact P2.out, P3.out, P4.out, hbel, hsz, HK.out⟩
    case measure => simp [intOf]; omega
  ·obtain rfl : k = B.pd.length := by omega
   have l2 := hR.out.lt
   have x3 := hB.out.get 3 rfl
   have x4 := hB.out.get 4 rfl
   have x5 := hB.out.get 5 rfl
   have x6 := hB.out.get 6 rfl
   have x7 := hB.out.get 7 rfl
   have x8 := hB.out.get 8 rfl
   obtain ⟨p0, p1, p2, p3, p4, p5, p6, p7, p8⟩ := hR.out.g9
   obtain ⟨y0, y1, y2, y3, y4, y5, y6, y7, y8⟩ := hR.out.f9
   have f2 := hB.out.frozen 2
   go_wp2
   obtain ⟨w9, h9, hB9, s9, hb9, ho9⟩ := put9n (wr.setCell ⟨w.heap.size, 2, none⟩ (.slice (some ⟨wr.heap.size, 0, none⟩) 0 0)) (w.heap.size + 1) 28 (.slice (some ⟨g1, 0, none⟩) 6 c1) (.slice (some ⟨g2, 0, none⟩) 2 c2) (.slice (some ⟨wr.heap.size, 0, none⟩) 0 0) (.slice A4 B.dr.length c4) (.int .i64 B.sq) (.int .i64 B.bs) (.int .i64 B.sf) (.int .i64 B.at_) (.int .i64 B.df) (.slice none 0 0) (.slice none 0 0) (.slice none 0 0) (.slice none 0 0) (.int .i64 0) (.int .i64 0) (.int .i64 0) (.int .i64 0) (.int .i64 0) (hR.out.far (by simp) _)
   rw [h9]
   rw [sz_sc] at s9
   clear h9 x0 p0 y0 x1 p1 y1 x2 p2 y2 x3 p3 y3 x4 p4 y4 x5 p5 y5 x6 p6 y6 x7 p7 y7 x8 p8 y8 f2 lB l2
   have hB8 := hB9.alloc (.cells #[] 55)
   obtain ⟨r0, r1, r2, r3, r4, r5, r6, r7, r8⟩ := hB8.g9
   have hlit := World.ownsRow_lit (e := 55) (size := 2) w9 #[] 0 (Nat.le_refl _) (by unfold maxLen; omega) rfl
   rw [s9] at hlit
   refine bodyPost_ret (v := .agg #[.slice (some ⟨g1, 0, none⟩) 6 c1, .slice (some ⟨g2, 0, none⟩) 2 c2, .slice (some ⟨wr.heap.size, 0, none⟩) 0 0, .slice A4 B.dr.length c4, .int .i64 B.sq, .int .i64 B.bs, .int .i64 B.sf, .int .i64 B.at_, .int .i64 B.df]) (by simp [results, Tryz.results51, go_sem, r0, r1, r2, r3, r4, r5, r6, r7, r8]) rfl ⟨wr.heap.size, rfl, by omega, ?_, ?_, ?_, ?_, (hb9 _ _ (by omega) (hbel.setCell (p := ⟨w.heap.size, 2, none⟩) hlo1 _)).alloc (by omega) _, fun i hi ha hb => (Below.heap_alloc _ _ i (by omega)).trans ((ho9 i (by omega)).trans ((Below.heap_setCell wr ⟨w.heap.size, 2, none⟩ _ i (by simp only; omega)).trans (HK.out i hi ha hb)))⟩
   ·exact (own_eqN (own_scN (g := w.heap.size) P1.out 2 (fun j hj => by have hj2 : g1 = j := (by simpa [Value.ownBlock] using hj); omega) _) (fun j hj => ho9 j (by have hj2 : g1 = j := (by simpa [Value.ownBlock] using hj); omega))).alloc _
   ·exact (own_eqN (own_scN (g := w.heap.size) P2.out 2 (fun j hj => by have hj2 : g2 = j := (by simpa [Value.ownBlock] using hj); omega) _) (fun j hj => ho9 j (by have hj2 : g2 = j := (by simpa [Value.ownBlock] using hj); omega))).alloc _
   ·exact own_more hlit (by omega)
   ·exact (own_eqN (own_scN (g := w.heap.size) P4.out 2 (fun j hj => by have := HV4.out j hj; omega) _) (fun j hj => ho9 j (by have := HV4.out j hj; omega))).alloc _

end Go.Proofs.YtghgafbfpejinaaGreatDoor
