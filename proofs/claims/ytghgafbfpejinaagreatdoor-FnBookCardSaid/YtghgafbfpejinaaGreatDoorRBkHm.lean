/- A home is drafted, in both packages. -/
import Derived.Test.YtghgafbfpejinaaGreatDoorRBkDo
namespace Go.Proofs.YtghgafbfpejinaaGreatDoor
open Go Go.RowKit

theorem cellSA {w : World} {p a : Addr} {u v : Value} {o : Obj} (h : w.cell? a = some u) (hne : p ≠ a) : ((w.setCell p v).alloc o).cell? a = some u := by
 have h1 : (w.setCell p v).cell? a = some u := by rw [World.cell?_setCell_other w p a v hne]; exact h
 exact (World.cell?_alloc_lt _ o a (World.block_lt_of_cell? _ a h1)).trans h1
theorem cellAl {w : World} {a : Addr} {u : Value} {o : Obj} (h : w.cell? a = some u) : (w.alloc o).cell? a = some u := (World.cell?_alloc_lt _ o a (World.block_lt_of_cell? _ a h)).trans h
theorem hm_own {lo g1 e1 g2 e2 gv cv c4 : Nat} {A4 : Option Addr} {B : BookD} {x fat fbs : Int} {t : ByteArray} {w : World} (h1 : B.rg.length = 6) (h2 : B.hm.length = 2) (ha : (flB B).at_ = fat) (hb : (flB B).bs = fbs)
  (p1 : w.ownsRow lo 9 1 (.slice (some ⟨g1, 0, none⟩) 6 e1) 6 (SS (flB B).rg)) (p2 : w.ownsRow lo 9 1 (.slice (some ⟨g2, 0, none⟩) 2 e2) 2 (SS (flB B).hm)) (p3 : w.ownsRow lo 55 2 (.slice (some ⟨gv, 0, none⟩) 1 cv) 1 (RS [(x, t)])) (p4 : w.ownsRow lo 66 4 (.slice A4 B.dr.length c4) B.dr.length (ES B.dr))
  (d12 : Dis (.slice (some ⟨g1, 0, none⟩) 6 e1) (.slice (some ⟨g2, 0, none⟩) 2 e2)) (d13 : Dis (.slice (some ⟨g1, 0, none⟩) 6 e1) (.slice (some ⟨gv, 0, none⟩) 1 cv)) (d14 : Dis (.slice (some ⟨g1, 0, none⟩) 6 e1) (.slice A4 B.dr.length c4)) (d23 : Dis (.slice (some ⟨g2, 0, none⟩) 2 e2) (.slice (some ⟨gv, 0, none⟩) 1 cv)) (d24 : Dis (.slice (some ⟨g2, 0, none⟩) 2 e2) (.slice A4 B.dr.length c4)) (d34 : Dis (.slice (some ⟨gv, 0, none⟩) 1 cv) (.slice A4 B.dr.length c4)) :
  OwnBk lo (.agg #[.slice (some ⟨g1, 0, none⟩) 6 e1, .slice (some ⟨g2, 0, none⟩) 2 e2, .slice (some ⟨gv, 0, none⟩) 1 cv, .slice A4 B.dr.length c4, .int .i64 B.sq, .int .i64 fbs, .int .i64 B.sq, .int .i64 fat, .int .i64 B.sq]) ⟨(flB B).rg, (flB B).hm, [(x, t)], B.dr, B.sq, (flB B).bs, B.sq, fat, B.sq⟩ w := by
 obtain ⟨l1, l2⟩ := fl_len h1 h2
 subst ha hb
 refine ⟨.slice (some ⟨g1, 0, none⟩) 6 e1, .slice (some ⟨g2, 0, none⟩) 2 e2, .slice (some ⟨gv, 0, none⟩) 1 cv, .slice A4 B.dr.length c4, ⟨some ⟨g1, 0, none⟩, e1, some ⟨g2, 0, none⟩, e2, some ⟨gv, 0, none⟩, cv, A4, c4, ?_, ?_, rfl, rfl, ?_⟩, ?_, ?_, p3, p4, d12, d13, d14, d23, d24, d34⟩
 ·simp only [l1]
 ·simp only [l2]
 ·rfl
 ·simp only [l1]; exact p1
 ·simp only [l2]; exact p2

set_option maxRecDepth 100000 in
set_option maxHeartbeats 8000000 in
theorem bookHome_impl0 (v : Value) (B : BookD) (sm : szBk B ≤ 1048576) (w : World) (hT : Tab w) (h : IsBook w v B) :
  Calls Tryz.prog 11 #[v] w fun e w' => FlPost w (homeBk B) e w' ∧ Below w.heap.size w w' := by
 obtain ⟨A1, c1, A2, c2, A3, c3, A4, c4, rfl, h⟩ := h
 have HT := Lib.hid hT
 clear hT
 have H := Lib.hid h
 clear h
 obtain ⟨W1, hW1⟩ : ∃ W, (w.alloc (.cells #[.slice A1 B.rg.length c1, .slice A2 B.hm.length c2, .slice A3 B.pd.length c3, .slice A4 B.dr.length c4, .int .i64 B.sq, .int .i64 B.bs, .int .i64 B.sf, .int .i64 B.at_, .int .i64 B.df] 28)).alloc (.cells zB_ 28) = W := ⟨_, rfl⟩
 have B1 : Below w.heap.size w W1 := by rw [← hW1]; exact belA (belA (bel0 w) _) _
 have S1 : W1.heap.size = w.heap.size + 2 := by rw [← hW1]; simp
 have V1 := Lib.hid (show Blk W1 w.heap.size 28 #[.slice A1 B.rg.length c1, .slice A2 B.hm.length c2, .slice A3 B.pd.length c3, .slice A4 B.dr.length c4, .int .i64 B.sq, .int .i64 B.bs, .int .i64 B.sf, .int .i64 B.at_, .int .i64 B.df] by rw [← hW1]; exact (Blk.new' _ _ _ _ rfl).alloc _)
 have R1 := Lib.hid (show Blk W1 (w.heap.size + 1) 28 zB_ by rw [← hW1]; exact Blk.new' _ _ _ _ (by simp))
 have HW1 := Lib.hid hW1
 clear hW1
 have Hb1 := Lib.hid (show IsBook W1 (.agg #[.slice A1 B.rg.length c1, .slice A2 B.hm.length c2, .slice A3 B.pd.length c3, .slice A4 B.dr.length c4, .int .i64 B.sq, .int .i64 B.bs, .int .i64 B.sf, .int .i64 B.at_, .int .i64 B.df]) B from ⟨_, _, _, _, _, _, _, _, rfl, H.out.next B1⟩)
 go_enter Tryz.func11, Tryz.ntmps11
 go_wp2_with fail
 rw [HW1.out]
 refine (bookOk_impl _ B sm W1 (HT.out.bl B1) Hb1.out).mono ?_
 rintro e w1 ⟨rfl, hb1⟩
 have B2 := belN B1 hb1
 have s1 := hb1.size
 have V2 := Lib.hid (V1.out.below hb1 V1.out.lt)
 have R2 := Lib.hid (R1.out.below hb1 R1.out.lt)
 have Hb2 := Lib.hid (Hb1.out.next hb1)
 clear V1 R1 Hb1
 rcases hok : bookOkB B with _ | _
 ·have Hf := Lib.hid (homeBk_bad hok)
  clear hok
  obtain ⟨q0, q1, q2, q3, q4, q5, q6, q7, q8⟩ := R2.out.g9
  obtain ⟨p0, p1, p2, p3, p4, p5, p6, p7, p8⟩ := R2.out.f9
  have l2 := R2.out.lt
  go_wp2
  obtain ⟨w9, h9, hB9, s9, hb9, ho9⟩ := put9 w1 (w.heap.size + 1) 28 (.slice none 0 0) (.slice none 0 0) (.slice none 0 0) (.slice none 0 0) (.int .i64 0) (.int .i64 0) (.int .i64 0) (.int .i64 0) (.int .i64 0) (.slice none 0 0) (.slice none 0 0) (.slice none 0 0) (.slice none 0 0) (.int .i64 0) (.int .i64 0) (.int .i64 0) (.int .i64 0) (.int .i64 0) R2.out
  rw [h9]
  clear h9 l2 q0 q1 q2 q3 q4 q5 q6 q7 q8 p0 p1 p2 p3 p4 p5 p6 p7 p8
  obtain ⟨r0, r1, r2, r3, r4, r5, r6, r7, r8⟩ := hB9.g9
  refine bodyPost_ret (v := .tuple #[.agg zB_, .bool false]) (by simp [results, Tryz.results11, go_sem, r0, r1, r2, r3, r4, r5, r6, r7, r8]) rfl ⟨⟨zeroBk, false, _, Hf.out, rfl, zero_own _ _⟩, hb9 _ _ (by omega) B2⟩
 have HP := Lib.hid (bk_is hok)
 have Hok := Lib.hid hok
 clear hok
 have h6 := HP.out.r
 have h2 := HP.out.h
 have hq := HP.out.q
 have hd := dir12 HP.out.d
 have Hlen := Lib.hid (show B.rg.length ≤ 100000 ∧ B.hm.length ≤ 100000 ∧ B.pd.length ≤ 100000 ∧ B.dr.length ≤ 100000 by omega)
 have H6 := Lib.hid h6
 have H2 := Lib.hid h2
 have hpn : B.pd.length ≤ 100000 := by omega
 have hdn : B.dr.length ≤ 12 := hd
 clear h6 h2 hq hd
 obtain ⟨x0, x1, x2, x3, x4, x5, x6, x7, x8⟩ := V2.out.g9
 have l1 := V2.out.lt
 go_wp2_with fail
 clear l1 x0 x1 x2 x3 x4 x5 x6 x7 x8
 refine (copyBook_impl _ B Hlen.out w1 Hb2.out).mono ?_
 rintro e w2 ⟨v', rfl, hO, hb2⟩
 have HIn := Lib.hid (own_bk_in hO)
 obtain ⟨_, _, _, _, ⟨F1, e1, F2, e2, A3', c3', A4', c4', rfl, rfl, rfl, rfl, rfl⟩, o1, o2, o3, o4, d12, d13, d14, d23, d24, d34⟩ := hO
 obtain ⟨g1, k1, he⟩ := own_form1 o1 (by have := H6.out; omega)
 simp only [Value.slice.injEq] at he
 obtain ⟨rfl, _, rfl⟩ := he
 obtain ⟨g2, k2, he⟩ := own_form1 o2 (by have := H2.out; omega)
 simp only [Value.slice.injEq] at he
 obtain ⟨rfl, _, rfl⟩ := he
 rw [H6.out] at o1 d12 d13 d14 HIn ⊢
 rw [H2.out] at o2 d12 d23 d24 HIn ⊢
 have B3 := belN B2 hb2
 have s2 := hb2.size
 have R3 := Lib.hid (R2.out.below hb2 R2.out.lt)
 have V3 := Lib.hid (V2.out.below hb2 V2.out.lt)
 have lr := R2.out.lt
 clear R2 V2 Hb2
 have O1 := Lib.hid o1
 have O2 := Lib.hid o2
 have O3 := Lib.hid o3
 have O4 := Lib.hid o4
 have DD := Lib.hid (show _ ∧ _ ∧ _ ∧ _ ∧ _ from ⟨d12, d13, d14, d23, d24⟩)
 clear o1 o2 o3 o4 d12 d13 d14 d23 d24 d34
 obtain ⟨W3, hW3⟩ : ∃ W, w2.alloc (.cells #[.slice (some ⟨g1, 0, none⟩) 6 e1, .slice (some ⟨g2, 0, none⟩) 2 e2, .slice A3' B.pd.length c3', .slice A4' B.dr.length c4', .int .i64 B.sq, .int .i64 B.bs, .int .i64 B.sf, .int .i64 B.at_, .int .i64 B.df] 28) = W := ⟨_, rfl⟩
 have hb3 : Below w2.heap.size w2 W3 := by rw [← hW3]; exact belA (bel0 _) _
 have hG := Lib.hid (show Blk W3 w2.heap.size 28 #[.slice (some ⟨g1, 0, none⟩) 6 e1, .slice (some ⟨g2, 0, none⟩) 2 e2, .slice A3' B.pd.length c3', .slice A4' B.dr.length c4', .int .i64 B.sq, .int .i64 B.bs, .int .i64 B.sf, .int .i64 B.at_, .int .i64 B.df] by rw [← hW3]; exact Blk.new' _ _ _ _ rfl)
 have s3 : W3.heap.size = w2.heap.size + 1 := by rw [← hW3]; simp
 have P1 := Lib.hid (own_below O1.out hb3 (Nat.le_refl _))
 have P2 := Lib.hid (own_below O2.out hb3 (Nat.le_refl _))
 have P3 := Lib.hid (own_below O3.out hb3 (Nat.le_refl _))
 have P4 := Lib.hid (own_below O4.out hb3 (Nat.le_refl _))
 have NG1 := Lib.hid (show ∀ k, (.slice (some ⟨g1, 0, none⟩) 6 e1 : Value).ownBlock = some k → k ≠ w2.heap.size from fun k hk => by have := own_hi O1.out k hk; omega)
 have NG2 := Lib.hid (show ∀ k, (.slice (some ⟨g2, 0, none⟩) 2 e2 : Value).ownBlock = some k → k ≠ w2.heap.size from fun k hk => by have := own_hi O2.out k hk; omega)
 have NG3 := Lib.hid (show ∀ k, (.slice A3' B.pd.length c3' : Value).ownBlock = some k → k ≠ w2.heap.size from fun k hk => by have := own_hi O3.out k hk; omega)
 have NG4 := Lib.hid (show ∀ k, (.slice A4' B.dr.length c4' : Value).ownBlock = some k → k ≠ w2.heap.size from fun k hk => by have := own_hi O4.out k hk; omega)
 have HIn3 := Lib.hid (HIn.out.next hb3)
 have R4 := Lib.hid (R3.out.below hb3 R3.out.lt)
 have V4 := Lib.hid (V3.out.below hb3 V3.out.lt)
 have B4 := belN B3 hb3
 clear O1 O2 O3 O4 R3 V3 HIn
 have HW3 := Lib.hid hW3
 clear hW3
 go_upto_region 4 with fail
 rw [HW3.out]
 clear HW3
 have NL1 := Lib.hid (own_hi P1.out)
 have NL2 := Lib.hid (own_hi P2.out)
 have NL3 := Lib.hid (own_hi P3.out)
 have NL4 := Lib.hid (own_hi P4.out)
 by_cases hc1 : B.df = 0
 rotate_left
 ·skip
  have Hf := Lib.hid (homeBk_no Hok.out (by exact .inl hc1))
  have eq1 : (B.df == 0) = false := beq_eq_false_iff_ne.2 hc1
  have eq1b : (B.df != 0) = true := by rw [bne, eq1]; rfl
  clear hc1
  obtain ⟨x0, x1, x2, x3, x4, x5, x6, x7, x8⟩ := hG.out.g9
  have l1 := hG.out.lt
  obtain ⟨q0, q1, q2, q3, q4, q5, q6, q7, q8⟩ := R4.out.g9
  obtain ⟨p0, p1, p2, p3, p4, p5, p6, p7, p8⟩ := R4.out.f9
  have l2 := R4.out.lt
  obtain ⟨y0, y1, y2, y3, y4, y5, y6, y7, y8⟩ := V4.out.g9
  have l3 := V4.out.lt
  go_wp2
  obtain ⟨w9, h9, hB9, s9, hb9, ho9⟩ := put9n W3 (w.heap.size + 1) 28 (.slice (some ⟨g1, 0, none⟩) 6 e1) (.slice (some ⟨g2, 0, none⟩) 2 e2) (.slice A3' B.pd.length c3') (.slice A4' B.dr.length c4') (.int .i64 B.sq) (.int .i64 B.bs) (.int .i64 B.sf) (.int .i64 B.at_) (.int .i64 B.df) (.slice none 0 0) (.slice none 0 0) (.slice none 0 0) (.slice none 0 0) (.int .i64 0) (.int .i64 0) (.int .i64 0) (.int .i64 0) (.int .i64 0) R4.out
  rw [h9]
  clear h9 l1 l2 x0 x1 x2 x3 x4 x5 x6 x7 x8 q0 q1 q2 q3 q4 q5 q6 q7 q8 p0 p1 p2 p3 p4 p5 p6 p7 p8 l3 y0 y1 y2 y3 y4 y5 y6 y7 y8
  obtain ⟨r0, r1, r2, r3, r4, r5, r6, r7, r8⟩ := hB9.g9
  have hO9 := HIn3.out.2 w9 (by have := HIn3.out.1; omega) (fun j h1 h2 => ho9 j (by omega))
  refine bodyPost_ret (v := .tuple #[.agg #[.slice (some ⟨g1, 0, none⟩) 6 e1, .slice (some ⟨g2, 0, none⟩) 2 e2, .slice A3' B.pd.length c3', .slice A4' B.dr.length c4', .int .i64 B.sq, .int .i64 B.bs, .int .i64 B.sf, .int .i64 B.at_, .int .i64 B.df], .bool false]) (by simp [results, Tryz.results11, go_sem, r0, r1, r2, r3, r4, r5, r6, r7, r8]) rfl ⟨⟨B, false, _, Hf.out, rfl, own_bk_more hO9 (by omega)⟩, hb9 _ _ (by omega) B4⟩
 have eq1 : (B.df == 0) = true := by rw [hc1]; rfl
 have eq1b : (B.df != 0) = false := by rw [bne, eq1]; rfl
 have Hc1 := Lib.hid hc1
 clear hc1
 by_cases hc2 : B.sq = B.bs
 ·skip
  have Hf := Lib.hid (homeBk_no Hok.out (by exact .inr hc2))
  have eq2 : (B.sq == B.bs) = true := by rw [hc2]; exact beq_self_eq_true _
  clear hc2
  obtain ⟨x0, x1, x2, x3, x4, x5, x6, x7, x8⟩ := hG.out.g9
  have l1 := hG.out.lt
  obtain ⟨q0, q1, q2, q3, q4, q5, q6, q7, q8⟩ := R4.out.g9
  obtain ⟨p0, p1, p2, p3, p4, p5, p6, p7, p8⟩ := R4.out.f9
  have l2 := R4.out.lt
  obtain ⟨y0, y1, y2, y3, y4, y5, y6, y7, y8⟩ := V4.out.g9
  have l3 := V4.out.lt
  go_wp2
  obtain ⟨w9, h9, hB9, s9, hb9, ho9⟩ := put9n W3 (w.heap.size + 1) 28 (.slice (some ⟨g1, 0, none⟩) 6 e1) (.slice (some ⟨g2, 0, none⟩) 2 e2) (.slice A3' B.pd.length c3') (.slice A4' B.dr.length c4') (.int .i64 B.sq) (.int .i64 B.bs) (.int .i64 B.sf) (.int .i64 B.at_) (.int .i64 B.df) (.slice none 0 0) (.slice none 0 0) (.slice none 0 0) (.slice none 0 0) (.int .i64 0) (.int .i64 0) (.int .i64 0) (.int .i64 0) (.int .i64 0) R4.out
  rw [h9]
  clear h9 l1 l2 x0 x1 x2 x3 x4 x5 x6 x7 x8 q0 q1 q2 q3 q4 q5 q6 q7 q8 p0 p1 p2 p3 p4 p5 p6 p7 p8 l3 y0 y1 y2 y3 y4 y5 y6 y7 y8
  obtain ⟨r0, r1, r2, r3, r4, r5, r6, r7, r8⟩ := hB9.g9
  have hO9 := HIn3.out.2 w9 (by have := HIn3.out.1; omega) (fun j h1 h2 => ho9 j (by omega))
  refine bodyPost_ret (v := .tuple #[.agg #[.slice (some ⟨g1, 0, none⟩) 6 e1, .slice (some ⟨g2, 0, none⟩) 2 e2, .slice A3' B.pd.length c3', .slice A4' B.dr.length c4', .int .i64 B.sq, .int .i64 B.bs, .int .i64 B.sf, .int .i64 B.at_, .int .i64 B.df], .bool false]) (by simp [results, Tryz.results11, go_sem, r0, r1, r2, r3, r4, r5, r6, r7, r8]) rfl ⟨⟨B, false, _, Hf.out, rfl, own_bk_more hO9 (by omega)⟩, hb9 _ _ (by omega) B4⟩
 have eq2 : (B.sq == B.bs) = false := beq_eq_false_iff_ne.2 hc2
 have Hf := Lib.hid (homeBk_yes Hok.out (by rintro (h | h); exact h Hc1.out; exact hc2 h))
 clear hc2 Hc1
 obtain ⟨fbs, hfbs⟩ : ∃ x, (flB B).bs = x := ⟨_, rfl⟩
 obtain ⟨fat, hfat⟩ : ∃ x, (flB B).at_ = x := ⟨_, rfl⟩
 have hat := inI_t.1 (bk_is (flB_ok Hok.out)).a
 rw [hfat] at hat
 have wat : IntKind.i64.wrap (7 - fat) = 7 - fat := by rw [IntKind.wrap_i64]; omega
 obtain ⟨th, hth⟩ : ∃ t, showHomeB B.sq B.dr = t := ⟨_, rfl⟩
 have hss := s_short HP.out.d
 have Hfat := Lib.hid hfat
 have Hfbs := Lib.hid hfbs
 have HS := Lib.hid (fun v W (hT : Tab W) (hI : IsS W v B.dr) => by have h := showHome_impl0 B.sq v B.dr (fun e he => by have := hss e he; omega) (by omega) W hT hI; rw [hth] at h; exact h)
 rw [hth, hfat] at Hf
 clear hth hss
 obtain ⟨x0, x1, x2, x3, x4, x5, x6, x7, x8⟩ := hG.out.g9
 have l1 := hG.out.lt
 obtain ⟨y0, y1, y2, y3, y4, y5, y6, y7, y8⟩ := V4.out.g9
 have l3 := V4.out.lt
 go_wp2_with fail
 clear l1 x0 x1 x2 x3 x4 x5 x6 x7 x8 y0 y1 y2 y3 y4 y5 y6 y7 y8 l3
 refine (flush_impl w2.heap.size g1 e1 g2 e2 w1.heap.size w1.heap.size A3' c3' A4' c4' B HP.out.p hpn HP.out.a W3 hG.out s2 (Nat.le_refl _) (fun v hv k hk => ?_) P1.out P2.out P3.out P4.out DD.out.1 DD.out.2.1 DD.out.2.2.1 DD.out.2.2.2.1 DD.out.2.2.2.2).mono ?_
 ·rcases hv with rfl | rfl | rfl | rfl
  ·exact NG1.out k hk
  ·exact NG2.out k hk
  ·exact NG3.out k hk
  ·exact NG4.out k hk
 rintro r w4 ⟨rfl, hB4, p1, p2, p4, hb4⟩
 rw [hfbs, hfat] at hB4
 have U1 := Lib.hid p1
 have U2 := Lib.hid p2
 have U4 := Lib.hid p4
 have s4 := hb4.size
 have hG4 := Lib.hid hB4
 have R5 := Lib.hid (R4.out.below hb4 (by omega))
 have B5 := B4.trans (hb4.mono (by omega))
 clear p1 p2 p4 hB4 hG P1 P2 P3 P4 R4 HIn3 V4
 obtain ⟨x0, x1, x2, x3, x4, x5, x6, x7, x8⟩ := hG4.out.g9
 obtain ⟨y0, y1, y2, y3, y4, y5, y6, y7, y8⟩ := hG4.out.f9
 have l1 := hG4.out.lt
 have hdr := Lib.hid (OwnS.isS (xs := B.dr) U4.out)
 have g7 := hG4.out.get (x := .int .i64 fat) 7 rfl
 have g4 := hG4.out.get (x := .int .i64 B.sq) 4 rfl
 have g3 := hG4.out.get (x := .slice A4' B.dr.length c4') 3 rfl
 go_wp2_with fail
 go_region_held3 (fun w' => w'.cell? ⟨w2.heap.size, 7, none⟩ = some (.int .i64 fat) ∧ w'.cell? ⟨w2.heap.size, 4, none⟩ = some (.int .i64 B.sq) ∧ w'.cell? ⟨w2.heap.size, 3, none⟩ = some (.slice A4' B.dr.length c4'))
  (first | go_keep | exact ⟨keep1 hb10 g7, keep1 hb10 g4, keep1 hb10 g3⟩ | exact ⟨cellSA k7 (by simp), cellSA k4 (by simp), cellSA k3 (by simp)⟩ | exact ⟨cellAl k7, cellAl k4, cellAl k3⟩)
  (first | (go_at_call 22; refine (HS.out _ _ (HT.out.bl B5.drew) (hdr.out.next (bel0 w4).drew)).mono ?_; rintro e w10 ⟨rfl, hb10⟩; have B10 : Below w.heap.size w w10 := (B5.drew).trans (hb10.mono (by have := B5.size; show w.heap.size ≤ w4.heap.size; omega)); have hG10 := (hG4.out.below (bel0 w4).drew hG4.out.lt).below hb10 hG4.out.lt; have R10 := (R5.out.below (bel0 w4).drew R5.out.lt).below hb10 R5.out.lt; have u1 := own_below (own_below U1.out (bel0 w4).drew (Nat.le_refl _)) hb10 (Nat.le_refl _); have u2 := own_below (own_below U2.out (bel0 w4).drew (Nat.le_refl _)) hb10 (Nat.le_refl _); have u4 := own_below (own_below U4.out (bel0 w4).drew (Nat.le_refl _)) hb10 (Nat.le_refl _); have s10 : w4.heap.size ≤ w10.heap.size := hb10.size; have f10 := hG10.frozen 2; have c10 := hG10.get 2 rfl; have l10 := hG10.lt; have k7 := hG10.get (x := .int .i64 fat) 7 rfl; have k4 := hG10.get (x := .int .i64 B.sq) 4 rfl; have k3 := hG10.get (x := .slice A4' B.dr.length c4') 3 rfl))
 clear x0 x1 x2 x3 x4 x5 x6 x7 x8 y0 y1 y2 y3 y4 y5 y6 y7 y8 l1
 go_upto_region 8 with fail
 obtain ⟨W11, hW11⟩ : ∃ W, (w10.setCell ⟨w2.heap.size, 2, none⟩ (.slice (some ⟨w10.heap.size, 0, none⟩) 1 1)).alloc (.cells #[.int .i64 (7 - fat), .string th] 55) = W := ⟨_, rfl⟩
 rw [hW11]
 have lG : w2.heap.size < w10.heap.size := hG10.lt
 have hG11 : Blk W11 w2.heap.size 28 #[.slice (some ⟨g1, 0, none⟩) 6 e1, .slice (some ⟨g2, 0, none⟩) 2 e2, .slice (some ⟨w10.heap.size, 0, none⟩) 1 1, .slice A4' B.dr.length c4', .int .i64 B.sq, .int .i64 fbs, .int .i64 B.sq, .int .i64 fat, .int .i64 0] := by rw [← hW11]; exact (hG10.put 2 (.slice (some ⟨w10.heap.size, 0, none⟩) 1 1) #[.slice (some ⟨g1, 0, none⟩) 6 e1, .slice (some ⟨g2, 0, none⟩) 2 e2, .slice (some ⟨w10.heap.size, 0, none⟩) 1 1, .slice A4' B.dr.length c4', .int .i64 B.sq, .int .i64 fbs, .int .i64 B.sq, .int .i64 fat, .int .i64 0] rfl).alloc _
 have R11 : Blk W11 (w.heap.size + 1) 28 zB_ := by rw [← hW11]; exact (R10.far (p := ⟨w2.heap.size, 2, none⟩) (by show w.heap.size + 1 ≠ w2.heap.size; omega) _).alloc _
 have u11 : W11.ownsRow w1.heap.size 9 1 (.slice (some ⟨g1, 0, none⟩) 6 e1) 6 (SS (flB B).rg) := by rw [← hW11]; exact own_below (own_scN u1 2 NG1.out _) (belA (bel0 _) _) (Nat.le_refl _)
 have u21 : W11.ownsRow w1.heap.size 9 1 (.slice (some ⟨g2, 0, none⟩) 2 e2) 2 (SS (flB B).hm) := by rw [← hW11]; exact own_below (own_scN u2 2 NG2.out _) (belA (bel0 _) _) (Nat.le_refl _)
 have u41 : W11.ownsRow w1.heap.size 66 4 (.slice A4' B.dr.length c4') B.dr.length (ES B.dr) := by rw [← hW11]; exact own_below (own_scN u4 2 NG4.out _) (belA (bel0 _) _) (Nat.le_refl _)
 have u31 : W11.ownsRow w10.heap.size 55 2 (.slice (some ⟨w10.heap.size, 0, none⟩) 1 1) 1 (RS [(7 - fat, th)]) := by
  rw [← hW11]
  have h := own_lit2 (w10.setCell ⟨w2.heap.size, 2, none⟩ (.slice (some ⟨w10.heap.size, 0, none⟩) 1 1)) (.int .i64 (7 - fat)) (.string th) 55 w10.heap.size (by rw [sz_sc]; exact Nat.le_refl _)
  rw [sz_sc] at h
  exact h
 have B11 : Below w.heap.size w W11 := by rw [← hW11]; exact (B10.setCell (p := ⟨w2.heap.size, 2, none⟩) (by show w.heap.size ≤ w2.heap.size; omega) _).alloc (by rw [sz_sc]; omega) _
 have hu1 := own_hi u1
 have hu2 := own_hi u2
 have hu4 := own_hi u4
 have sz11 : W11.heap.size = w10.heap.size + 1 := by rw [← hW11]; simp
 clear hW11 u1 u2 u4 hG10 R10 U1 U2 U4 hG4 R5 f10 c10 l10 B10
 have x4 := hG11.get 4 rfl
 have x8 := hG11.get 8 rfl
 have y8 := hG11.frozen 8
 have l1 := hG11.lt
 go_upto_region 9 with fail
 clear x4 x8 y8 l1
 obtain ⟨W12, hW12⟩ : ∃ W, W11.setCell ⟨w2.heap.size, 8, none⟩ (.int .i64 B.sq) = W := ⟨_, rfl⟩
 rw [hW12]
 have hG12 := Lib.hid (show Blk W12 w2.heap.size 28 #[.slice (some ⟨g1, 0, none⟩) 6 e1, .slice (some ⟨g2, 0, none⟩) 2 e2, .slice (some ⟨w10.heap.size, 0, none⟩) 1 1, .slice A4' B.dr.length c4', .int .i64 B.sq, .int .i64 fbs, .int .i64 B.sq, .int .i64 fat, .int .i64 B.sq] by rw [← hW12]; exact hG11.put 8 (.int .i64 B.sq) #[.slice (some ⟨g1, 0, none⟩) 6 e1, .slice (some ⟨g2, 0, none⟩) 2 e2, .slice (some ⟨w10.heap.size, 0, none⟩) 1 1, .slice A4' B.dr.length c4', .int .i64 B.sq, .int .i64 fbs, .int .i64 B.sq, .int .i64 fat, .int .i64 B.sq] rfl)
 have R12 := Lib.hid (show Blk W12 (w.heap.size + 1) 28 zB_ by rw [← hW12]; exact R11.far (p := ⟨w2.heap.size, 8, none⟩) (by show w.heap.size + 1 ≠ w2.heap.size; omega) _)
 have K1 := Lib.hid (show W12.ownsRow w1.heap.size 9 1 (.slice (some ⟨g1, 0, none⟩) 6 e1) 6 (SS (flB B).rg) by rw [← hW12]; exact own_scN u11 8 NG1.out _)
 have K2 := Lib.hid (show W12.ownsRow w1.heap.size 9 1 (.slice (some ⟨g2, 0, none⟩) 2 e2) 2 (SS (flB B).hm) by rw [← hW12]; exact own_scN u21 8 NG2.out _)
 have K4 := Lib.hid (show W12.ownsRow w1.heap.size 66 4 (.slice A4' B.dr.length c4') B.dr.length (ES B.dr) by rw [← hW12]; exact own_scN u41 8 NG4.out _)
 have K3 := Lib.hid (show W12.ownsRow w10.heap.size 55 2 (.slice (some ⟨w10.heap.size, 0, none⟩) 1 1) 1 (RS [(7 - fat, th)]) by rw [← hW12]; exact own_sc (g := w2.heap.size) u31 8 lG _)
 have B12 : Below w.heap.size w W12 := by rw [← hW12]; exact B11.setCell (p := ⟨w2.heap.size, 8, none⟩) (by show w.heap.size ≤ w2.heap.size; omega) _
 have sz12 : W12.heap.size = W11.heap.size := by rw [← hW12]; exact sz_sc _ _ _
 clear hW12 u11 u21 u41 u31 hG11 R11 B11
 obtain ⟨x0, x1, x2, x3, x4, x5, x6, x7, x8⟩ := hG12.out.g9
 have l1 := hG12.out.lt
 obtain ⟨q0, q1, q2, q3, q4, q5, q6, q7, q8⟩ := R12.out.g9
 obtain ⟨p0, p1, p2, p3, p4, p5, p6, p7, p8⟩ := R12.out.f9
 have l2 := R12.out.lt
 go_wp2
 obtain ⟨w9, h9, hB9, s9, hb9, ho9⟩ := put9 W12 (w.heap.size + 1) 28 (.slice (some ⟨g1, 0, none⟩) 6 e1) (.slice (some ⟨g2, 0, none⟩) 2 e2) (.slice (some ⟨w10.heap.size, 0, none⟩) 1 1) (.slice A4' B.dr.length c4') (.int .i64 B.sq) (.int .i64 fbs) (.int .i64 B.sq) (.int .i64 fat) (.int .i64 B.sq) (.slice none 0 0) (.slice none 0 0) (.slice none 0 0) (.slice none 0 0) (.int .i64 0) (.int .i64 0) (.int .i64 0) (.int .i64 0) (.int .i64 0) R12.out
 rw [h9]
 clear h9 l1 l2 x0 x1 x2 x3 x4 x5 x6 x7 x8 q0 q1 q2 q3 q4 q5 q6 q7 q8 p0 p1 p2 p3 p4 p5 p6 p7 p8
 obtain ⟨r0, r1, r2, r3, r4, r5, r6, r7, r8⟩ := hB9.g9
 refine bodyPost_ret (v := .tuple #[.agg #[.slice (some ⟨g1, 0, none⟩) 6 e1, .slice (some ⟨g2, 0, none⟩) 2 e2, .slice (some ⟨w10.heap.size, 0, none⟩) 1 1, .slice A4' B.dr.length c4', .int .i64 B.sq, .int .i64 fbs, .int .i64 B.sq, .int .i64 fat, .int .i64 B.sq], .bool true]) (by simp [results, Tryz.results11, go_sem, r0, r1, r2, r3, r4, r5, r6, r7, r8]) rfl ⟨⟨_, true, _, Hf.out, rfl, hm_own (lo := w.heap.size) H6.out H2.out Hfat.out Hfbs.out (own_more (ho9 _ _ _ _ _ _ (by omega) K1.out) (by omega)) (own_more (ho9 _ _ _ _ _ _ (by omega) K2.out) (by omega)) (own_more (ho9 _ _ _ _ _ _ (by omega) K3.out) (by omega)) (own_more (ho9 _ _ _ _ _ _ (by omega) K4.out) (by omega)) DD.out.1 (dis_lt w10.heap.size hu1 (own_lo K3.out)) DD.out.2.2.1 (dis_lt w10.heap.size hu2 (own_lo K3.out)) DD.out.2.2.2.2 (dis_lt w10.heap.size hu4 (own_lo K3.out)).symm⟩, hb9 _ _ (by omega) B12⟩

set_option maxRecDepth 100000 in
set_option maxHeartbeats 8000000 in
theorem bookHome_spec0 (v : Value) (B : BookD) (sm : szBk B ≤ 1048576) (w : World) (h : IsBook w v B) :
  Calls Tryz.prog 19 #[v] w fun e w' => FlPost w (homeBk B) e w' ∧ Below w.heap.size w w' := by
 obtain ⟨A1, c1, A2, c2, A3, c3, A4, c4, rfl, h⟩ := h
 have H := Lib.hid h
 clear h
 obtain ⟨W1, hW1⟩ : ∃ W, (w.alloc (.cells #[.slice A1 B.rg.length c1, .slice A2 B.hm.length c2, .slice A3 B.pd.length c3, .slice A4 B.dr.length c4, .int .i64 B.sq, .int .i64 B.bs, .int .i64 B.sf, .int .i64 B.at_, .int .i64 B.df] 28)).alloc (.cells zB_ 28) = W := ⟨_, rfl⟩
 have B1 : Below w.heap.size w W1 := by rw [← hW1]; exact belA (belA (bel0 w) _) _
 have S1 : W1.heap.size = w.heap.size + 2 := by rw [← hW1]; simp
 have V1 := Lib.hid (show Blk W1 w.heap.size 28 #[.slice A1 B.rg.length c1, .slice A2 B.hm.length c2, .slice A3 B.pd.length c3, .slice A4 B.dr.length c4, .int .i64 B.sq, .int .i64 B.bs, .int .i64 B.sf, .int .i64 B.at_, .int .i64 B.df] by rw [← hW1]; exact (Blk.new' _ _ _ _ rfl).alloc _)
 have R1 := Lib.hid (show Blk W1 (w.heap.size + 1) 28 zB_ by rw [← hW1]; exact Blk.new' _ _ _ _ (by simp))
 have HW1 := Lib.hid hW1
 clear hW1
 have Hb1 := Lib.hid (show IsBook W1 (.agg #[.slice A1 B.rg.length c1, .slice A2 B.hm.length c2, .slice A3 B.pd.length c3, .slice A4 B.dr.length c4, .int .i64 B.sq, .int .i64 B.bs, .int .i64 B.sf, .int .i64 B.at_, .int .i64 B.df]) B from ⟨_, _, _, _, _, _, _, _, rfl, H.out.next B1⟩)
 go_enter Tryz.func19, Tryz.ntmps19
 go_wp2_with fail
 rw [HW1.out]
 refine (bookOk_spec _ B sm W1 Hb1.out).mono ?_
 rintro e w1 ⟨rfl, hb1⟩
 have B2 := belN B1 hb1
 have s1 := hb1.size
 have V2 := Lib.hid (V1.out.below hb1 V1.out.lt)
 have R2 := Lib.hid (R1.out.below hb1 R1.out.lt)
 have Hb2 := Lib.hid (Hb1.out.next hb1)
 clear V1 R1 Hb1
 rcases hok : bookOkB B with _ | _
 ·have Hf := Lib.hid (homeBk_bad hok)
  clear hok
  obtain ⟨q0, q1, q2, q3, q4, q5, q6, q7, q8⟩ := R2.out.g9
  obtain ⟨p0, p1, p2, p3, p4, p5, p6, p7, p8⟩ := R2.out.f9
  have l2 := R2.out.lt
  go_wp2
  obtain ⟨w9, h9, hB9, s9, hb9, ho9⟩ := put9 w1 (w.heap.size + 1) 28 (.slice none 0 0) (.slice none 0 0) (.slice none 0 0) (.slice none 0 0) (.int .i64 0) (.int .i64 0) (.int .i64 0) (.int .i64 0) (.int .i64 0) (.slice none 0 0) (.slice none 0 0) (.slice none 0 0) (.slice none 0 0) (.int .i64 0) (.int .i64 0) (.int .i64 0) (.int .i64 0) (.int .i64 0) R2.out
  rw [h9]
  clear h9 l2 q0 q1 q2 q3 q4 q5 q6 q7 q8 p0 p1 p2 p3 p4 p5 p6 p7 p8
  obtain ⟨r0, r1, r2, r3, r4, r5, r6, r7, r8⟩ := hB9.g9
  refine bodyPost_ret (v := .tuple #[.agg zB_, .bool false]) (by simp [results, Tryz.results19, go_sem, r0, r1, r2, r3, r4, r5, r6, r7, r8]) rfl ⟨⟨zeroBk, false, _, Hf.out, rfl, zero_own _ _⟩, hb9 _ _ (by omega) B2⟩
 have HP := Lib.hid (bk_is hok)
 have Hok := Lib.hid hok
 clear hok
 have h6 := HP.out.r
 have h2 := HP.out.h
 have hq := HP.out.q
 have hd := dir12 HP.out.d
 have Hlen := Lib.hid (show B.rg.length ≤ 100000 ∧ B.hm.length ≤ 100000 ∧ B.pd.length ≤ 100000 ∧ B.dr.length ≤ 100000 by omega)
 have H6 := Lib.hid h6
 have H2 := Lib.hid h2
 have hpn : B.pd.length ≤ 100000 := by omega
 have hdn : B.dr.length ≤ 12 := hd
 clear h6 h2 hq hd
 obtain ⟨x0, x1, x2, x3, x4, x5, x6, x7, x8⟩ := V2.out.g9
 have l1 := V2.out.lt
 obtain ⟨y0, y1, y2, y3, y4, y5, y6, y7, y8⟩ := V2.out.f9
 go_wp2_with fail
 clear l1 x0 x1 x2 x3 x4 x5 x6 x7 x8 y0 y1 y2 y3 y4 y5 y6 y7 y8
 refine (l25Copy_any _ B Hlen.out w1 Hb2.out).mono ?_
 rintro e w2 ⟨v', rfl, hO, hb2⟩
 have HIn := Lib.hid (own_bk_in hO)
 obtain ⟨_, _, _, _, ⟨F1, e1, F2, e2, A3', c3', A4', c4', rfl, rfl, rfl, rfl, rfl⟩, o1, o2, o3, o4, d12, d13, d14, d23, d24, d34⟩ := hO
 obtain ⟨g1, k1, he⟩ := own_form1 o1 (by have := H6.out; omega)
 simp only [Value.slice.injEq] at he
 obtain ⟨rfl, _, rfl⟩ := he
 obtain ⟨g2, k2, he⟩ := own_form1 o2 (by have := H2.out; omega)
 simp only [Value.slice.injEq] at he
 obtain ⟨rfl, _, rfl⟩ := he
 rw [H6.out] at o1 d12 d13 d14 HIn ⊢
 rw [H2.out] at o2 d12 d23 d24 HIn ⊢
 have B3 := belN B2 hb2
 have s2 := hb2.size
 have R3 := Lib.hid (R2.out.below hb2 R2.out.lt)
 have V3 := Lib.hid (V2.out.below hb2 V2.out.lt)
 have lr := R2.out.lt
 clear R2 V2 Hb2
 have O1 := Lib.hid o1
 have O2 := Lib.hid o2
 have O3 := Lib.hid o3
 have O4 := Lib.hid o4
 have DD := Lib.hid (show _ ∧ _ ∧ _ ∧ _ ∧ _ from ⟨d12, d13, d14, d23, d24⟩)
 clear o1 o2 o3 o4 d12 d13 d14 d23 d24 d34
 obtain ⟨x0, x1, x2, x3, x4, x5, x6, x7, x8⟩ := V3.out.g9
 obtain ⟨y0, y1, y2, y3, y4, y5, y6, y7, y8⟩ := V3.out.f9
 have l1 := V3.out.lt
 obtain ⟨W3, h3, hG3, s3, hb3, ho3⟩ := put9n w2 w.heap.size 28 (.slice (some ⟨g1, 0, none⟩) 6 e1) (.slice (some ⟨g2, 0, none⟩) 2 e2) (.slice A3' B.pd.length c3') (.slice A4' B.dr.length c4') (.int .i64 B.sq) (.int .i64 B.bs) (.int .i64 B.sf) (.int .i64 B.at_) (.int .i64 B.df) (.slice A1 B.rg.length c1) (.slice A2 B.hm.length c2) (.slice A3 B.pd.length c3) (.slice A4 B.dr.length c4) (.int .i64 B.sq) (.int .i64 B.bs) (.int .i64 B.sf) (.int .i64 B.at_) (.int .i64 B.df) V3.out
 have hG := Lib.hid hG3
 have HW3 := Lib.hid h3
 clear h3 hG3
 go_upto_region 4 with fail
 rw [HW3.out]
 clear HW3 l1 x0 x1 x2 x3 x4 x5 x6 x7 x8 y0 y1 y2 y3 y4 y5 y6 y7 y8
 have P1 := Lib.hid (own_eqN O1.out (fun k hk => ho3 k (by have := own_lo O1.out k hk; omega)))
 have P2 := Lib.hid (own_eqN O2.out (fun k hk => ho3 k (by have := own_lo O2.out k hk; omega)))
 have P3 := Lib.hid (own_eqN O3.out (fun k hk => ho3 k (by have := own_lo O3.out k hk; omega)))
 have P4 := Lib.hid (own_eqN O4.out (fun k hk => ho3 k (by have := own_lo O4.out k hk; omega)))
 have NG1 := Lib.hid (show ∀ k, (.slice (some ⟨g1, 0, none⟩) 6 e1 : Value).ownBlock = some k → k ≠ w.heap.size from fun k hk => by have := own_lo O1.out k hk; omega)
 have NG2 := Lib.hid (show ∀ k, (.slice (some ⟨g2, 0, none⟩) 2 e2 : Value).ownBlock = some k → k ≠ w.heap.size from fun k hk => by have := own_lo O2.out k hk; omega)
 have NG3 := Lib.hid (show ∀ k, (.slice A3' B.pd.length c3' : Value).ownBlock = some k → k ≠ w.heap.size from fun k hk => by have := own_lo O3.out k hk; omega)
 have NG4 := Lib.hid (show ∀ k, (.slice A4' B.dr.length c4' : Value).ownBlock = some k → k ≠ w.heap.size from fun k hk => by have := own_lo O4.out k hk; omega)
 have HIn3 := Lib.hid (show InAt _ w1.heap.size w2.heap.size W3 from ⟨by omega, fun w' h1 h2 => HIn.out.2 w' h1 (fun j h4 h5 => (h2 j h4 h5).trans (ho3 j (by omega)))⟩)
 have R4 := Lib.hid (R3.out.eqN (ho3 _ (by omega)))
 have B4 : Below w.heap.size w W3 := hb3 _ _ (Nat.le_refl _) B3
 clear O1 O2 O3 O4 R3 V3 HIn
 have NL1 := Lib.hid (own_hi P1.out)
 have NL2 := Lib.hid (own_hi P2.out)
 have NL3 := Lib.hid (own_hi P3.out)
 have NL4 := Lib.hid (own_hi P4.out)
 by_cases hc1 : B.df = 0
 rotate_left
 ·skip
  have Hf := Lib.hid (homeBk_no Hok.out (by exact .inl hc1))
  have eq1 : (B.df == 0) = false := beq_eq_false_iff_ne.2 hc1
  have eq1b : (B.df != 0) = true := by rw [bne, eq1]; rfl
  clear hc1
  obtain ⟨x0, x1, x2, x3, x4, x5, x6, x7, x8⟩ := hG.out.g9
  have l1 := hG.out.lt
  obtain ⟨q0, q1, q2, q3, q4, q5, q6, q7, q8⟩ := R4.out.g9
  obtain ⟨p0, p1, p2, p3, p4, p5, p6, p7, p8⟩ := R4.out.f9
  have l2 := R4.out.lt
  go_wp2
  obtain ⟨w9, h9, hB9, s9, hb9, ho9⟩ := put9n W3 (w.heap.size + 1) 28 (.slice (some ⟨g1, 0, none⟩) 6 e1) (.slice (some ⟨g2, 0, none⟩) 2 e2) (.slice A3' B.pd.length c3') (.slice A4' B.dr.length c4') (.int .i64 B.sq) (.int .i64 B.bs) (.int .i64 B.sf) (.int .i64 B.at_) (.int .i64 B.df) (.slice none 0 0) (.slice none 0 0) (.slice none 0 0) (.slice none 0 0) (.int .i64 0) (.int .i64 0) (.int .i64 0) (.int .i64 0) (.int .i64 0) R4.out
  rw [h9]
  clear h9 l1 l2 x0 x1 x2 x3 x4 x5 x6 x7 x8 q0 q1 q2 q3 q4 q5 q6 q7 q8 p0 p1 p2 p3 p4 p5 p6 p7 p8
  obtain ⟨r0, r1, r2, r3, r4, r5, r6, r7, r8⟩ := hB9.g9
  have hO9 := HIn3.out.2 w9 (by have := HIn3.out.1; omega) (fun j h1 h2 => ho9 j (by omega))
  refine bodyPost_ret (v := .tuple #[.agg #[.slice (some ⟨g1, 0, none⟩) 6 e1, .slice (some ⟨g2, 0, none⟩) 2 e2, .slice A3' B.pd.length c3', .slice A4' B.dr.length c4', .int .i64 B.sq, .int .i64 B.bs, .int .i64 B.sf, .int .i64 B.at_, .int .i64 B.df], .bool false]) (by simp [results, Tryz.results19, go_sem, r0, r1, r2, r3, r4, r5, r6, r7, r8]) rfl ⟨⟨B, false, _, Hf.out, rfl, own_bk_more hO9 (by omega)⟩, hb9 _ _ (by omega) B4⟩
 have eq1 : (B.df == 0) = true := by rw [hc1]; rfl
 have eq1b : (B.df != 0) = false := by rw [bne, eq1]; rfl
 have Hc1 := Lib.hid hc1
 clear hc1
 by_cases hc2 : B.sq = B.bs
 ·skip
  have Hf := Lib.hid (homeBk_no Hok.out (by exact .inr hc2))
  have eq2 : (B.sq == B.bs) = true := by rw [hc2]; exact beq_self_eq_true _
  clear hc2
  obtain ⟨x0, x1, x2, x3, x4, x5, x6, x7, x8⟩ := hG.out.g9
  have l1 := hG.out.lt
  obtain ⟨q0, q1, q2, q3, q4, q5, q6, q7, q8⟩ := R4.out.g9
  obtain ⟨p0, p1, p2, p3, p4, p5, p6, p7, p8⟩ := R4.out.f9
  have l2 := R4.out.lt
  go_wp2
  obtain ⟨w9, h9, hB9, s9, hb9, ho9⟩ := put9n W3 (w.heap.size + 1) 28 (.slice (some ⟨g1, 0, none⟩) 6 e1) (.slice (some ⟨g2, 0, none⟩) 2 e2) (.slice A3' B.pd.length c3') (.slice A4' B.dr.length c4') (.int .i64 B.sq) (.int .i64 B.bs) (.int .i64 B.sf) (.int .i64 B.at_) (.int .i64 B.df) (.slice none 0 0) (.slice none 0 0) (.slice none 0 0) (.slice none 0 0) (.int .i64 0) (.int .i64 0) (.int .i64 0) (.int .i64 0) (.int .i64 0) R4.out
  rw [h9]
  clear h9 l1 l2 x0 x1 x2 x3 x4 x5 x6 x7 x8 q0 q1 q2 q3 q4 q5 q6 q7 q8 p0 p1 p2 p3 p4 p5 p6 p7 p8
  obtain ⟨r0, r1, r2, r3, r4, r5, r6, r7, r8⟩ := hB9.g9
  have hO9 := HIn3.out.2 w9 (by have := HIn3.out.1; omega) (fun j h1 h2 => ho9 j (by omega))
  refine bodyPost_ret (v := .tuple #[.agg #[.slice (some ⟨g1, 0, none⟩) 6 e1, .slice (some ⟨g2, 0, none⟩) 2 e2, .slice A3' B.pd.length c3', .slice A4' B.dr.length c4', .int .i64 B.sq, .int .i64 B.bs, .int .i64 B.sf, .int .i64 B.at_, .int .i64 B.df], .bool false]) (by simp [results, Tryz.results19, go_sem, r0, r1, r2, r3, r4, r5, r6, r7, r8]) rfl ⟨⟨B, false, _, Hf.out, rfl, own_bk_more hO9 (by omega)⟩, hb9 _ _ (by omega) B4⟩
 have eq2 : (B.sq == B.bs) = false := beq_eq_false_iff_ne.2 hc2
 have Hf := Lib.hid (homeBk_yes Hok.out (by rintro (h | h); exact h Hc1.out; exact hc2 h))
 clear hc2 Hc1
 obtain ⟨fbs, hfbs⟩ : ∃ x, (flB B).bs = x := ⟨_, rfl⟩
 obtain ⟨fat, hfat⟩ : ∃ x, (flB B).at_ = x := ⟨_, rfl⟩
 have hat := inI_t.1 (bk_is (flB_ok Hok.out)).a
 rw [hfat] at hat
 have wat : IntKind.i64.wrap (7 - fat) = 7 - fat := by rw [IntKind.wrap_i64]; omega
 obtain ⟨th, hth⟩ : ∃ t, showHomeB B.sq B.dr = t := ⟨_, rfl⟩
 have hss := s_short HP.out.d
 have Hfat := Lib.hid hfat
 have Hfbs := Lib.hid hfbs
 have HS := Lib.hid (fun v W (hI : IsS W v B.dr) => by have h := showHome_spec0 B.sq v B.dr (fun e he => by have := hss e he; omega) (by omega) W hI; rw [hth] at h; exact h)
 rw [hth, hfat] at Hf
 clear hth hss
 obtain ⟨x0, x1, x2, x3, x4, x5, x6, x7, x8⟩ := hG.out.g9
 have l1 := hG.out.lt
 obtain ⟨y0, y1, y2, y3, y4, y5, y6, y7, y8⟩ := hG.out.f9
 go_wp2_with fail
 clear l1 x0 x1 x2 x3 x4 x5 x6 x7 x8 y0 y1 y2 y3 y4 y5 y6 y7 y8
 refine (l25Flush_any g1 e1 g2 e2 w1.heap.size w1.heap.size A3' c3' A4' c4' B HP.out.p hpn HP.out.a W3 (by omega) (Nat.le_refl _) P1.out P2.out P3.out P4.out DD.out.1 DD.out.2.1 DD.out.2.2.1 DD.out.2.2.2.1 DD.out.2.2.2.2).mono ?_
 rintro r w4 ⟨gn, rfl, hgn, p1, p2, p3, p4, hb4⟩
 rw [hfbs, hfat]
 have s4 := hb4.size
 have hG4 := Lib.hid (hG.out.below hb4 (by omega))
 have R5 := Lib.hid (R4.out.below hb4 (by omega))
 have B5 := B4.trans (hb4.mono (by omega))
 have U1 := Lib.hid p1
 have U2 := Lib.hid p2
 have U3 := Lib.hid p3
 have U4 := Lib.hid p4
 clear p1 p2 p3 p4 hG P1 P2 P3 P4 R4 HIn3
 obtain ⟨x0, x1, x2, x3, x4, x5, x6, x7, x8⟩ := hG4.out.g9
 obtain ⟨y0, y1, y2, y3, y4, y5, y6, y7, y8⟩ := hG4.out.f9
 have l1 := hG4.out.lt
 obtain ⟨W5, h5, hG5, s5, hb5, ho5⟩ := put9n w4 w.heap.size 28 (.slice (some ⟨g1, 0, none⟩) 6 e1) (.slice (some ⟨g2, 0, none⟩) 2 e2) (.slice (some ⟨gn, 0, none⟩) 0 0) (.slice A4' B.dr.length c4') (.int .i64 B.sq) (.int .i64 fbs) (.int .i64 B.sq) (.int .i64 fat) (.int .i64 0) (.slice (some ⟨g1, 0, none⟩) 6 e1) (.slice (some ⟨g2, 0, none⟩) 2 e2) (.slice A3' B.pd.length c3') (.slice A4' B.dr.length c4') (.int .i64 B.sq) (.int .i64 B.bs) (.int .i64 B.sf) (.int .i64 B.at_) (.int .i64 B.df) hG4.out
 have hGb := Lib.hid hG5
 have HW5 := Lib.hid h5
 clear h5 hG5
 go_upto_region 7 with fail
 rw [HW5.out]
 clear HW5 l1 x0 x1 x2 x3 x4 x5 x6 x7 x8 y0 y1 y2 y3 y4 y5 y6 y7 y8
 have K1 := Lib.hid (own_eqN U1.out (fun k hk => ho5 k (by have := own_lo U1.out k hk; omega)))
 have K2 := Lib.hid (own_eqN U2.out (fun k hk => ho5 k (by have := own_lo U2.out k hk; omega)))
 have K3 := Lib.hid (own_eqN U3.out (fun k hk => ho5 k (by have := own_lo U3.out k hk; omega)))
 have K4 := Lib.hid (own_eqN U4.out (fun k hk => ho5 k (by have := own_lo U4.out k hk; omega)))
 have R7 := Lib.hid (R5.out.eqN (ho5 _ (by omega)))
 have Bb : Below w.heap.size w W5 := hb5 _ _ (Nat.le_refl _) B5
 have HI5 := Lib.hid (OwnS.isS (xs := B.dr) K4.out)
 have hgnlt : gn < W5.heap.size := own_hi K3.out gn rfl
 clear U1 U2 U3 U4 R5 hG4
 have gc7 := hGb.out.get (x := .int .i64 fat) 7 rfl
 have gc4 := hGb.out.get (x := .int .i64 B.sq) 4 rfl
 have gc3 := hGb.out.get (x := .slice A4' B.dr.length c4') 3 rfl
 have gc2 := hGb.out.get (x := .slice (some ⟨gn, 0, none⟩) 0 0) 2 rfl
 refine wp_region_held_drew (S := fun w' => w'.cell? ⟨w.heap.size, 7, none⟩ = some (.int .i64 fat) ∧ w'.cell? ⟨w.heap.size, 4, none⟩ = some (.int .i64 B.sq) ∧ w'.cell? ⟨w.heap.size, 3, none⟩ = some (.slice A4' B.dr.length c4')) (by kernel_rfl) (by exact ⟨gc7, gc4, gc3⟩) (fun hHeld => ?_)
 clear hHeld
 refine foldH ?_
 intro r hr0
 have bw : Below W5.heap.size W5 r := by rw [hr0]; exact (bel0 W5).drew
 clear hr0
 apply mem3_nw (P := fun aLw q => Below W5.heap.size W5 q ∧ q.ownsRow W5.heap.size 55 2 (.slice (some ⟨aLw, 0, none⟩) (1) 1) (1) (RS [(7 - fat, th)]))
 case use =>
  intro key_bh_1_9_11
  apply mem3_nw (P := fun aLw q => Below W5.heap.size W5 q ∧ q.ownsRow W5.heap.size 55 2 (.slice (some ⟨aLw, 0, none⟩) (1) 1) (1) (RS [(7 - fat, th)]))
  case use =>
   intro key_bh_9_11
   apply mem3_w (P := fun  q => Below W5.heap.size W5 q)
   case use =>
    intro key_bh_1_9
    apply mem3_w (P := fun  q => Below W5.heap.size W5 q)
    case use =>
     intro key_bh_9
     apply mem3_w (P := fun  q => Below W5.heap.size W5 q)
     case use =>
      intro key_bh_1
      refine tkV_ 0 (v := ?v30001) ?hy30001 ?hS30001 ?hr30001
      case hS30001 => exact ⟨keep1 bw gc7, keep1 bw gc4, keep1 bw gc3⟩
      case hy30001 => refine Or.inl ⟨by rfl, ?_⟩; intro w hSw; (try dsimp only at hSw); go_simp; (try with_reducible rfl)
      simp only [Act.put, pT_, pZ_, pS_]
      refine tkV_ 2 (v := ?v30002) ?hy30002 ?hS30002 ?hr30002
      case hS30002 => exact ⟨keep1 bw gc7, keep1 bw gc4, keep1 bw gc3⟩
      case hy30002 => refine Or.inl ⟨by rfl, ?_⟩; intro w hSw; (try dsimp only at hSw); go_simp; (try with_reducible rfl)
      simp only [Act.put, pT_, pZ_, pS_]
      refine tkV_ 3 (v := ?v30003) ?hy30003 ?hS30003 ?hr30003
      case hS30003 => exact ⟨keep1 bw gc7, keep1 bw gc4, keep1 bw gc3⟩
      case hy30003 => refine Or.inl ⟨by rfl, ?_⟩; intro w hSw; (try dsimp only at hSw); go_simp; (try with_reducible rfl)
      simp only [Act.put, pT_, pZ_, pS_]
      refine tkV_ 4 (v := ?v30004) ?hy30004 ?hS30004 ?hr30004
      case hS30004 => exact ⟨keep1 bw gc7, keep1 bw gc4, keep1 bw gc3⟩
      case hy30004 => refine Or.inl ⟨by rfl, ?_⟩; intro w hSw; (try dsimp only at hSw); go_simp; (try with_reducible rfl)
      simp only [Act.put, pT_, pZ_, pS_]
      refine tkV_ 5 (v := ?v30005) ?hy30005 ?hS30005 ?hr30005
      case hS30005 => exact ⟨keep1 bw gc7, keep1 bw gc4, keep1 bw gc3⟩
      case hy30005 => refine Or.inl ⟨by rfl, ?_⟩; intro w hSw; (try dsimp only at hSw); go_simp; (try with_reducible rfl)
      simp only [Act.put, pT_, pZ_, pS_]
      refine tkV_ 6 (v := ?v30006) ?hy30006 ?hS30006 ?hr30006
      case hS30006 => exact ⟨keep1 bw gc7, keep1 bw gc4, keep1 bw gc3⟩
      case hy30006 => refine Or.inl ⟨by rfl, ?_⟩; intro w hSw; (try dsimp only at hSw); go_simp; (try with_reducible rfl)
      simp only [Act.put, pT_, pZ_, pS_]
      refine tkV_ 7 (v := ?v30007) ?hy30007 ?hS30007 ?hr30007
      case hS30007 => exact ⟨keep1 bw gc7, keep1 bw gc4, keep1 bw gc3⟩
      case hy30007 => refine Or.inl ⟨by rfl, ?_⟩; intro w hSw; (try dsimp only at hSw); go_simp; (try with_reducible rfl)
      simp only [Act.put, pT_, pZ_, pS_]
      refine tkV_ 8 (v := ?v30008) ?hy30008 ?hS30008 ?hr30008
      case hS30008 => exact ⟨keep1 bw gc7, keep1 bw gc4, keep1 bw gc3⟩
      case hy30008 => refine Or.inl ⟨by rfl, ?_⟩; intro w hSw; (try dsimp only at hSw); go_simp; (try with_reducible rfl)
      simp only [Act.put, pT_, pZ_, pS_]
      refine wpAnyH_ready (rs := [1, 9]) (by kernel_rfl) (by simp) ?_
      refine AllReadyH.cons (o := ?oi30009) ?hi30009 (fun K hK => ?br30009) (AllReadyH.cons (o := ?oi30010) ?hi30010 (fun K hK => ?br30010) AllReadyH.nil)
      case hi30009 => (conv => lhs; simp only [gT_, gZ_, gS_]); try exact rfl
      case hi30010 => (conv => lhs; simp only [gT_, gZ_, gS_]); try exact rfl
      case br30009 =>
       have x_0 := keep1 bw gc2
       go_simp
       refine hK.out _ _ (by exact ⟨keep1 bw gc7, keep1 bw gc4, keep1 bw gc3⟩) (fun _ => ?_)
       clear hK K
       try simp only [Act.put, pT_, pZ_, pS_]
       have bw2 := bw
       exact key_bh_1  r bw2
      case br30010 =>
       go_simp
       go_at_call 49
       refine (HS.out _ _ (HI5.out.next bw)).mono ?_
       rintro e q ⟨rfl, hb⟩
       have bw2 := bw.trans (hb.mono bw.size)
       refine hK.out _ _ (by exact ⟨keep1 bw2 gc7, keep1 bw2 gc4, keep1 bw2 gc3⟩) (fun _ => ?_)
       clear hK K
       try simp only [Act.put, pT_, pZ_, pS_]
       refine tkV_ 10 (v := ?v30011) ?hy30011 ?hS30011 ?hr30011
       case hS30011 => exact ⟨keep1 bw2 gc7, keep1 bw2 gc4, keep1 bw2 gc3⟩
       case hy30011 => refine Or.inl ⟨by rfl, ?_⟩; intro w hSw; (try dsimp only at hSw); go_simp; (try with_reducible rfl)
       simp only [Act.put, pT_, pZ_, pS_]
       exact key_bh_9  q bw2
     case key =>
      rintro  r bw
      try dsimp only
      refine wpAnyH_ready (rs := [9]) (by kernel_rfl) (by simp) ?_
      refine AllReadyH.cons (o := ?oi30012) ?hi30012 (fun K hK => ?br30012) AllReadyH.nil
      case hi30012 => (conv => lhs; simp only [gT_, gZ_, gS_]); try exact rfl
      case br30012 =>
       go_simp
       go_at_call 49
       refine (HS.out _ _ (HI5.out.next bw)).mono ?_
       rintro e q ⟨rfl, hb⟩
       have bw2 := bw.trans (hb.mono bw.size)
       refine hK.out _ _ (by exact ⟨keep1 bw2 gc7, keep1 bw2 gc4, keep1 bw2 gc3⟩) (fun _ => ?_)
       clear hK K
       try simp only [Act.put, pT_, pZ_, pS_]
       refine tkV_ 10 (v := ?v30013) ?hy30013 ?hS30013 ?hr30013
       case hS30013 => exact ⟨keep1 bw2 gc7, keep1 bw2 gc4, keep1 bw2 gc3⟩
       case hy30013 => refine Or.inl ⟨by rfl, ?_⟩; intro w hSw; (try dsimp only at hSw); go_simp; (try with_reducible rfl)
       simp only [Act.put, pT_, pZ_, pS_]
       exact key_bh_1_9  q bw2
    case key =>
     rintro  r bw
     try dsimp only
     refine wpAnyH_ready (rs := [1, 11]) (by kernel_rfl) (by simp) ?_
     refine AllReadyH.cons (o := ?oi30014) ?hi30014 (fun K hK => ?br30014) (AllReadyH.cons (o := ?oi30015) ?hi30015 (fun K hK => ?br30015) AllReadyH.nil)
     case hi30014 => (conv => lhs; simp only [gT_, gZ_, gS_]); try exact rfl
     case hi30015 => (conv => lhs; simp only [gT_, gZ_, gS_]); try exact rfl
     case br30014 =>
      have x_0 := keep1 bw gc2
      go_simp
      refine hK.out _ _ (by exact ⟨keep1 bw gc7, keep1 bw gc4, keep1 bw gc3⟩) (fun _ => ?_)
      clear hK K
      try simp only [Act.put, pT_, pZ_, pS_]
      have bw2 := bw
      exact key_bh_1_9  r bw2
     case br30015 =>
      go_simp
      refine hK.out _ _ (by exact ⟨keep1 (belA bw (.cells #[.int .i64 (7 - fat), .string th] 55)) gc7, keep1 (belA bw (.cells #[.int .i64 (7 - fat), .string th] 55)) gc4, keep1 (belA bw (.cells #[.int .i64 (7 - fat), .string th] 55)) gc3⟩) (fun _ => ?_)
      clear hK K
      try simp only [Act.put, pT_, pZ_, pS_]
      refine foldH ?_
      intro q hq
      obtain ⟨aLw, ha⟩ : ∃ g, r.heap.size = g := ⟨_, rfl⟩
      rw [ha]
      have bw2 : Below W5.heap.size W5 q := by rw [hq]; exact belA bw _
      have oLw2 : q.ownsRow W5.heap.size 55 2 (.slice (some ⟨aLw, 0, none⟩) (1) 1) (1) (RS [(7 - fat, th)]) := by rw [hq, ← ha]; exact own_lit2 _ _ _ _ _ bw.size
      exact key_bh_9_11 aLw q ⟨bw2, oLw2⟩
   case key =>
    rintro  r bw
    try dsimp only
    refine wpAnyH_ready (rs := [11]) (by kernel_rfl) (by simp) ?_
    refine AllReadyH.cons (o := ?oi30016) ?hi30016 (fun K hK => ?br30016) AllReadyH.nil
    case hi30016 => (conv => lhs; simp only [gT_, gZ_, gS_]); try exact rfl
    case br30016 =>
     go_simp
     refine hK.out _ _ (by exact ⟨keep1 (belA bw (.cells #[.int .i64 (7 - fat), .string th] 55)) gc7, keep1 (belA bw (.cells #[.int .i64 (7 - fat), .string th] 55)) gc4, keep1 (belA bw (.cells #[.int .i64 (7 - fat), .string th] 55)) gc3⟩) (fun _ => ?_)
     clear hK K
     try simp only [Act.put, pT_, pZ_, pS_]
     refine foldH ?_
     intro q hq
     obtain ⟨aLw, ha⟩ : ∃ g, r.heap.size = g := ⟨_, rfl⟩
     rw [ha]
     have bw2 : Below W5.heap.size W5 q := by rw [hq]; exact belA bw _
     have oLw2 : q.ownsRow W5.heap.size 55 2 (.slice (some ⟨aLw, 0, none⟩) (1) 1) (1) (RS [(7 - fat, th)]) := by rw [hq, ← ha]; exact own_lit2 _ _ _ _ _ bw.size
     exact key_bh_1_9_11 aLw q ⟨bw2, oLw2⟩
  case key =>
   rintro aLw r ⟨bw, oLw⟩
   try dsimp only
   refine wpAnyH_ready (rs := [1]) (by kernel_rfl) (by simp) ?_
   refine AllReadyH.cons (o := ?oi30017) ?hi30017 (fun K hK => ?br30017) AllReadyH.nil
   case hi30017 => (conv => lhs; simp only [gT_, gZ_, gS_]); try exact rfl
   case br30017 =>
    have x_0 := keep1 bw gc2
    go_simp
    refine hK.out _ _ (by exact ⟨keep1 bw gc7, keep1 bw gc4, keep1 bw gc3⟩) (fun _ => ?_)
    clear hK K
    try simp only [Act.put, pT_, pZ_, pS_]
    have bw2 := bw
    have oLw2 := oLw
    exact key_bh_1_9_11 aLw r ⟨bw2, oLw2⟩
 case key =>
  rintro aLw r ⟨bw, oLw⟩
  try dsimp only
  refine wpAnyH_ready (rs := [12]) (by kernel_rfl) (by simp) ?_
  refine AllReadyH.cons (o := ?oi30018) ?hi30018 (fun K hK => ?br30018) AllReadyH.nil
  case hi30018 => (conv => lhs; simp only [gT_, gZ_, gS_]); try exact rfl
  case br30018 =>
   refine step_appY _ (by rfl) _ _ 25 (by rfl) Tryz.el_write (own_below K3.out bw (Nat.le_refl _)) (by rfl) (Reads.of_own oLw) (by rfl) (RS_cells _) (by unfold maxLen; omega) (by omega) (by have := bw.size; omega) ?_
   intro v q ow hg hor hb
   rw [Nat.zero_add] at ow
   obtain ⟨gv, cv, rfl⟩ := own_form1 ow (by omega)
   have ngv : gv ≠ w.heap.size ∧ W3.heap.size ≤ gv := by
    have := bw.size
    rcases hor with h | h
    ·simp only [Value.ownBlock, Option.some.injEq] at h; omega
    ·simp only [Value.ownBlock, Option.some.injEq] at h; omega
   have hGq := (hGb.out.below bw hGb.out.lt).grown hg (fun e => by simp only [Value.ownBlock, Option.some.injEq] at e; omega)
   have hRq := (R7.out.below bw R7.out.lt).grown hg (fun e => by simp only [Value.ownBlock, Option.some.injEq] at e; omega)
   have d1 : Dis (.slice (some ⟨g1, 0, none⟩) 6 e1) (.slice (some ⟨gn, 0, none⟩) 0 0) := dis_lt W3.heap.size (fun k hk => by have := NL1.out k hk; omega) (fun k hk => by simp only [Value.ownBlock, Option.some.injEq] at hk; omega)
   have d2 : Dis (.slice (some ⟨g2, 0, none⟩) 2 e2) (.slice (some ⟨gn, 0, none⟩) 0 0) := dis_lt W3.heap.size (fun k hk => by have := NL2.out k hk; omega) (fun k hk => by simp only [Value.ownBlock, Option.some.injEq] at hk; omega)
   have d4 : Dis (.slice A4' B.dr.length c4') (.slice (some ⟨gn, 0, none⟩) 0 0) := dis_lt W3.heap.size (fun k hk => by have := NL4.out k hk; omega) (fun k hk => by simp only [Value.ownBlock, Option.some.injEq] at hk; omega)
   have k1q := own_keepN (own_below K1.out bw (Nat.le_refl _)) hg d1
   have k2q := own_keepN (own_below K2.out bw (Nat.le_refl _)) hg d2
   have k4q := own_keepN (own_below K4.out bw (Nat.le_refl _)) hg d4
   have bq : Below w.heap.size w q := (belN Bb bw).trans (hb.mono (by omega))
   have zq := Nat.le_trans bw.size hg.size
   have dv1 : Dis (.slice (some ⟨g1, 0, none⟩) 6 e1) (.slice (some ⟨gv, 0, none⟩) 1 cv) := dis_lt W3.heap.size (fun k hk => by have := NL1.out k hk; omega) (fun k hk => by simp only [Value.ownBlock, Option.some.injEq] at hk; omega)
   have dv2 : Dis (.slice (some ⟨g2, 0, none⟩) 2 e2) (.slice (some ⟨gv, 0, none⟩) 1 cv) := dis_lt W3.heap.size (fun k hk => by have := NL2.out k hk; omega) (fun k hk => by simp only [Value.ownBlock, Option.some.injEq] at hk; omega)
   have dv4 : Dis (.slice A4' B.dr.length c4') (.slice (some ⟨gv, 0, none⟩) 1 cv) := dis_lt W3.heap.size (fun k hk => by have := NL4.out k hk; omega) (fun k hk => by simp only [Value.ownBlock, Option.some.injEq] at hk; omega)
   clear hg hor hb bw oLw gc7 gc4 gc3 gc2 K1 K2 K3 K4 R7 hGb d1 d2 d4
   have gc7 := hGq.get (x := .int .i64 fat) 7 rfl
   have gc4 := hGq.get (x := .int .i64 B.sq) 4 rfl
   have gc3 := hGq.get (x := .slice A4' B.dr.length c4') 3 rfl
   try simp only [Act.put, pT_, pZ_, pS_]
   refine hK.out _ _ (by exact ⟨gc7, gc4, gc3⟩) (fun _ => ?_)
   clear hK K
   try simp only [Act.put, pT_, pZ_, pS_]
   refine tkV_ 13 (v := ?v30019) ?hy30019 ?hS30019 ?hr30019
   case hS30019 => exact ⟨gc7, gc4, gc3⟩
   case hy30019 => refine Or.inl ⟨by rfl, ?_⟩; intro w hSw; (try dsimp only at hSw); go_simp; (try with_reducible rfl)
   simp only [Act.put, pT_, pZ_, pS_]
   refine wpAnyH_ready (rs := [14]) (by kernel_rfl) (by simp) ?_
   refine AllReadyH.cons (o := ?oi30020) ?hi30020 (fun K hK => ?br30020) AllReadyH.nil
   case hi30020 => (conv => lhs; simp only [gT_, gZ_, gS_]); try exact rfl
   case br30020 =>
    have x_0 := hGq.get (x := .slice (some ⟨gn, 0, none⟩) 0 0) 2 rfl
    have f_0 := hGq.frozen 2
    have l_0 := hGq.lt
    have hGz := hGq.put 2 (.slice (some ⟨gv, 0, none⟩) 1 cv) #[.slice (some ⟨g1, 0, none⟩) 6 e1, .slice (some ⟨g2, 0, none⟩) 2 e2, .slice (some ⟨gv, 0, none⟩) 1 cv, .slice A4' B.dr.length c4', .int .i64 B.sq, .int .i64 fbs, .int .i64 B.sq, .int .i64 fat, .int .i64 0] rfl
    go_simp
    refine hK.out _ _ (by exact ⟨hGz.get 7 rfl, hGz.get 4 rfl, hGz.get 3 rfl⟩) (fun _ => ?_)
    clear hK K
    try simp only [Act.put, pT_, pZ_, pS_]
    refine wpAnyH_done (by kernel_rfl) ?_ _
    have hRz := hRq.far (p := ⟨w.heap.size, 2, none⟩) (by show w.heap.size + 1 ≠ w.heap.size; omega) (.slice (some ⟨gv, 0, none⟩) 1 cv)
    have k1z := own_scN k1q 2 NG1.out (.slice (some ⟨gv, 0, none⟩) 1 cv)
    have k2z := own_scN k2q 2 NG2.out (.slice (some ⟨gv, 0, none⟩) 1 cv)
    have k4z := own_scN k4q 2 NG4.out (.slice (some ⟨gv, 0, none⟩) 1 cv)
    have owz := own_scN ow 2 (fun k hk => by simp only [Value.ownBlock, Option.some.injEq] at hk; rw [← hk]; exact ngv.1) (.slice (some ⟨gv, 0, none⟩) 1 cv)
    have bz := bq.setCell (p := ⟨w.heap.size, 2, none⟩) (by show w.heap.size ≤ w.heap.size; omega) (.slice (some ⟨gv, 0, none⟩) 1 cv)
    have sz : (q.setCell ⟨w.heap.size, 2, none⟩ (.slice (some ⟨gv, 0, none⟩) 1 cv)).heap.size = q.heap.size := sz_sc _ _ _
    clear x_0 f_0 l_0 hGq hRq k1q k2q k4q bq gc7 gc4 gc3 ow
    generalize q.setCell ⟨w.heap.size, 2, none⟩ (.slice (some ⟨gv, 0, none⟩) 1 cv) = z at *
    obtain ⟨x0, x1, x2, x3, x4, x5, x6, x7, x8⟩ := hGz.g9
    obtain ⟨y0, y1, y2, y3, y4, y5, y6, y7, y8⟩ := hGz.f9
    have l1 := hGz.lt
    go_upto_region 9 with fail
    obtain ⟨Z, hZ⟩ : ∃ Z, z.setCell ⟨w.heap.size, 8, none⟩ (.int .i64 B.sq) = Z := ⟨_, rfl⟩
    rw [hZ]
    have hGZ : Blk Z w.heap.size 28 #[.slice (some ⟨g1, 0, none⟩) 6 e1, .slice (some ⟨g2, 0, none⟩) 2 e2, .slice (some ⟨gv, 0, none⟩) 1 cv, .slice A4' B.dr.length c4', .int .i64 B.sq, .int .i64 fbs, .int .i64 B.sq, .int .i64 fat, .int .i64 B.sq] := by rw [← hZ]; exact hGz.put 8 (.int .i64 B.sq) #[.slice (some ⟨g1, 0, none⟩) 6 e1, .slice (some ⟨g2, 0, none⟩) 2 e2, .slice (some ⟨gv, 0, none⟩) 1 cv, .slice A4' B.dr.length c4', .int .i64 B.sq, .int .i64 fbs, .int .i64 B.sq, .int .i64 fat, .int .i64 B.sq] rfl
    have hRZ : Blk Z (w.heap.size + 1) 28 zB_ := by rw [← hZ]; exact hRz.far (p := ⟨w.heap.size, 8, none⟩) (by show w.heap.size + 1 ≠ w.heap.size; omega) _
    have k1Z : Z.ownsRow w1.heap.size 9 1 (.slice (some ⟨g1, 0, none⟩) 6 e1) 6 (SS (flB B).rg) := by rw [← hZ]; exact own_scN k1z 8 NG1.out _
    have k2Z : Z.ownsRow w1.heap.size 9 1 (.slice (some ⟨g2, 0, none⟩) 2 e2) 2 (SS (flB B).hm) := by rw [← hZ]; exact own_scN k2z 8 NG2.out _
    have k4Z : Z.ownsRow w1.heap.size 66 4 (.slice A4' B.dr.length c4') B.dr.length (ES B.dr) := by rw [← hZ]; exact own_scN k4z 8 NG4.out _
    have owZ : Z.ownsRow W3.heap.size 55 2 (.slice (some ⟨gv, 0, none⟩) 1 cv) 1 (RS [(7 - fat, th)]) := by rw [← hZ]; exact own_scN owz 8 (fun k hk => by simp only [Value.ownBlock, Option.some.injEq] at hk; rw [← hk]; exact ngv.1) _
    have bZ : Below w.heap.size w Z := by rw [← hZ]; exact bz.setCell (p := ⟨w.heap.size, 8, none⟩) (by show w.heap.size ≤ w.heap.size; omega) _
    clear hZ hGz hRz k1z k2z k4z owz bz l1 x0 x1 x2 x3 x4 x5 x6 x7 x8 y0 y1 y2 y3 y4 y5 y6 y7 y8
    obtain ⟨x0, x1, x2, x3, x4, x5, x6, x7, x8⟩ := hGZ.g9
    have l1 := hGZ.lt
    obtain ⟨q0, q1, q2, q3, q4, q5, q6, q7, q8⟩ := hRZ.g9
    obtain ⟨p0, p1, p2, p3, p4, p5, p6, p7, p8⟩ := hRZ.f9
    have l2 := hRZ.lt
    go_wp2
    obtain ⟨w9, h9, hB9, s9, hb9, ho9⟩ := put9 Z (w.heap.size + 1) 28 (.slice (some ⟨g1, 0, none⟩) 6 e1) (.slice (some ⟨g2, 0, none⟩) 2 e2) (.slice (some ⟨gv, 0, none⟩) 1 cv) (.slice A4' B.dr.length c4') (.int .i64 B.sq) (.int .i64 fbs) (.int .i64 B.sq) (.int .i64 fat) (.int .i64 B.sq) (.slice none 0 0) (.slice none 0 0) (.slice none 0 0) (.slice none 0 0) (.int .i64 0) (.int .i64 0) (.int .i64 0) (.int .i64 0) (.int .i64 0) hRZ
    rw [h9]
    clear h9 l1 l2 x0 x1 x2 x3 x4 x5 x6 x7 x8 q0 q1 q2 q3 q4 q5 q6 q7 q8 p0 p1 p2 p3 p4 p5 p6 p7 p8
    obtain ⟨r0, r1, r2, r3, r4, r5, r6, r7, r8⟩ := hB9.g9
    refine bodyPost_ret (v := .tuple #[.agg #[.slice (some ⟨g1, 0, none⟩) 6 e1, .slice (some ⟨g2, 0, none⟩) 2 e2, .slice (some ⟨gv, 0, none⟩) 1 cv, .slice A4' B.dr.length c4', .int .i64 B.sq, .int .i64 fbs, .int .i64 B.sq, .int .i64 fat, .int .i64 B.sq], .bool true]) (by simp [results, Tryz.results19, go_sem, r0, r1, r2, r3, r4, r5, r6, r7, r8]) rfl ⟨⟨_, true, _, Hf.out, rfl, hm_own (lo := w.heap.size) H6.out H2.out Hfat.out Hfbs.out (own_more (ho9 _ _ _ _ _ _ (by omega) k1Z) (by omega)) (own_more (ho9 _ _ _ _ _ _ (by omega) k2Z) (by omega)) (own_more (ho9 _ _ _ _ _ _ (by omega) owZ) (by omega)) (own_more (ho9 _ _ _ _ _ _ (by omega) k4Z) (by omega)) DD.out.1 dv1 DD.out.2.2.1 dv2 DD.out.2.2.2.2 dv4.symm⟩, hb9 _ _ (by omega) bZ⟩

theorem bookDo_impl (v : Value) (B : BookD) (sm : szBk B ≤ 1048576) (k : Int) (s : ByteArray) (i : Int) (hs : s.size ≤ 2000000) {B' : BookD} {b : Bool} (h : doBk B k s i = (B', b)) (w : World) (hT : Tab w) (hI : IsBook w v B) :
  Calls Tryz.prog 14 #[v, .agg #[.int .i64 k, .string s, .int .i64 i]] w fun e w' => ∃ v' lo up, e = .returned (.tuple #[v', .bool b]) ∧ w.heap.size ≤ lo ∧ InAt (OwnBk lo v' B') lo up w' ∧ Below w.heap.size w w' := by
 refine (bookDo_impl0 v B sm k s i hs w hT hI).mono ?_
 rintro e w' ⟨⟨B2, b2, v', hP, rfl, hO⟩, hb⟩
 rw [h] at hP
 injection hP with h1 h2
 subst h1 h2
 exact ⟨v', w.heap.size, _, rfl, Nat.le_refl _, own_bk_in hO, hb⟩
theorem bookDo_spec (v : Value) (B : BookD) (sm : szBk B ≤ 1048576) (k : Int) (s : ByteArray) (i : Int) (hs : s.size ≤ 2000000) {B' : BookD} {b : Bool} (h : doBk B k s i = (B', b)) (w : World) (hI : IsBook w v B) :
  Calls Tryz.prog 17 #[v, .agg #[.int .i64 k, .string s, .int .i64 i]] w fun e w' => ∃ v' lo up, e = .returned (.tuple #[v', .bool b]) ∧ w.heap.size ≤ lo ∧ InAt (OwnBk lo v' B') lo up w' ∧ Below w.heap.size w w' := by
 refine (bookDo_spec0 v B sm k s i hs w hI).mono ?_
 rintro e w' ⟨⟨B2, b2, v', hP, rfl, hO⟩, hb⟩
 rw [h] at hP
 injection hP with h1 h2
 subst h1 h2
 exact ⟨v', w.heap.size, _, rfl, Nat.le_refl _, own_bk_in hO, hb⟩
theorem bookHome_impl (v : Value) (B : BookD) (sm : szBk B ≤ 1048576) {B' : BookD} {b : Bool} (h : homeBk B = (B', b)) (w : World) (hT : Tab w) (hI : IsBook w v B) :
  Calls Tryz.prog 11 #[v] w fun e w' => ∃ v' lo up, e = .returned (.tuple #[v', .bool b]) ∧ w.heap.size ≤ lo ∧ InAt (OwnBk lo v' B') lo up w' ∧ Below w.heap.size w w' := by
 refine (bookHome_impl0 v B sm w hT hI).mono ?_
 rintro e w' ⟨⟨B2, b2, v', hP, rfl, hO⟩, hb⟩
 rw [h] at hP
 injection hP with h1 h2
 subst h1 h2
 exact ⟨v', w.heap.size, _, rfl, Nat.le_refl _, own_bk_in hO, hb⟩
theorem bookHome_spec (v : Value) (B : BookD) (sm : szBk B ≤ 1048576) {B' : BookD} {b : Bool} (h : homeBk B = (B', b)) (w : World) (hI : IsBook w v B) :
  Calls Tryz.prog 19 #[v] w fun e w' => ∃ v' lo up, e = .returned (.tuple #[v', .bool b]) ∧ w.heap.size ≤ lo ∧ InAt (OwnBk lo v' B') lo up w' ∧ Below w.heap.size w w' := by
 refine (bookHome_spec0 v B sm w hI).mono ?_
 rintro e w' ⟨⟨B2, b2, v', hP, rfl, hO⟩, hb⟩
 rw [h] at hP
 injection hP with h1 h2
 subst h1 h2
 exact ⟨v', w.heap.size, _, rfl, Nat.le_refl _, own_bk_in hO, hb⟩

end Go.Proofs.YtghgafbfpejinaaGreatDoor
