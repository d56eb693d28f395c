/- Books copied and flushed, in both packages. -/
import Derived.Test.YtghgafbfpejinaaGreatDoorRDp
import Derived.Deep.Cut
import Derived.Test.YtghgafbfpejinaaGreatDoorRBkOkI
import Derived.StillTailTactics
import Derived.Test.YtghgafbfpejinaaGreatDoorRBkOkS
namespace Go.Proofs.YtghgafbfpejinaaGreatDoor
open Go Go.RowKit

theorem Tryz.el_write : ElemOk Tryz.prog 25 55 (.agg #[.int .i64 0, .string ⟨#[]⟩]) 2 24 := ⟨Tryz.underlying25, by kernel_rfl, rfl, by omega⟩
theorem own_sc {w : World} {base n size : Nat} {e : TypeId} {v : Value} {xs : List Value} (h : w.ownsRow base e size v n xs) {g : Nat} (o : Nat) (hg : g < base) (u : Value) : (w.setCell ⟨g, o, none⟩ u).ownsRow base e size v n xs := by
 refine ⟨h.1, ?_⟩
 rcases h.2 with h2 | ⟨g', cap, cur, hv, hb, hh, r⟩
 ·exact .inl h2
 ·exact .inr ⟨g', cap, cur, hv, hb, (Below.heap_setCell w ⟨g, o, none⟩ u g' (by simp only; omega)).trans hh, r⟩
theorem own_bel {w w' : World} {base n size B : Nat} {e : TypeId} {v : Value} {xs : List Value} (h : w.ownsRow base e size v n xs) (hb : Below B w w') (hk : ∀ k, v.ownBlock = some k → k < B) : w'.ownsRow base e size v n xs := by
 refine ⟨h.1, ?_⟩
 rcases h.2 with h2 | ⟨g', cap, cur, hv, hbs, hh, r⟩
 ·exact .inl h2
 ·exact .inr ⟨g', cap, cur, hv, hbs, (hb.block g' (hk g' (by rw [hv]; rfl))).trans hh, r⟩
theorem sz_sc (w : World) (p : Addr) (u : Value) : (w.setCell p u).heap.size = w.heap.size := by simp
theorem dis_lt {v v' : Value} (a : Nat) (h : ∀ k, v.ownBlock = some k → k < a) (h' : ∀ k, v'.ownBlock = some k → a ≤ k) : Dis v v' := by
 unfold Dis
 rcases hv : v.ownBlock with _ | k
 ·exact .inl rfl
 ·rcases hv' : v'.ownBlock with _ | k'
  ·exact .inr (.inl rfl)
  ·refine .inr (.inr fun e => ?_)
   have h1 := h k hv
   have h2 := h' k' hv'
   injection e with e
   omega
theorem own_lo {w : World} {base n size : Nat} {e : TypeId} {v : Value} {xs : List Value} (h : w.ownsRow base e size v n xs) : ∀ k, v.ownBlock = some k → base ≤ k := fun k hk => (h.lt k hk).1
theorem own_hi {w : World} {base n size : Nat} {e : TypeId} {v : Value} {xs : List Value} (h : w.ownsRow base e size v n xs) : ∀ k, v.ownBlock = some k → k < w.heap.size := fun k hk => (h.lt k hk).2

theorem put9 (w7 : World) (b : Nat) (t : TypeId) (x0 x1 x2 x3 x4 x5 x6 x7 x8 y0 y1 y2 y3 y4 y5 y6 y7 y8 : Value) (hU : Blk w7 b t #[y0, y1, y2, y3, y4, y5, y6, y7, y8]) :
  ∃ w9, (((((((((w7.setCell ⟨b, 0, none⟩ x0).setCell ⟨b, 1, none⟩ x1).setCell ⟨b, 2, none⟩ x2).setCell ⟨b, 3, none⟩ x3).setCell ⟨b, 4, none⟩ x4).setCell ⟨b, 5, none⟩ x5).setCell ⟨b, 6, none⟩ x6).setCell ⟨b, 7, none⟩ x7).setCell ⟨b, 8, none⟩ x8) = w9 ∧ Blk w9 b t #[x0, x1, x2, x3, x4, x5, x6, x7, x8] ∧ w9.heap.size = w7.heap.size ∧ (∀ (B : Nat) (a : World), B ≤ b → Below B a w7 → Below B a w9) ∧
   (∀ (base n size : Nat) (e : TypeId) (v : Value) (xs : List Value), b < base → w7.ownsRow base e size v n xs → w9.ownsRow base e size v n xs) :=
 ⟨_, rfl, (((((((((hU.put 0 x0 #[x0, y1, y2, y3, y4, y5, y6, y7, y8] rfl).put 1 x1 #[x0, x1, y2, y3, y4, y5, y6, y7, y8] rfl).put 2 x2 #[x0, x1, x2, y3, y4, y5, y6, y7, y8] rfl).put 3 x3 #[x0, x1, x2, x3, y4, y5, y6, y7, y8] rfl).put 4 x4 #[x0, x1, x2, x3, x4, y5, y6, y7, y8] rfl).put 5 x5 #[x0, x1, x2, x3, x4, x5, y6, y7, y8] rfl).put 6 x6 #[x0, x1, x2, x3, x4, x5, x6, y7, y8] rfl).put 7 x7 #[x0, x1, x2, x3, x4, x5, x6, x7, y8] rfl).put 8 x8 #[x0, x1, x2, x3, x4, x5, x6, x7, x8] rfl), by simp, fun B a hb h => (((((((((h.setCell (p := ⟨b, 0, none⟩) hb _).setCell (p := ⟨b, 1, none⟩) hb _).setCell (p := ⟨b, 2, none⟩) hb _).setCell (p := ⟨b, 3, none⟩) hb _).setCell (p := ⟨b, 4, none⟩) hb _).setCell (p := ⟨b, 5, none⟩) hb _).setCell (p := ⟨b, 6, none⟩) hb _).setCell (p := ⟨b, 7, none⟩) hb _).setCell (p := ⟨b, 8, none⟩) hb _), fun base n size e v xs hb h => (own_sc (g := b) (own_sc (g := b) (own_sc (g := b) (own_sc (g := b) (own_sc (g := b) (own_sc (g := b) (own_sc (g := b) (own_sc (g := b) (own_sc (g := b) h 0 hb _) 1 hb _) 2 hb _) 3 hb _) 4 hb _) 5 hb _) 6 hb _) 7 hb _) 8 hb _)⟩

set_option maxHeartbeats 1000000 in
theorem copyTexts_impl (A : Option Addr) (n c : Nat) (xs : List ByteArray) (hn : n ≤ 10000000) (w : World) (hr : Reads w w.heap.size 1 A n (SS xs)) :
  Calls Tryz.prog 66 #[.slice A n c] w fun e w' => ∃ v, e = .returned v ∧ w'.ownsRow w.heap.size 9 1 v n (SS xs) ∧ Below w.heap.size w w' := by
 have Hr := Lib.hid hr
 clear hr
 go_enter Tryz.func66, Tryz.ntmps66
 go_wp2_with (at_builtin; refine wpList_app _ rfl _ _ _ rfl Tryz.el_str (own_nilC _ w.heap.size 1 _) rfl Hr.out rfl (SS_cells _) (by unfold maxLen; omega) (by omega) (Nat.le_refl _) ?_; intro v1 w1 own1 _ _ hb1; rw [Nat.zero_add, List.nil_append] at own1; have Own1 := Lib.hid own1; clear own1)
 go_ret
 exact ⟨_, rfl, Own1.out, hb1⟩

set_option maxRecDepth 100000 in
set_option maxHeartbeats 8000000 in
theorem copyBook_impl (v : Value) (B : BookD) (hl : B.rg.length ≤ 100000 ∧ B.hm.length ≤ 100000 ∧ B.pd.length ≤ 100000 ∧ B.dr.length ≤ 100000) (w : World) (h : IsBook w v B) :
  Calls Tryz.prog 28 #[v] w fun e w' => ∃ v', e = .returned v' ∧ OwnBk w.heap.size v' B w' ∧ Below w.heap.size w w' := by
 obtain ⟨A1, c1, A2, c2, A3, c3, A4, c4, rfl, h⟩ := h
 obtain ⟨rg, hm, pd, dr, sq, bs, sf, at_, df⟩ := B
 simp only at h hl ⊢
 have H := Lib.hid h
 have Hl := Lib.hid hl
 clear h hl
 obtain ⟨W1, hW1⟩ : ∃ W, (w.alloc (.cells #[.slice A1 rg.length c1, .slice A2 hm.length c2, .slice A3 pd.length c3, .slice A4 dr.length c4, .int .i64 sq, .int .i64 bs, .int .i64 sf, .int .i64 at_, .int .i64 df] 28)).alloc (.cells zB_ 28) = W := ⟨_, rfl⟩
 have B1 : Below w.heap.size w W1 := by rw [← hW1]; exact belA (belA (bel0 w) _) _
 have S1 : W1.heap.size = w.heap.size + 2 := by rw [← hW1]; simp
 have hV1 : Blk W1 w.heap.size 28 #[.slice A1 rg.length c1, .slice A2 hm.length c2, .slice A3 pd.length c3, .slice A4 dr.length c4, .int .i64 sq, .int .i64 bs, .int .i64 sf, .int .i64 at_, .int .i64 df] := by rw [← hW1]; exact (Blk.new' _ _ _ _ rfl).alloc _
 have hR1 : Blk W1 (w.heap.size + 1) 28 zB_ := by rw [← hW1]; exact Blk.new' _ _ _ _ (by simp)
 have HW1 := Lib.hid hW1
 clear hW1
 go_enter Tryz.func28, Tryz.ntmps28
 go_wp2_with fail
 rw [HW1.out]
 have x0 := hV1.get 0 rfl
 have l1 := hV1.lt
 have V1 := Lib.hid hV1
 have R1 := Lib.hid hR1
 clear hV1 hR1
 go_wp2_with fail
 clear x0 l1
 refine (copyTexts_impl A1 rg.length c1 rg (by have := Hl.out; omega) W1 (H.out.next B1).1).mono ?_
 rintro e w1 ⟨_, rfl, own1, hb1⟩
 obtain ⟨D1, d1, rfl, _, _, _⟩ := own_vals own1
 have hi1 := Lib.hid (own_hi own1)
 have U1 := Lib.hid (V1.out.below hb1 V1.out.lt)
 have Q1 := Lib.hid (R1.out.below hb1 R1.out.lt)
 have E1 := belN B1 hb1
 have s1 := hb1.size
 have P1_1' := Lib.hid own1
 clear own1 V1 R1
 have x1 := U1.out.get 1 rfl
 have z1 := U1.out.get 0 rfl
 have f1 := U1.out.frozen 0
 have l1 := U1.out.lt
 go_wp2_with fail
 clear x1 z1 f1 l1
 obtain ⟨W2, hW2⟩ : ∃ W, w1.setCell ⟨w.heap.size, 0, none⟩ (.slice D1 rg.length d1) = W := ⟨_, rfl⟩
 have V2 := Lib.hid (show Blk W2 w.heap.size 28 #[.slice D1 rg.length d1, .slice A2 hm.length c2, .slice A3 pd.length c3, .slice A4 dr.length c4, .int .i64 sq, .int .i64 bs, .int .i64 sf, .int .i64 at_, .int .i64 df] by rw [← hW2]; exact U1.out.put 0 _ _ rfl)
 have R2 := Lib.hid (show Blk W2 (w.heap.size + 1) 28 zB_ by rw [← hW2]; exact Q1.out.far (by simp) _)
 have B2 : Below w.heap.size w W2 := by rw [← hW2]; exact belC E1 _ _ (Nat.le_refl _) _
 have t2 : W2.heap.size = w1.heap.size := by rw [← hW2]; simp
 have P1_2 := Lib.hid (hW2 ▸ own_sc (g := w.heap.size) P1_1'.out 0 (by omega) (.slice D1 rg.length d1))
 clear P1_1'
 rw [hW2]
 clear hW2
 refine (copyTexts_impl A2 hm.length c2 hm (by have := Hl.out; omega) W2 (H.out.next B2).2.1).mono ?_
 rintro e w2 ⟨_, rfl, own2, hb2⟩
 obtain ⟨D2, d2, rfl, _, _, _⟩ := own_vals own2
 have hi2 := Lib.hid (own_hi own2)
 have U2 := Lib.hid (V2.out.below hb2 V2.out.lt)
 have Q2 := Lib.hid (R2.out.below hb2 R2.out.lt)
 have E2 := belN B2 hb2
 have s2 := hb2.size
 have P1_2' := Lib.hid (own_below P1_2.out hb2 (Nat.le_refl _))
 clear P1_2
 have P2_2' := Lib.hid own2
 clear own2 V2 R2
 have x1 := U2.out.get 2 rfl
 have z1 := U2.out.get 1 rfl
 have f1 := U2.out.frozen 1
 have l1 := U2.out.lt
 have F2 : Below w.heap.size w (w2.setCell ⟨w.heap.size, 1, none⟩ (.slice D2 hm.length d2)) := belC E2 _ _ (Nat.le_refl _) _
 have V2s := Lib.hid (show Blk (w2.setCell ⟨w.heap.size, 1, none⟩ (.slice D2 hm.length d2)) w.heap.size 28 #[.slice D1 rg.length d1, .slice D2 hm.length d2, .slice A3 pd.length c3, .slice A4 dr.length c4, .int .i64 sq, .int .i64 bs, .int .i64 sf, .int .i64 at_, .int .i64 df] from U2.out.put 1 _ _ rfl)
 have R2s := Lib.hid (show Blk (w2.setCell ⟨w.heap.size, 1, none⟩ (.slice D2 hm.length d2)) (w.heap.size + 1) 28 zB_ from Q2.out.far (by simp) _)
 have P1_s := Lib.hid (own_sc (g := w.heap.size) P1_2'.out 1 (by omega) (.slice D2 hm.length d2))
 have P2_s := Lib.hid (own_sc (g := w.heap.size) P2_2'.out 1 (by omega) (.slice D2 hm.length d2))
 have tsz : (w2.setCell ⟨w.heap.size, 1, none⟩ (.slice D2 hm.length d2)).heap.size = w2.heap.size := by simp
 have Hrd := Lib.hid ((H.out.next F2).2.2.1)
 have Hl3 : pd.length ≤ 100000 := Hl.out.2.2.1
 go_wp2_with (at_builtin; refine wpList_app _ rfl _ _ _ rfl Tryz.el_write (own_nilC _ (w2.setCell ⟨w.heap.size, 1, none⟩ (.slice D2 hm.length d2)).heap.size 2 _) rfl Hrd.out rfl (RS_cells _) (by unfold maxLen; omega) (by omega) (Nat.le_refl _) ?_; intro v3 w3 own3 _ _ hb3; rw [Nat.zero_add, List.nil_append] at own3; obtain ⟨D3, d3, rfl, _, _, _⟩ := own_vals own3; have U3 := Lib.hid (V2s.out.below hb3 V2s.out.lt); have Q3 := Lib.hid (R2s.out.below hb3 R2s.out.lt); have Hb3 := Lib.hid hb3; have Own3 := Lib.hid own3; clear hb3 own3 x1 z1 f1 l1; have x1 := U3.out.get 3 rfl; have z1 := U3.out.get 2 rfl; have f1 := U3.out.frozen 2; have l1 := U3.out.lt)
 clear x1 z1 f1 l1
 have hb3 := Hb3.out
 have E3 := belN F2 hb3
 have s3 := hb3.size
 rw [tsz] at s3
 have P1_3' := Lib.hid (own_below P1_s.out hb3 (Nat.le_refl _))
 have P2_3' := Lib.hid (own_below P2_s.out hb3 (Nat.le_refl _))
 have P3_3' := Lib.hid Own3.out
 have hi3 := Lib.hid (own_hi Own3.out)
 clear P1_s P2_s P1_2' P2_2' V2s R2s U2 Q2 Hrd
 obtain ⟨W4, hW4⟩ : ∃ W, w3.setCell ⟨w.heap.size, 2, none⟩ (.slice D3 pd.length d3) = W := ⟨_, rfl⟩
 have V4 := Lib.hid (show Blk W4 w.heap.size 28 #[.slice D1 rg.length d1, .slice D2 hm.length d2, .slice D3 pd.length d3, .slice A4 dr.length c4, .int .i64 sq, .int .i64 bs, .int .i64 sf, .int .i64 at_, .int .i64 df] by rw [← hW4]; exact U3.out.put 2 _ _ rfl)
 have R4 := Lib.hid (show Blk W4 (w.heap.size + 1) 28 zB_ by rw [← hW4]; exact Q3.out.far (by simp) _)
 have B4 : Below w.heap.size w W4 := by rw [← hW4]; exact belC E3 _ _ (Nat.le_refl _) _
 have t4 : W4.heap.size = w3.heap.size := by rw [← hW4]; simp
 have P1_4 := Lib.hid (hW4 ▸ own_sc (g := w.heap.size) P1_3'.out 2 (by omega) (.slice D3 pd.length d3))
 clear P1_3'
 have P2_4 := Lib.hid (hW4 ▸ own_sc (g := w.heap.size) P2_3'.out 2 (by omega) (.slice D3 pd.length d3))
 clear P2_3'
 have P3_4 := Lib.hid (hW4 ▸ own_sc (g := w.heap.size) P3_3'.out 2 (by omega) (.slice D3 pd.length d3))
 clear P3_3'
 rw [hW4]
 clear hW4
 refine (copyEnts_impl A4 dr.length c4 dr (by have := Hl.out; omega) W4 (H.out.next B4).2.2.2).mono ?_
 rintro e w4 ⟨_, rfl, own4, hb4⟩
 obtain ⟨D4, d4, rfl, _, _, _⟩ := own_vals own4
 have hi4 := Lib.hid (own_hi own4)
 have U4 := Lib.hid (V4.out.below hb4 V4.out.lt)
 have Q4 := Lib.hid (R4.out.below hb4 R4.out.lt)
 have E4 := belN B4 hb4
 have s4 := hb4.size
 have P1_4' := Lib.hid (own_below P1_4.out hb4 (Nat.le_refl _))
 clear P1_4
 have P2_4' := Lib.hid (own_below P2_4.out hb4 (Nat.le_refl _))
 clear P2_4
 have P3_4' := Lib.hid (own_below P3_4.out hb4 (Nat.le_refl _))
 clear P3_4
 have P4_4' := Lib.hid own4
 clear own4 V4 R4
 have g4 := belC E4 w.heap.size 3 (Nat.le_refl _) (.slice D4 dr.length d4)
 have N4 := Lib.hid (show Blk (w4.setCell ⟨w.heap.size, 3, none⟩ (.slice D4 dr.length d4)) w.heap.size 28 #[.slice D1 rg.length d1, .slice D2 hm.length d2, .slice D3 pd.length d3, .slice D4 dr.length d4, .int .i64 sq, .int .i64 bs, .int .i64 sf, .int .i64 at_, .int .i64 df] from U4.out.put 3 _ _ rfl)
 have x0 := U4.out.get 0 rfl
 have q0 := Q4.out.get 0 rfl
 have p0 := Q4.out.frozen 0
 have x1 := U4.out.get 1 rfl
 have q1 := Q4.out.get 1 rfl
 have p1 := Q4.out.frozen 1
 have x2 := U4.out.get 2 rfl
 have q2 := Q4.out.get 2 rfl
 have p2 := Q4.out.frozen 2
 have x3 := U4.out.get 3 rfl
 have q3 := Q4.out.get 3 rfl
 have p3 := Q4.out.frozen 3
 have x4 := U4.out.get 4 rfl
 have q4 := Q4.out.get 4 rfl
 have p4 := Q4.out.frozen 4
 have x5 := U4.out.get 5 rfl
 have q5 := Q4.out.get 5 rfl
 have p5 := Q4.out.frozen 5
 have x6 := U4.out.get 6 rfl
 have q6 := Q4.out.get 6 rfl
 have p6 := Q4.out.frozen 6
 have x7 := U4.out.get 7 rfl
 have q7 := Q4.out.get 7 rfl
 have p7 := Q4.out.frozen 7
 have x8 := U4.out.get 8 rfl
 have q8 := Q4.out.get 8 rfl
 have p8 := Q4.out.frozen 8
 have f1 := U4.out.frozen 3
 have l1 := U4.out.lt
 have l2 := Q4.out.lt
 go_wp2
 obtain ⟨w9, h9, hB9, s9, hb9, ho9⟩ := put9 (w4.setCell ⟨w.heap.size, 3, none⟩ (.slice D4 dr.length d4)) (w.heap.size + 1) 28 (.slice D1 rg.length d1) (.slice D2 hm.length d2) (.slice D3 pd.length d3) (.slice D4 dr.length d4) (.int .i64 sq) (.int .i64 bs) (.int .i64 sf) (.int .i64 at_) (.int .i64 df) (.slice none 0 0) (.slice none 0 0) (.slice none 0 0) (.slice none 0 0) (.int .i64 0) (.int .i64 0) (.int .i64 0) (.int .i64 0) (.int .i64 0) (Q4.out.far (by simp) _)
 rw [h9]
 clear h9 x0 q0 p0 x1 q1 p1 x2 q2 p2 x3 q3 p3 x4 q4 p4 x5 q5 p5 x6 q6 p6 x7 q7 p7 x8 q8 p8 f1 l1 l2
 obtain ⟨r0, r1, r2, r3, r4, r5, r6, r7, r8⟩ := hB9.g9
 refine bodyPost_ret (v := .agg #[.slice D1 rg.length d1, .slice D2 hm.length d2, .slice D3 pd.length d3, .slice D4 dr.length d4, .int .i64 sq, .int .i64 bs, .int .i64 sf, .int .i64 at_, .int .i64 df]) (by simp [results, Tryz.results28, go_sem, r0, r1, r2, r3, r4, r5, r6, r7, r8]) rfl ⟨_, rfl, ⟨_, _, _, _, ⟨D1, d1, D2, d2, D3, d3, D4, d4, rfl, rfl, rfl, rfl, rfl⟩, own_more (ho9 _ _ _ _ _ _ (by omega) (own_sc (g := w.heap.size) P1_4'.out 3 (by omega) _)) (by omega), own_more (ho9 _ _ _ _ _ _ (by omega) (own_sc (g := w.heap.size) P2_4'.out 3 (by omega) _)) (by omega), own_more (ho9 _ _ _ _ _ _ (by omega) (own_sc (g := w.heap.size) P3_4'.out 3 (by omega) _)) (by omega), own_more (ho9 _ _ _ _ _ _ (by omega) (own_sc (g := w.heap.size) P4_4'.out 3 (by omega) _)) (by omega), dis_lt w1.heap.size hi1.out (fun k hk => by have := own_lo P2_4'.out k hk; omega), dis_lt w1.heap.size hi1.out (fun k hk => by have := own_lo P3_4'.out k hk; omega), dis_lt w1.heap.size hi1.out (fun k hk => by have := own_lo P4_4'.out k hk; omega), dis_lt w2.heap.size hi2.out (fun k hk => by have := own_lo P3_4'.out k hk; omega), dis_lt w2.heap.size hi2.out (fun k hk => by have := own_lo P4_4'.out k hk; omega), dis_lt w3.heap.size hi3.out (fun k hk => by have := own_lo P4_4'.out k hk; omega)⟩, ?_⟩
 exact hb9 _ _ (by omega) g4

set_option maxRecDepth 100000 in
set_option maxHeartbeats 8000000 in
theorem l25Copy_any (v : Value) (B : BookD) (hl : B.rg.length ≤ 100000 ∧ B.hm.length ≤ 100000 ∧ B.pd.length ≤ 100000 ∧ B.dr.length ≤ 100000) (w : World) (h : IsBook w v B) :
  Calls Tryz.prog 44 #[v] w fun e w' => ∃ v', e = .returned v' ∧ OwnBk w.heap.size v' B w' ∧ Below w.heap.size w w' := by
 obtain ⟨A1, c1, A2, c2, A3, c3, A4, c4, rfl, h⟩ := h
 obtain ⟨rg, hm, pd, dr, sq, bs, sf, at_, df⟩ := B
 simp only at h hl ⊢
 have H := Lib.hid h
 have Hl := Lib.hid hl
 obtain ⟨hl1, hl2, hl3, hl4⟩ := hl
 clear h
 obtain ⟨W1, hW1⟩ : ∃ W, (w.alloc (.cells #[.slice A1 rg.length c1, .slice A2 hm.length c2, .slice A3 pd.length c3, .slice A4 dr.length c4, .int .i64 sq, .int .i64 bs, .int .i64 sf, .int .i64 at_, .int .i64 df] 28)).alloc (.cells zB_ 28) = W := ⟨_, rfl⟩
 have B1 : Below w.heap.size w W1 := by rw [← hW1]; exact belA (belA (bel0 w) _) _
 have S1 : W1.heap.size = w.heap.size + 2 := by rw [← hW1]; simp
 have hV1 : Blk W1 w.heap.size 28 #[.slice A1 rg.length c1, .slice A2 hm.length c2, .slice A3 pd.length c3, .slice A4 dr.length c4, .int .i64 sq, .int .i64 bs, .int .i64 sf, .int .i64 at_, .int .i64 df] := by rw [← hW1]; exact (Blk.new' _ _ _ _ rfl).alloc _
 have hR1 : Blk W1 (w.heap.size + 1) 28 zB_ := by rw [← hW1]; exact Blk.new' _ _ _ _ (by simp)
 have HW1 := Lib.hid hW1
 clear hW1
 go_enter Tryz.func44, Tryz.ntmps44
 go_upto_region 1 with fail
 rw [HW1.out]
 have x1 := hV1.get 0 rfl
 have z1 : True := trivial
 have f1 : True := trivial
 have l1 := hV1.lt
 have V1 := Lib.hid hV1
 have R1 := Lib.hid hR1
 clear hV1 hR1
 have L10 := World.ownsRow_lit (e := 9) (size := 1) W1 #[] 0 (Nat.le_refl _) (by unfold maxLen; omega) rfl
 have L1 := Lib.hid L10
 clear L10
 have H1 := Lib.hid (show Reads _ _ 1 A1 rg.length (SS rg) from (H.out.next (belA B1 (.cells #[] 9))).1)
 have HS1 := Lib.hid S1
 clear S1
 go_wp2_with (first
  | (at_builtin; refine wpList_app _ rfl _ _ _ rfl Tryz.el_str L1.out rfl H1.out rfl (SS_cells _) (by unfold maxLen; omega) (by omega) (by simp) ?_; intro v1 w1 own1 _ _ hb1; rw [Nat.zero_add] at own1; obtain ⟨D1, d1, rfl, _, _, _⟩ := own_vals own1; have U1 := Lib.hid ((V1.out.alloc (.cells #[] 9)).below hb1 V1.out.lt); have Q1 := Lib.hid ((R1.out.alloc (.cells #[] 9)).below hb1 R1.out.lt); have E1 := (belA B1 (.cells #[] 9)).trans (hb1.mono B1.size); have Hb1 := Lib.hid hb1; have O1 := Lib.hid own1; clear hb1 own1 x1 z1 f1 l1; have V2 := Lib.hid (show Blk (w1.setCell ⟨w.heap.size, 0, none⟩ (.slice D1 rg.length d1)) w.heap.size 28 #[.slice D1 rg.length d1, .slice A2 hm.length c2, .slice A3 pd.length c3, .slice A4 dr.length c4, .int .i64 sq, .int .i64 bs, .int .i64 sf, .int .i64 at_, .int .i64 df] from U1.out.put 0 _ _ rfl); have R2 := Lib.hid (show Blk (w1.setCell ⟨w.heap.size, 0, none⟩ (.slice D1 rg.length d1)) (w.heap.size + 1) 28 zB_ from Q1.out.far (by simp) _); have B2 : Below w.heap.size w (w1.setCell ⟨w.heap.size, 0, none⟩ (.slice D1 rg.length d1)) := belC E1 _ _ (Nat.le_refl _) _; have L20 := World.ownsRow_lit (e := 9) (size := 1) (w1.setCell ⟨w.heap.size, 0, none⟩ (.slice D1 rg.length d1)) #[] 0 (Nat.le_refl _) (by unfold maxLen; omega) rfl; rw [sz_sc] at L20; have L2 := Lib.hid L20; clear L20; have H2 := Lib.hid (show Reads _ _ 1 A2 hm.length (SS hm) from (H.out.next (belA B2 (.cells #[] 9))).2.1); have x1 := U1.out.get 1 rfl; have z1 := U1.out.get 0 rfl; have f1 := U1.out.frozen 0; have l1 := U1.out.lt)
  | (at_builtin; refine wpList_app _ rfl _ _ _ rfl Tryz.el_str L2.out rfl H2.out rfl (SS_cells _) (by unfold maxLen; omega) (by omega) (by simp) ?_; intro v2 w2 own2 _ _ hb2; rw [Nat.zero_add] at own2; obtain ⟨D2, d2, rfl, _, _, _⟩ := own_vals own2; have U2 := Lib.hid ((V2.out.alloc (.cells #[] 9)).below hb2 (by have := V2.out.lt; simp at this; omega)); have Q2 := Lib.hid ((R2.out.alloc (.cells #[] 9)).below hb2 (by have := R2.out.lt; simp at this; omega)); have E2 := (belA B2 (.cells #[] 9)).trans (hb2.mono (by have := B2.size; simp at this; omega)); have Hb2 := Lib.hid hb2; have O2 := Lib.hid own2; clear hb2 own2 x1 z1 f1 l1; have V3 := Lib.hid (show Blk (w2.setCell ⟨w.heap.size, 1, none⟩ (.slice D2 hm.length d2)) w.heap.size 28 #[.slice D1 rg.length d1, .slice D2 hm.length d2, .slice A3 pd.length c3, .slice A4 dr.length c4, .int .i64 sq, .int .i64 bs, .int .i64 sf, .int .i64 at_, .int .i64 df] from U2.out.put 1 _ _ rfl); have R3 := Lib.hid (show Blk (w2.setCell ⟨w.heap.size, 1, none⟩ (.slice D2 hm.length d2)) (w.heap.size + 1) 28 zB_ from Q2.out.far (by simp) _); have B3 : Below w.heap.size w (w2.setCell ⟨w.heap.size, 1, none⟩ (.slice D2 hm.length d2)) := belC E2 _ _ (Nat.le_refl _) _; have L30 := World.ownsRow_lit (e := 55) (size := 2) (w2.setCell ⟨w.heap.size, 1, none⟩ (.slice D2 hm.length d2)) #[] 0 (Nat.le_refl _) (by unfold maxLen; omega) rfl; rw [sz_sc] at L30; have L3 := Lib.hid L30; clear L30; have H3 := Lib.hid (show Reads _ _ 2 A3 pd.length (RS pd) from (H.out.next (belA B3 (.cells #[] 55))).2.2.1); have x1 := U2.out.get 2 rfl; have z1 := U2.out.get 1 rfl; have f1 := U2.out.frozen 1; have l1 := U2.out.lt)
  | (at_builtin; refine wpList_app _ rfl _ _ _ rfl Tryz.el_write L3.out rfl H3.out rfl (RS_cells _) (by unfold maxLen; omega) (by omega) (by simp) ?_; intro v3 w3 own3 _ _ hb3; rw [Nat.zero_add] at own3; obtain ⟨D3, d3, rfl, _, _, _⟩ := own_vals own3; have U3 := Lib.hid ((V3.out.alloc (.cells #[] 55)).below hb3 (by have := V3.out.lt; simp at this; omega)); have Q3 := Lib.hid ((R3.out.alloc (.cells #[] 55)).below hb3 (by have := R3.out.lt; simp at this; omega)); have E3 := (belA B3 (.cells #[] 55)).trans (hb3.mono (by have := B3.size; simp at this; omega)); have Hb3 := Lib.hid hb3; have O3 := Lib.hid own3; clear hb3 own3 x1 z1 f1 l1; have V4 := Lib.hid (show Blk (w3.setCell ⟨w.heap.size, 2, none⟩ (.slice D3 pd.length d3)) w.heap.size 28 #[.slice D1 rg.length d1, .slice D2 hm.length d2, .slice D3 pd.length d3, .slice A4 dr.length c4, .int .i64 sq, .int .i64 bs, .int .i64 sf, .int .i64 at_, .int .i64 df] from U3.out.put 2 _ _ rfl); have R4 := Lib.hid (show Blk (w3.setCell ⟨w.heap.size, 2, none⟩ (.slice D3 pd.length d3)) (w.heap.size + 1) 28 zB_ from Q3.out.far (by simp) _); have B4 : Below w.heap.size w (w3.setCell ⟨w.heap.size, 2, none⟩ (.slice D3 pd.length d3)) := belC E3 _ _ (Nat.le_refl _) _; have x1 := U3.out.get 3 rfl; have z1 := U3.out.get 2 rfl; have f1 := U3.out.frozen 2; have l1 := U3.out.lt))
 clear x1 z1 f1 l1
 have S1 := HS1.out
 have P1_1' := O1.out
 have hi1 := Lib.hid (own_hi P1_1')
 have s1 : W1.heap.size + 1 ≤ w1.heap.size := by have := Hb1.out.size; simp at this; omega
 have P2_2' := O2.out
 have hi2 := Lib.hid (own_hi P2_2')
 have s2 : w1.heap.size + 1 ≤ w2.heap.size := by have := Hb2.out.size; simp at this; omega
 have P3_3' := O3.out
 have hi3 := Lib.hid (own_hi P3_3')
 have s3 : w2.heap.size + 1 ≤ w3.heap.size := by have := Hb3.out.size; simp at this; omega
 have P1_2' := own_bel ((own_sc (g := w.heap.size) P1_1' 0 (by omega) (.slice D1 rg.length d1)).alloc (.cells #[] 9)) Hb2.out hi1.out
 have P1_3' := own_bel ((own_sc (g := w.heap.size) P1_2' 1 (by omega) (.slice D2 hm.length d2)).alloc (.cells #[] 55)) Hb3.out (fun k hk => by have := hi1.out k hk; omega)
 have P2_3' := own_bel ((own_sc (g := w.heap.size) P2_2' 1 (by omega) (.slice D2 hm.length d2)).alloc (.cells #[] 55)) Hb3.out hi2.out
 have t4 : (w3.setCell ⟨w.heap.size, 2, none⟩ (.slice D3 pd.length d3)).heap.size = w3.heap.size := by simp
 refine (l5Copy_any A4 dr.length c4 dr (by omega) _ (H.out.next B4).2.2.2).mono ?_
 rintro e w4 ⟨_, rfl, own4, hb4⟩
 have s4 := hb4.size
 rw [t4] at s4
 have P1_4' := Lib.hid (own_below (own_sc (g := w.heap.size) P1_3' 2 (by omega) (.slice D3 pd.length d3)) hb4 (Nat.le_refl _))
 have P2_4' := Lib.hid (own_below (own_sc (g := w.heap.size) P2_3' 2 (by omega) (.slice D3 pd.length d3)) hb4 (Nat.le_refl _))
 have P3_4' := Lib.hid (own_below (own_sc (g := w.heap.size) P3_3' 2 (by omega) (.slice D3 pd.length d3)) hb4 (Nat.le_refl _))
 obtain ⟨D4, d4, rfl, _, _, _⟩ := own_vals own4
 have U4 := Lib.hid (V4.out.below hb4 V4.out.lt)
 have Q4 := Lib.hid (R4.out.below hb4 R4.out.lt)
 have E4 := belN B4 hb4
 rw [t4] at own4
 have P4_4' := Lib.hid own4
 clear own4 P1_1' P1_2' P1_3' P2_2' P2_3' P3_3' V4 R4
 have g4 := belC E4 w.heap.size 3 (Nat.le_refl _) (.slice D4 dr.length d4)
 have x0 := U4.out.get 0 rfl
 have q0 := Q4.out.get 0 rfl
 have p0 := Q4.out.frozen 0
 have x1 := U4.out.get 1 rfl
 have q1 := Q4.out.get 1 rfl
 have p1 := Q4.out.frozen 1
 have x2 := U4.out.get 2 rfl
 have q2 := Q4.out.get 2 rfl
 have p2 := Q4.out.frozen 2
 have x3 := U4.out.get 3 rfl
 have q3 := Q4.out.get 3 rfl
 have p3 := Q4.out.frozen 3
 have x4 := U4.out.get 4 rfl
 have q4 := Q4.out.get 4 rfl
 have p4 := Q4.out.frozen 4
 have x5 := U4.out.get 5 rfl
 have q5 := Q4.out.get 5 rfl
 have p5 := Q4.out.frozen 5
 have x6 := U4.out.get 6 rfl
 have q6 := Q4.out.get 6 rfl
 have p6 := Q4.out.frozen 6
 have x7 := U4.out.get 7 rfl
 have q7 := Q4.out.get 7 rfl
 have p7 := Q4.out.frozen 7
 have x8 := U4.out.get 8 rfl
 have q8 := Q4.out.get 8 rfl
 have p8 := Q4.out.frozen 8
 have f1 := U4.out.frozen 3
 have l1 := U4.out.lt
 have l2 := Q4.out.lt
 go_wp2
 obtain ⟨w9, h9, hB9, s9, hb9, ho9⟩ := put9 (w4.setCell ⟨w.heap.size, 3, none⟩ (.slice D4 dr.length d4)) (w.heap.size + 1) 28 (.slice D1 rg.length d1) (.slice D2 hm.length d2) (.slice D3 pd.length d3) (.slice D4 dr.length d4) (.int .i64 sq) (.int .i64 bs) (.int .i64 sf) (.int .i64 at_) (.int .i64 df) (.slice none 0 0) (.slice none 0 0) (.slice none 0 0) (.slice none 0 0) (.int .i64 0) (.int .i64 0) (.int .i64 0) (.int .i64 0) (.int .i64 0) (Q4.out.far (by simp) _)
 rw [h9]
 clear h9 x0 q0 p0 x1 q1 p1 x2 q2 p2 x3 q3 p3 x4 q4 p4 x5 q5 p5 x6 q6 p6 x7 q7 p7 x8 q8 p8 f1 l1 l2
 obtain ⟨r0, r1, r2, r3, r4, r5, r6, r7, r8⟩ := hB9.g9
 refine bodyPost_ret (v := .agg #[.slice D1 rg.length d1, .slice D2 hm.length d2, .slice D3 pd.length d3, .slice D4 dr.length d4, .int .i64 sq, .int .i64 bs, .int .i64 sf, .int .i64 at_, .int .i64 df]) (by simp [results, Tryz.results44, go_sem, r0, r1, r2, r3, r4, r5, r6, r7, r8]) rfl ⟨_, rfl, ⟨_, _, _, _, ⟨D1, d1, D2, d2, D3, d3, D4, d4, rfl, rfl, rfl, rfl, rfl⟩, own_more (ho9 _ _ _ _ _ _ (by omega) (own_sc (g := w.heap.size) P1_4'.out 3 (by omega) _)) (by omega), own_more (ho9 _ _ _ _ _ _ (by omega) (own_sc (g := w.heap.size) P2_4'.out 3 (by omega) _)) (by omega), own_more (ho9 _ _ _ _ _ _ (by omega) (own_sc (g := w.heap.size) P3_4'.out 3 (by omega) _)) (by omega), own_more (ho9 _ _ _ _ _ _ (by omega) (own_sc (g := w.heap.size) P4_4'.out 3 (by omega) _)) (by omega), dis_lt w1.heap.size hi1.out (fun k hk => by have := own_lo P2_4'.out k hk; omega), dis_lt w1.heap.size hi1.out (fun k hk => by have := own_lo P3_4'.out k hk; omega), dis_lt w1.heap.size hi1.out (fun k hk => by have := own_lo P4_4'.out k hk; omega), dis_lt w2.heap.size hi2.out (fun k hk => by have := own_lo P3_4'.out k hk; omega), dis_lt w2.heap.size hi2.out (fun k hk => by have := own_lo P4_4'.out k hk; omega), dis_lt w3.heap.size hi3.out (fun k hk => by have := own_lo P4_4'.out k hk; omega)⟩, ?_⟩
 exact hb9 _ _ (by omega) g4

/-- A write is done. -/
def wrB (a : List ByteArray × List ByteArray) (e : Int × ByteArray) : List ByteArray × List ByteArray := if e.1 < 6 then (a.1.set e.1.toNat e.2, a.2) else (a.1, a.2.set (e.1 - 6).toNat e.2)
def wrsB (rg hm : List ByteArray) (pd : List (Int × ByteArray)) (k : Nat) : List ByteArray × List ByteArray := (pd.take k).foldl wrB (rg, hm)
theorem wrs_0 (rg hm : List ByteArray) (pd : List (Int × ByteArray)) : wrsB rg hm pd 0 = (rg, hm) := by simp [wrsB]
theorem wrs_succ {rg hm : List ByteArray} {pd : List (Int × ByteArray)} {k : Nat} (hk : k < pd.length) : wrsB rg hm pd (k + 1) = wrB (wrsB rg hm pd k) pd[k] := by
 unfold wrsB; rw [List.take_succ_eq_append_getElem hk, List.foldl_append]; rfl
theorem wrB_len (a : List ByteArray × List ByteArray) (e : Int × ByteArray) : (wrB a e).1.length = a.1.length ∧ (wrB a e).2.length = a.2.length := by
 unfold wrB; split <;> simp
theorem wrs_len (rg hm : List ByteArray) (pd : List (Int × ByteArray)) : ∀ k, k ≤ pd.length → (wrsB rg hm pd k).1.length = rg.length ∧ (wrsB rg hm pd k).2.length = hm.length
 | 0, _ => by rw [wrs_0]; exact ⟨rfl, rfl⟩
 | k + 1, h => by
  rw [wrs_succ (by omega)]
  have h1 := wrs_len rg hm pd k (by omega)
  have h2 := wrB_len (wrsB rg hm pd k) (pd[k]'(by omega))
  exact ⟨h2.1.trans h1.1, h2.2.trans h1.2⟩
/-- The book behind its writes. -/
def flB (B : BookD) : BookD := ⟨(wrsB B.rg B.hm B.pd B.pd.length).1, (wrsB B.rg B.hm B.pd B.pd.length).2, [], B.dr, B.sq, if B.df = 0 then B.bs else B.df, B.sq, if B.df = 0 then B.at_ else 1 - B.at_, 0⟩
def zeroBk : BookD := ⟨[], [], [], [], 0, 0, 0, 0, 0⟩
noncomputable def flushP (B : BookD) : BookD × Bool := if bookOkB B = true then (flB B, true) else (zeroBk, false)
theorem flush_no {B : BookD} (h : bookOkB B = false) : flushP B = (zeroBk, false) := by unfold flushP; rw [if_neg (by rw [h]; simp)]
theorem flush_yes {B : BookD} (h : bookOkB B = true) : flushP B = (flB B, true) := by unfold flushP; rw [if_pos h]
theorem bk_is {B : BookD} (h : bookOkB B = true) : BookP B := (@decide_eq_true_iff _ (Classical.propDecidable _)).1 h
theorem SS_set (l : List ByteArray) (k : Nat) (x : ByteArray) : SS (l.set k x) = (SS l).set k (.string x) := by
 unfold SS; rw [List.map_set]

set_option maxRecDepth 100000 in
set_option maxHeartbeats 4000000 in
theorem write_impl (G g1 c1 g2 c2 base : Nat) (cs : Array Value) (rg hm : List ByteArray) (e : Int × ByteArray) (he : inI e.1 0 7 = true) (w : World) (hG : Blk w G 28 cs) (hne : g1 ≠ g2)
  (hc0 : cs[0]? = some (.slice (some ⟨g1, 0, none⟩) 6 c1)) (hc1 : cs[1]? = some (.slice (some ⟨g2, 0, none⟩) 2 c2))
  (o1 : w.ownsRow base 9 1 (.slice (some ⟨g1, 0, none⟩) 6 c1) 6 (SS rg)) (o2 : w.ownsRow base 9 1 (.slice (some ⟨g2, 0, none⟩) 2 c2) 2 (SS hm)) :
  Calls Tryz.prog 30 #[.pointer (some ⟨G, 0, none⟩), .agg #[.int .i64 e.1, .string e.2]] w fun r w' => r = .returned (.tuple #[]) ∧ ∃ g, (g = g1 ∨ g = g2) ∧ w.grownBy w' (some g) ∧
   w'.ownsRow base 9 1 (.slice (some ⟨g1, 0, none⟩) 6 c1) 6 (SS (wrB (rg, hm) e).1) ∧ w'.ownsRow base 9 1 (.slice (some ⟨g2, 0, none⟩) 2 c2) 2 (SS (wrB (rg, hm) e).2) := by
 obtain ⟨x, t⟩ := e
 simp only at he ⊢
 obtain ⟨hx0, hx7⟩ := inI_t.1 he
 obtain ⟨k, rfl⟩ : ∃ k : Nat, x = (k : Int) := ⟨x.toNat, by omega⟩
 obtain ⟨W1, hW1⟩ : ∃ W, w.alloc (.cells #[.int .i64 (k : Int), .string t] 55) = W := ⟨_, rfl⟩
 have hb := Blk.new' w 55 #[.int .i64 (k : Int), .string t] w.heap.size
 have hG1 : Blk W1 G 28 cs := by rw [← hW1]; exact hG.alloc _
 have p1 : W1.ownsRow base 9 1 (.slice (some ⟨g1, 0, none⟩) 6 c1) 6 (SS rg) := by rw [← hW1]; exact o1.alloc _
 have p2 : W1.ownsRow base 9 1 (.slice (some ⟨g2, 0, none⟩) 2 c2) 2 (SS hm) := by rw [← hW1]; exact o2.alloc _
 rw [hW1] at hb
 have b0 := hb.get (x := .int .i64 (k : Int)) 0 rfl
 have b1 := hb.get (x := .string t) 1 rfl
 have lb := hb.lt
 have gw : ∀ g, w.grownBy W1 g := fun g => by rw [← hW1]; exact ⟨rfl, rfl, rfl, by simp, fun i hi _ => Below.heap_alloc w _ i hi⟩
 have lG := hG1.lt
 have HW1 := Lib.hid hW1
 clear hW1 he o1 o2 hG hb
 by_cases h6 : (k : Int) < 6
 ·have hw : wrB (rg, hm) ((k : Int), t) = (rg.set k t, hm) := by unfold wrB; rw [if_pos h6]; simp
  have z0 := hG1.get 0 hc0
  have hcell := p1.cellAt k (by omega)
  have hlen : (SS rg).length = 6 * 1 := p1.1
  rw [List.getElem?_eq_getElem (by omega)] at hcell
  have f1 := own_frozen p1 k
  have q0 : (0 : Int) ≤ (k : Int) := by omega
  have q1 : (k : Int) < 6 := by omega
  have Hs := Lib.hid (own_set p1 k (.string t))
  have Hs2 := Lib.hid (p2.kept (only_sc (grown_refl W1 (some g1)) k (.string t)) (.inr (by simp [Value.ownBlock]; exact fun h => hne h.symm)))
  have Hg := Lib.hid (only_sc (gw (some g1)) k (.string t))
  have Hw := Lib.hid hw
  clear hw p1 p2 gw hG1
  go_enter Tryz.func30, Tryz.ntmps30
  go_wp2_with fail
  rw [HW1.out]
  go_still_tail 8, (by kernel_rfl)
  change wpList _ _ _ _ _ W1.drew
  go_wp2
  refine bodyPost_end (v := .tuple #[]) (by simp [results, Tryz.results30, go_sem]) rfl ⟨rfl, g1, .inl rfl, ?_, ?_, ?_⟩
  ·exact ⟨Hg.out.os, Hg.out.tape, Hg.out.output, Hg.out.size, Hg.out.block⟩
  ·rw [Hw.out, SS_set]; exact Hs.out
  ·rw [Hw.out]; exact Hs2.out
 ·obtain ⟨m, hm6⟩ : ∃ m : Nat, (k : Int) = (m : Int) + 6 := ⟨k - 6, by omega⟩
  have w7 : (k : Int) - 6 = (m : Int) := by omega
  have w6 : IntKind.i64.wrap ((k : Int) - 6) = (m : Int) := by rw [IntKind.wrap_i64]; omega
  have w5 : IntKind.i64.wrap (m : Int) = (m : Int) := by rw [IntKind.wrap_i64]; omega
  replace hm6 := Lib.hid hm6
  have hw : wrB (rg, hm) ((k : Int), t) = (rg, hm.set m t) := by unfold wrB; rw [if_neg h6]; show (rg, hm.set ((k : Int) - 6).toNat t) = _; rw [w7]; simp
  have z0 := hG1.get 1 hc1
  have hcell := p2.cellAt m (by have := hm6.out; omega)
  have hlen : (SS hm).length = 2 * 1 := p2.1
  rw [List.getElem?_eq_getElem (by omega)] at hcell
  have f1 := own_frozen p2 m
  have q0 : (0 : Int) ≤ (m : Int) := by omega
  have q1 : (m : Int) < 2 := by have := hm6.out; omega
  have Hs := Lib.hid (own_set p2 m (.string t))
  have Hs2 := Lib.hid (p1.kept (only_sc (grown_refl W1 (some g2)) m (.string t)) (.inr (by simp [Value.ownBlock]; exact fun h => hne h)))
  have Hg := Lib.hid (only_sc (gw (some g2)) m (.string t))
  have Hw := Lib.hid hw
  clear hw p1 p2 gw hG1
  go_enter Tryz.func30, Tryz.ntmps30
  go_wp2_with fail
  rw [HW1.out]
  go_still_tail 9, (by kernel_rfl)
  change wpList _ _ _ _ _ W1.drew
  go_wp2
  refine bodyPost_end (v := .tuple #[]) (by simp [results, Tryz.results30, go_sem]) rfl ⟨rfl, g2, .inr rfl, ?_, ?_, ?_⟩
  ·exact ⟨Hg.out.os, Hg.out.tape, Hg.out.output, Hg.out.size, Hg.out.block⟩
  ·rw [Hw.out]; exact Hs2.out
  ·rw [Hw.out, SS_set]; exact Hs.out
theorem own_scN {w : World} {base n size : Nat} {e : TypeId} {v : Value} {xs : List Value} (h : w.ownsRow base e size v n xs) {g : Nat} (o : Nat) (hg : ∀ k, v.ownBlock = some k → k ≠ g) (u : Value) : (w.setCell ⟨g, o, none⟩ u).ownsRow base e size v n xs := by
 refine ⟨h.1, ?_⟩
 rcases h.2 with h2 | ⟨g', cap, cur, hv, hb, hh, r⟩
 ·exact .inl h2
 ·exact .inr ⟨g', cap, cur, hv, hb, (Below.heap_setCell w ⟨g, o, none⟩ u g' (hg g' (by rw [hv]; rfl))).trans hh, r⟩

set_option maxRecDepth 100000 in
set_option maxHeartbeats 8000000 in
theorem flush_impl (G g1 c1 g2 c2 base lo : Nat) (A3 : Option Addr) (c3 : Nat) (A4 : Option Addr) (c4 : Nat) (B : BookD) (hp : ∀ e ∈ B.pd, inI e.1 0 7 = true) (hn : B.pd.length ≤ 100000) (ha : inI B.at_ 0 1 = true) (w : World)
  (hG : Blk w G 28 #[.slice (some ⟨g1, 0, none⟩) 6 c1, .slice (some ⟨g2, 0, none⟩) 2 c2, .slice A3 B.pd.length c3, .slice A4 B.dr.length c4, .int .i64 B.sq, .int .i64 B.bs, .int .i64 B.sf, .int .i64 B.at_, .int .i64 B.df]) (hlo1 : lo ≤ G) (hlo2 : lo ≤ base) (hGr : ∀ v, v = (.slice (some ⟨g1, 0, none⟩) 6 c1 : Value) ∨ v = .slice (some ⟨g2, 0, none⟩) 2 c2 ∨ v = .slice A3 B.pd.length c3 ∨ v = .slice A4 B.dr.length c4 → ∀ k, v.ownBlock = some k → k ≠ G)
  (o1 : w.ownsRow base 9 1 (.slice (some ⟨g1, 0, none⟩) 6 c1) 6 (SS B.rg)) (o2 : w.ownsRow base 9 1 (.slice (some ⟨g2, 0, none⟩) 2 c2) 2 (SS B.hm)) (o3 : w.ownsRow base 55 2 (.slice A3 B.pd.length c3) B.pd.length (RS B.pd)) (o4 : w.ownsRow base 66 4 (.slice A4 B.dr.length c4) B.dr.length (ES B.dr))
  (d12 : Dis (.slice (some ⟨g1, 0, none⟩) 6 c1) (.slice (some ⟨g2, 0, none⟩) 2 c2)) (d13 : Dis (.slice (some ⟨g1, 0, none⟩) 6 c1) (.slice A3 B.pd.length c3)) (d14 : Dis (.slice (some ⟨g1, 0, none⟩) 6 c1) (.slice A4 B.dr.length c4)) (d23 : Dis (.slice (some ⟨g2, 0, none⟩) 2 c2) (.slice A3 B.pd.length c3)) (d24 : Dis (.slice (some ⟨g2, 0, none⟩) 2 c2) (.slice A4 B.dr.length c4)) :
  Calls Tryz.prog 29 #[.pointer (some ⟨G, 0, none⟩)] w fun r w' => r = .returned (.tuple #[]) ∧
   Blk w' G 28 #[.slice (some ⟨g1, 0, none⟩) 6 c1, .slice (some ⟨g2, 0, none⟩) 2 c2, .slice none 0 0, .slice A4 B.dr.length c4, .int .i64 B.sq, .int .i64 (flB B).bs, .int .i64 B.sq, .int .i64 (flB B).at_, .int .i64 0] ∧
   w'.ownsRow base 9 1 (.slice (some ⟨g1, 0, none⟩) 6 c1) 6 (SS (flB B).rg) ∧ w'.ownsRow base 9 1 (.slice (some ⟨g2, 0, none⟩) 2 c2) 2 (SS (flB B).hm) ∧ w'.ownsRow base 66 4 (.slice A4 B.dr.length c4) B.dr.length (ES B.dr) ∧ Below lo w w' := by
 obtain ⟨hat0, hat1⟩ := inI_t.1 ha
 have hne : g1 ≠ g2 := by
  rcases d12 with h | h | h
  ·cases h
  ·cases h
  ·intro e; exact h (by rw [e]; rfl)
 have hg1G : g1 ≠ G := hGr _ (.inl rfl) g1 rfl
 have hg2G : g2 ≠ G := hGr _ (.inr (.inl rfl)) g2 rfl
 have HGr := Lib.hid hGr
 have HG := Lib.hid hG
 have O1 := Lib.hid o1
 have O2 := Lib.hid o2
 have O3 := Lib.hid o3
 have O4 := Lib.hid o4
 have Hp := Lib.hid hp
 have D13 := Lib.hid d13
 have D14 := Lib.hid d14
 have D23 := Lib.hid d23
 have D24 := Lib.hid d24
 have lG := hG.lt
 have x2 := hG.get (x := .slice A3 B.pd.length c3) 2 rfl
 clear hGr hG o1 o2 o3 o4 hp d12 d13 d14 d23 d24 ha
 go_enter Tryz.func29, Tryz.ntmps29
 go_wp2
 go_loopw [9] (fun i wr => ∃ k : Nat, k ≤ B.pd.length ∧ i = .int .i64 k ∧ Hid (Blk wr G 28 #[.slice (some ⟨g1, 0, none⟩) 6 c1, .slice (some ⟨g2, 0, none⟩) 2 c2, .slice A3 B.pd.length c3, .slice A4 B.dr.length c4, .int .i64 B.sq, .int .i64 B.bs, .int .i64 B.sf, .int .i64 B.at_, .int .i64 B.df]) ∧ Hid (wr.ownsRow base 9 1 (.slice (some ⟨g1, 0, none⟩) 6 c1) 6 (SS (wrsB B.rg B.hm B.pd k).1)) ∧ Hid (wr.ownsRow base 9 1 (.slice (some ⟨g2, 0, none⟩) 2 c2) 2 (SS (wrsB B.rg B.hm B.pd k).2)) ∧
   Hid (wr.ownsRow base 55 2 (.slice A3 B.pd.length c3) B.pd.length (RS B.pd)) ∧ Hid (wr.ownsRow base 66 4 (.slice A4 B.dr.length c4) B.dr.length (ES B.dr)) ∧ Below lo w wr)
  (fun i _ => B.pd.length - (intOf i).toNat)
 case atStart => exact ⟨0, by omega, rfl, HG.out, by rw [wrs_0]; exact O1.out, by rw [wrs_0]; exact O2.out, O3.out, O4.out, Below.refl _ _⟩
 case round =>
  obtain ⟨k, hk, rfl, hB, P1, P2, P3, P4, hbel⟩ := hrel
  have lB := hB.out.lt
  by_cases hlt : k < B.pd.length
  ·obtain ⟨A', c', he, _, _, hr⟩ := own_vals P3.out
   simp only [Value.slice.injEq] at he
   obtain ⟨rfl, _, rfl⟩ := he
   obtain ⟨hkx, b, o, hA3, hadb, z0, z1⟩ := reads_rec hr hlt
   have q0 : (0 : Int) ≤ ↑k := by omega
   have q1 : (↑k : Int) < ↑B.pd.length := by omega
   have hws := Lib.hid (wrs_succ (rg := B.rg) (hm := B.hm) hkx)
   have hpe := Lib.hid (Hp.out _ (List.getElem_mem hkx))
   obtain ⟨e, hee⟩ : ∃ e, B.pd[k] = e := ⟨_, rfl⟩
   rw [hee] at z0 z1 hws hpe
   subst hA3
   clear hee hr
   go_wp2_with fail
   refine (write_impl G g1 c1 g2 c2 base _ _ _ e hpe.out _ (hB.out.alloc _) hne rfl rfl (P1.out.alloc _) (P2.out.alloc _)).mono ?_
   rintro r w2 ⟨rfl, g, hgor, hgr, p1, p2⟩
   have hGg : some G ≠ some g := by rcases hgor with rfl | rfl <;> (intro h; injection h with h; omega)
   have hB2 := Lib.hid ((hB.out.alloc (.cells #[.int .i64 e.1, .string e.2] 55)).grown hgr hGg)
   have k3 : (.slice (some ⟨b, o, none⟩) B.pd.length c3 : Value).ownBlock = none ∨ (.slice (some ⟨b, o, none⟩) B.pd.length c3 : Value).ownBlock ≠ some g := by
    rcases hgor with rfl | rfl
    ·exact D13.out.symm.l
    ·exact D23.out.symm.l
   have k4 : (.slice A4 B.dr.length c4 : Value).ownBlock = none ∨ (.slice A4 B.dr.length c4 : Value).ownBlock ≠ some g := by
    rcases hgor with rfl | rfl
    ·exact D14.out.symm.l
    ·exact D24.out.symm.l
   have R3 := Lib.hid ((P3.out.alloc (.cells #[.int .i64 e.1, .string e.2] 55)).kept hgr k3)
   have R4 := Lib.hid ((P4.out.alloc (.cells #[.int .i64 e.1, .string e.2] 55)).kept hgr k4)
   have hlg : lo ≤ g := by rcases hgor with rfl | rfl; exact Nat.le_trans hlo2 (own_lo p1 _ rfl); exact Nat.le_trans hlo2 (own_lo p2 _ rfl)
   have hb2 := (hbel.alloc (by omega) (.cells #[.int .i64 e.1, .string e.2] 55)).grown hgr (by simp; omega) (fun q hq => by injection hq with hq; omega)
   have R1 := Lib.hid p1
   have R2 := Lib.hid p2
   clear p1 p2 z0 z1 hgr k3 k4
   go_wp2
   go_roundw
   case rel =>
    refine ⟨k + 1, by omega, by go_num, hB2.out, ?_, ?_, R3.out, R4.out, hb2⟩
    ·show World.ownsRow _ _ _ _ _ _ _; rw [hws.out]; exact R1.out
    ·show World.ownsRow _ _ _ _ _ _ _; rw [hws.out]; exact R2.out
   case measure => simp [intOf]; omega
  ·obtain rfl : k = B.pd.length := by omega
   clear x2
   have y2 := hB.out.frozen 2
   have y5 := hB.out.frozen 5
   have y6 := hB.out.frozen 6
   have y7 := hB.out.frozen 7
   have y8 := hB.out.frozen 8
   have x4 := hB.out.get (x := .int .i64 B.sq) 4 rfl
   have x7 := hB.out.get (x := .int .i64 B.at_) 7 rfl
   have x2 := hB.out.get 2 rfl
   have x5 := hB.out.get 5 rfl
   have x6 := hB.out.get 6 rfl
   by_cases hdf : B.df = 0
   ·have x8 := hB.out.get (x := .int .i64 B.df) 8 rfl
    rw [hdf] at x8
    have HB := Lib.hid ((hB.out.put 2 (.slice none 0 0) #[.slice (some ⟨g1, 0, none⟩) 6 c1, .slice (some ⟨g2, 0, none⟩) 2 c2, .slice none 0 0, .slice A4 B.dr.length c4, .int .i64 B.sq, .int .i64 B.bs, .int .i64 B.sf, .int .i64 B.at_, .int .i64 B.df] rfl).put 6 (.int .i64 B.sq) #[.slice (some ⟨g1, 0, none⟩) 6 c1, .slice (some ⟨g2, 0, none⟩) 2 c2, .slice none 0 0, .slice A4 B.dr.length c4, .int .i64 B.sq, .int .i64 B.bs, .int .i64 B.sq, .int .i64 B.at_, .int .i64 B.df] rfl)
    have Hdf := Lib.hid hdf
    clear hdf
    go_wp2
    refine bodyPost_end (v := .tuple #[]) (by simp [results, Tryz.results29, go_sem]) rfl ⟨rfl, ?_, (own_scN (own_scN P1.out 2 (HGr.out _ (.inl rfl)) _) 6 (HGr.out _ (.inl rfl)) _), (own_scN (own_scN P2.out 2 (HGr.out _ (.inr (.inl rfl))) _) 6 (HGr.out _ (.inr (.inl rfl))) _), (own_scN (own_scN P4.out 2 (HGr.out _ (.inr (.inr (.inr rfl)))) _) 6 (HGr.out _ (.inr (.inr (.inr rfl)))) _), ((hbel.setCell (p := ⟨G, 2, none⟩) hlo1 _).setCell (p := ⟨G, 6, none⟩) hlo1 _)⟩
    have hb := HB.out
    rw [Hdf.out] at hb
    rw [show (flB B).bs = B.bs by simp [flB, Hdf.out], show (flB B).at_ = B.at_ by simp [flB, Hdf.out]]
    exact hb
   ·have x8 := hB.out.get (x := .int .i64 B.df) 8 rfl
    have tdf : (B.df != 0) = true := by simpa using hdf
    have HB := Lib.hid (((((hB.out.put 2 (.slice none 0 0) #[.slice (some ⟨g1, 0, none⟩) 6 c1, .slice (some ⟨g2, 0, none⟩) 2 c2, .slice none 0 0, .slice A4 B.dr.length c4, .int .i64 B.sq, .int .i64 B.bs, .int .i64 B.sf, .int .i64 B.at_, .int .i64 B.df] rfl).put 6 (.int .i64 B.sq) #[.slice (some ⟨g1, 0, none⟩) 6 c1, .slice (some ⟨g2, 0, none⟩) 2 c2, .slice none 0 0, .slice A4 B.dr.length c4, .int .i64 B.sq, .int .i64 B.bs, .int .i64 B.sq, .int .i64 B.at_, .int .i64 B.df] rfl).put 5 (.int .i64 B.df) #[.slice (some ⟨g1, 0, none⟩) 6 c1, .slice (some ⟨g2, 0, none⟩) 2 c2, .slice none 0 0, .slice A4 B.dr.length c4, .int .i64 B.sq, .int .i64 B.df, .int .i64 B.sq, .int .i64 B.at_, .int .i64 B.df] rfl).put 7 (.int .i64 (1 - B.at_)) #[.slice (some ⟨g1, 0, none⟩) 6 c1, .slice (some ⟨g2, 0, none⟩) 2 c2, .slice none 0 0, .slice A4 B.dr.length c4, .int .i64 B.sq, .int .i64 B.df, .int .i64 B.sq, .int .i64 (1 - B.at_), .int .i64 B.df] rfl).put 8 (.int .i64 0) #[.slice (some ⟨g1, 0, none⟩) 6 c1, .slice (some ⟨g2, 0, none⟩) 2 c2, .slice none 0 0, .slice A4 B.dr.length c4, .int .i64 B.sq, .int .i64 B.df, .int .i64 B.sq, .int .i64 (1 - B.at_), .int .i64 0] rfl)
    go_wp2
    refine bodyPost_end (v := .tuple #[]) (by simp [results, Tryz.results29, go_sem]) rfl ⟨rfl, ?_, (own_scN (own_scN (own_scN (own_scN (own_scN P1.out 2 (HGr.out _ (.inl rfl)) _) 6 (HGr.out _ (.inl rfl)) _) 5 (HGr.out _ (.inl rfl)) _) 7 (HGr.out _ (.inl rfl)) _) 8 (HGr.out _ (.inl rfl)) _), (own_scN (own_scN (own_scN (own_scN (own_scN P2.out 2 (HGr.out _ (.inr (.inl rfl))) _) 6 (HGr.out _ (.inr (.inl rfl))) _) 5 (HGr.out _ (.inr (.inl rfl))) _) 7 (HGr.out _ (.inr (.inl rfl))) _) 8 (HGr.out _ (.inr (.inl rfl))) _), (own_scN (own_scN (own_scN (own_scN (own_scN P4.out 2 (HGr.out _ (.inr (.inr (.inr rfl)))) _) 6 (HGr.out _ (.inr (.inr (.inr rfl)))) _) 5 (HGr.out _ (.inr (.inr (.inr rfl)))) _) 7 (HGr.out _ (.inr (.inr (.inr rfl)))) _) 8 (HGr.out _ (.inr (.inr (.inr rfl)))) _), (((((hbel.setCell (p := ⟨G, 2, none⟩) hlo1 _).setCell (p := ⟨G, 6, none⟩) hlo1 _).setCell (p := ⟨G, 5, none⟩) hlo1 _).setCell (p := ⟨G, 7, none⟩) hlo1 _).setCell (p := ⟨G, 8, none⟩) hlo1 _)⟩
    have hb := HB.out
    rw [show (flB B).bs = B.df by simp [flB, hdf], show (flB B).at_ = 1 - B.at_ by simp [flB, hdf]]
    exact hb

/-- What a flush leaves: a book in new memory, and whether it is one. -/
def FlPost (w : World) (P : BookD × Bool) (e : Ending) (w' : World) : Prop := ∃ B' b v, P = (B', b) ∧ e = .returned (.tuple #[v, .bool b]) ∧ OwnBk w.heap.size v B' w'
theorem dis_n (v : Value) (n c : Nat) : Dis v (.slice none n c) := .inr (.inl rfl)
theorem zero_own (lo : Nat) (w : World) : OwnBk lo (.agg zB_) zeroBk w :=
 ⟨_, _, _, _, ⟨none, 0, none, 0, none, 0, none, 0, rfl, rfl, rfl, rfl, rfl⟩, own_nilC _ _ _ _, own_nilC _ _ _ _, own_nilC _ _ _ _, own_nilC _ _ _ _, dis_n _ _ _, dis_n _ _ _, dis_n _ _ _, dis_n _ _ _, dis_n _ _ _, dis_n _ _ _⟩
theorem fl_len {B : BookD} (h1 : B.rg.length = 6) (h2 : B.hm.length = 2) : (flB B).rg.length = 6 ∧ (flB B).hm.length = 2 := by
 have hl := wrs_len B.rg B.hm B.pd B.pd.length (Nat.le_refl _)
 exact ⟨by show (wrsB B.rg B.hm B.pd B.pd.length).1.length = 6; omega, by show (wrsB B.rg B.hm B.pd B.pd.length).2.length = 2; omega⟩
/-- A flushed book's rows make it a book of one's own. -/
theorem fl_own {lo g1 c1 g2 c2 c4 : Nat} {v3 : Value} {A3' : Option Addr} {c3' : Nat} {A4 : Option Addr} {B : BookD} {w : World} (h1 : B.rg.length = 6) (h2 : B.hm.length = 2) (h3 : v3 = .slice A3' 0 c3')
  (p1 : w.ownsRow lo 9 1 (.slice (some ⟨g1, 0, none⟩) 6 c1) 6 (SS (flB B).rg)) (p2 : w.ownsRow lo 9 1 (.slice (some ⟨g2, 0, none⟩) 2 c2) 2 (SS (flB B).hm)) (p3 : w.ownsRow lo 55 2 v3 0 (RS [])) (p4 : w.ownsRow lo 66 4 (.slice A4 B.dr.length c4) B.dr.length (ES B.dr))
  (d12 : Dis (.slice (some ⟨g1, 0, none⟩) 6 c1) (.slice (some ⟨g2, 0, none⟩) 2 c2)) (d13 : Dis (.slice (some ⟨g1, 0, none⟩) 6 c1) v3) (d14 : Dis (.slice (some ⟨g1, 0, none⟩) 6 c1) (.slice A4 B.dr.length c4)) (d23 : Dis (.slice (some ⟨g2, 0, none⟩) 2 c2) v3) (d24 : Dis (.slice (some ⟨g2, 0, none⟩) 2 c2) (.slice A4 B.dr.length c4)) (d34 : Dis v3 (.slice A4 B.dr.length c4)) :
  OwnBk lo (.agg #[.slice (some ⟨g1, 0, none⟩) 6 c1, .slice (some ⟨g2, 0, none⟩) 2 c2, v3, .slice A4 B.dr.length c4, .int .i64 B.sq, .int .i64 (flB B).bs, .int .i64 B.sq, .int .i64 (flB B).at_, .int .i64 0]) (flB B) w := by
 obtain ⟨l1, l2⟩ := fl_len h1 h2
 refine ⟨_, _, v3, _, ⟨some ⟨g1, 0, none⟩, c1, some ⟨g2, 0, none⟩, c2, A3', c3', A4, c4, rfl, rfl, h3, rfl, ?_⟩, ?_, ?_, p3, p4, ?_, ?_, ?_, ?_, ?_, d34⟩
 ·rw [l1, l2]; rfl
 ·rw [l1]; exact p1
 ·rw [l2]; exact p2
 ·rw [l1, l2]; exact d12
 ·rw [l1]; exact d13
 ·rw [l1]; exact d14
 ·rw [l2]; exact d23
 ·rw [l2]; exact d24

set_option maxRecDepth 100000 in
set_option maxHeartbeats 8000000 in
theorem bookFlush_impl0 (v : Value) (B : BookD) (sm : szBk B ≤ 1048576) (w : World) (hT : Tab w) (h : IsBook w v B) :
  Calls Tryz.prog 10 #[v] w fun e w' => FlPost w (flushP B) e w' ∧ Below w.heap.size w w' := by
 obtain ⟨A1, c1, A2, c2, A3, c3, A4, c4, rfl, h⟩ := h
 have HT := Lib.hid hT
 clear hT
 have H := Lib.hid h
 clear h
 obtain ⟨W1, hW1⟩ : ∃ W, (w.alloc (.cells #[.slice A1 B.rg.length c1, .slice A2 B.hm.length c2, .slice A3 B.pd.length c3, .slice A4 B.dr.length c4, .int .i64 B.sq, .int .i64 B.bs, .int .i64 B.sf, .int .i64 B.at_, .int .i64 B.df] 28)).alloc (.cells zB_ 28) = W := ⟨_, rfl⟩
 have B1 : Below w.heap.size w W1 := by rw [← hW1]; exact belA (belA (bel0 w) _) _
 have S1 : W1.heap.size = w.heap.size + 2 := by rw [← hW1]; simp
 have V1 := Lib.hid (show Blk W1 w.heap.size 28 #[.slice A1 B.rg.length c1, .slice A2 B.hm.length c2, .slice A3 B.pd.length c3, .slice A4 B.dr.length c4, .int .i64 B.sq, .int .i64 B.bs, .int .i64 B.sf, .int .i64 B.at_, .int .i64 B.df] by rw [← hW1]; exact (Blk.new' _ _ _ _ rfl).alloc _)
 have R1 := Lib.hid (show Blk W1 (w.heap.size + 1) 28 zB_ by rw [← hW1]; exact Blk.new' _ _ _ _ (by simp))
 have HW1 := Lib.hid hW1
 clear hW1
 have Hb1 := Lib.hid (show IsBook W1 (.agg #[.slice A1 B.rg.length c1, .slice A2 B.hm.length c2, .slice A3 B.pd.length c3, .slice A4 B.dr.length c4, .int .i64 B.sq, .int .i64 B.bs, .int .i64 B.sf, .int .i64 B.at_, .int .i64 B.df]) B from ⟨_, _, _, _, _, _, _, _, rfl, H.out.next B1⟩)
 go_enter Tryz.func10, Tryz.ntmps10
 go_wp2_with fail
 rw [HW1.out]
 refine (bookOk_impl _ B sm W1 (HT.out.bl B1) Hb1.out).mono ?_
 rintro e w1 ⟨rfl, hb1⟩
 have B2 := belN B1 hb1
 have s1 := hb1.size
 have V2 := Lib.hid (V1.out.below hb1 V1.out.lt)
 have R2 := Lib.hid (R1.out.below hb1 R1.out.lt)
 have Hb2 := Lib.hid (Hb1.out.next hb1)
 clear V1 R1 Hb1
 rcases hok : bookOkB B with _ | _
 ·have Hf := Lib.hid (flush_no hok)
  clear hok
  obtain ⟨q0, q1, q2, q3, q4, q5, q6, q7, q8⟩ := R2.out.g9
  obtain ⟨p0, p1, p2, p3, p4, p5, p6, p7, p8⟩ := R2.out.f9
  have l2 := R2.out.lt
  go_wp2
  obtain ⟨w9, h9, hB9, s9, hb9, ho9⟩ := put9 w1 (w.heap.size + 1) 28 (.slice none 0 0) (.slice none 0 0) (.slice none 0 0) (.slice none 0 0) (.int .i64 0) (.int .i64 0) (.int .i64 0) (.int .i64 0) (.int .i64 0) (.slice none 0 0) (.slice none 0 0) (.slice none 0 0) (.slice none 0 0) (.int .i64 0) (.int .i64 0) (.int .i64 0) (.int .i64 0) (.int .i64 0) R2.out
  rw [h9]
  clear h9 l2 q0 p0 q1 p1 q2 p2 q3 p3 q4 p4 q5 p5 q6 p6 q7 p7 q8 p8
  obtain ⟨r0, r1, r2, r3, r4, r5, r6, r7, r8⟩ := hB9.g9
  refine bodyPost_ret (v := .tuple #[.agg zB_, .bool false]) (by simp [results, Tryz.results10, go_sem, r0, r1, r2, r3, r4, r5, r6, r7, r8]) rfl ⟨⟨zeroBk, false, _, Hf.out, rfl, zero_own _ _⟩, hb9 _ _ (by omega) B2⟩
 ·have HP := Lib.hid (bk_is hok)
  have Hf := Lib.hid (flush_yes hok)
  clear hok
  have hl := Lib.hid (bk_len sm)
  have h6 := HP.out.r
  have h2 := HP.out.h
  have hq := HP.out.q
  have hd := dir12 HP.out.d
  have Hlen := Lib.hid (show B.rg.length ≤ 100000 ∧ B.hm.length ≤ 100000 ∧ B.pd.length ≤ 100000 ∧ B.dr.length ≤ 100000 by omega)
  have H6 := Lib.hid h6
  have H2 := Lib.hid h2
  have hpn : B.pd.length ≤ 100000 := by omega
  clear h6 h2 hq hd hl
  obtain ⟨x0, x1, x2, x3, x4, x5, x6, x7, x8⟩ := V2.out.g9
  have l1 := V2.out.lt
  go_wp2_with fail
  clear l1 x0 x1 x2 x3 x4 x5 x6 x7 x8
  refine (copyBook_impl _ B Hlen.out w1 Hb2.out).mono ?_
  rintro e w2 ⟨v', rfl, hO, hb2⟩
  obtain ⟨_, _, _, _, ⟨F1, e1, F2, e2, A3', c3', A4', c4', rfl, rfl, rfl, rfl, rfl⟩, o1, o2, o3, o4, d12, d13, d14, d23, d24, d34⟩ := hO
  obtain ⟨g1, k1, he⟩ := own_form1 o1 (by have := H6.out; omega)
  simp only [Value.slice.injEq] at he
  obtain ⟨rfl, _, rfl⟩ := he
  obtain ⟨g2, k2, he⟩ := own_form1 o2 (by have := H2.out; omega)
  simp only [Value.slice.injEq] at he
  obtain ⟨rfl, _, rfl⟩ := he
  rw [H6.out] at o1 d12 d13 d14 ⊢
  rw [H2.out] at o2 d12 d23 d24 ⊢
  have B3 := belN B2 hb2
  have s2 := hb2.size
  have R3 := Lib.hid (R2.out.below hb2 R2.out.lt)
  have lr := R2.out.lt
  clear R2 V2 Hb2
  have O1 := Lib.hid o1
  have O2 := Lib.hid o2
  have O3 := Lib.hid o3
  have O4 := Lib.hid o4
  have DD := Lib.hid (show _ ∧ _ ∧ _ ∧ _ ∧ _ from ⟨d12, d13, d14, d23, d24⟩)
  clear o1 o2 o3 o4 d12 d13 d14 d23 d24 d34
  go_wp2_with fail
  obtain ⟨W3, hW3⟩ : ∃ W, w2.alloc (.cells #[.slice (some ⟨g1, 0, none⟩) 6 e1, .slice (some ⟨g2, 0, none⟩) 2 e2, .slice A3' B.pd.length c3', .slice A4' B.dr.length c4', .int .i64 B.sq, .int .i64 B.bs, .int .i64 B.sf, .int .i64 B.at_, .int .i64 B.df] 28) = W := ⟨_, rfl⟩
  have hb3 : Below w2.heap.size w2 W3 := by rw [← hW3]; exact belA (bel0 _) _
  have hG : Blk W3 w2.heap.size 28 #[.slice (some ⟨g1, 0, none⟩) 6 e1, .slice (some ⟨g2, 0, none⟩) 2 e2, .slice A3' B.pd.length c3', .slice A4' B.dr.length c4', .int .i64 B.sq, .int .i64 B.bs, .int .i64 B.sf, .int .i64 B.at_, .int .i64 B.df] := by rw [← hW3]; exact Blk.new' _ _ _ _ rfl
  rw [hW3]
  clear hW3
  have s3 := hb3.size
  refine (flush_impl w2.heap.size g1 e1 g2 e2 w1.heap.size w1.heap.size A3' c3' A4' c4' B HP.out.p hpn HP.out.a W3 hG s2 (Nat.le_refl _) (fun v hv k hk => ?_) (own_below O1.out hb3 (Nat.le_refl _)) (own_below O2.out hb3 (Nat.le_refl _)) (own_below O3.out hb3 (Nat.le_refl _)) (own_below O4.out hb3 (Nat.le_refl _)) DD.out.1 DD.out.2.1 DD.out.2.2.1 DD.out.2.2.2.1 DD.out.2.2.2.2).mono ?_
  ·rcases hv with rfl | rfl | rfl | rfl
   ·exact Nat.ne_of_lt (own_hi O1.out k hk)
   ·exact Nat.ne_of_lt (own_hi O2.out k hk)
   ·exact Nat.ne_of_lt (own_hi O3.out k hk)
   ·exact Nat.ne_of_lt (own_hi O4.out k hk)
  rintro r w4 ⟨rfl, hB4, p1, p2, p4, hb4⟩
  have P1 := Lib.hid p1
  have P2 := Lib.hid p2
  have P4 := Lib.hid p4
  have s4 := hb4.size
  have R4 := Lib.hid ((R3.out.below hb3 R3.out.lt).below hb4 (by omega))
  have B4 := (B3.trans (hb3.mono B3.size)).trans (hb4.mono B2.size)
  clear p1 p2 p4 hG
  have x0 := hB4.get 0 rfl
  have q0 := R4.out.get 0 rfl
  have p0 := R4.out.frozen 0
  have x1 := hB4.get 1 rfl
  have q1 := R4.out.get 1 rfl
  have p1 := R4.out.frozen 1
  have x2 := hB4.get 2 rfl
  have q2 := R4.out.get 2 rfl
  have p2 := R4.out.frozen 2
  have x3 := hB4.get 3 rfl
  have q3 := R4.out.get 3 rfl
  have p3 := R4.out.frozen 3
  have x4 := hB4.get 4 rfl
  have q4 := R4.out.get 4 rfl
  have p4 := R4.out.frozen 4
  have x5 := hB4.get 5 rfl
  have q5 := R4.out.get 5 rfl
  have p5 := R4.out.frozen 5
  have x6 := hB4.get 6 rfl
  have q6 := R4.out.get 6 rfl
  have p6 := R4.out.frozen 6
  have x7 := hB4.get 7 rfl
  have q7 := R4.out.get 7 rfl
  have p7 := R4.out.frozen 7
  have x8 := hB4.get 8 rfl
  have q8 := R4.out.get 8 rfl
  have p8 := R4.out.frozen 8
  have l2 := R4.out.lt
  have l1 := hB4.lt
  clear hB4
  go_wp2
  obtain ⟨w9, h9, hB9, s9, hb9, ho9⟩ := put9 w4 (w.heap.size + 1) 28 (.slice (some ⟨g1, 0, none⟩) 6 e1) (.slice (some ⟨g2, 0, none⟩) 2 e2) (.slice none 0 0) (.slice A4' B.dr.length c4') (.int .i64 B.sq) (.int .i64 (flB B).bs) (.int .i64 B.sq) (.int .i64 (flB B).at_) (.int .i64 0) (.slice none 0 0) (.slice none 0 0) (.slice none 0 0) (.slice none 0 0) (.int .i64 0) (.int .i64 0) (.int .i64 0) (.int .i64 0) (.int .i64 0) R4.out
  rw [h9]
  clear h9 l2 q0 p0 q1 p1 q2 p2 q3 p3 q4 p4 q5 p5 q6 p6 q7 p7 q8 p8 x0 x1 x2 x3 x4 x5 x6 x7 x8 l1
  obtain ⟨r0, r1, r2, r3, r4, r5, r6, r7, r8⟩ := hB9.g9
  refine bodyPost_ret (v := .tuple #[.agg #[.slice (some ⟨g1, 0, none⟩) 6 e1, .slice (some ⟨g2, 0, none⟩) 2 e2, .slice none 0 0, .slice A4' B.dr.length c4', .int .i64 B.sq, .int .i64 (flB B).bs, .int .i64 B.sq, .int .i64 (flB B).at_, .int .i64 0], .bool true]) (by simp [results, Tryz.results10, go_sem, r0, r1, r2, r3, r4, r5, r6, r7, r8]) rfl ⟨⟨flB B, true, _, Hf.out, rfl, fl_own (A3' := none) (c3' := 0) H6.out H2.out rfl (own_more (ho9 _ _ _ _ _ _ (by omega) P1.out) (by omega)) (own_more (ho9 _ _ _ _ _ _ (by omega) P2.out) (by omega)) (own_nilC _ _ _ _) (own_more (ho9 _ _ _ _ _ _ (by omega) P4.out) (by omega)) DD.out.1 (dis_n _ _ _) DD.out.2.2.1 (dis_n _ _ _) DD.out.2.2.2.2 (.inl rfl)⟩, hb9 _ _ (by omega) B4⟩

theorem put9n (w7 : World) (b : Nat) (t : TypeId) (x0 x1 x2 x3 x4 x5 x6 x7 x8 y0 y1 y2 y3 y4 y5 y6 y7 y8 : Value) (hU : Blk w7 b t #[y0, y1, y2, y3, y4, y5, y6, y7, y8]) :
  ∃ w9, (((((((((w7.setCell ⟨b, 0, none⟩ x0).setCell ⟨b, 1, none⟩ x1).setCell ⟨b, 2, none⟩ x2).setCell ⟨b, 3, none⟩ x3).setCell ⟨b, 4, none⟩ x4).setCell ⟨b, 5, none⟩ x5).setCell ⟨b, 6, none⟩ x6).setCell ⟨b, 7, none⟩ x7).setCell ⟨b, 8, none⟩ x8) = w9 ∧ Blk w9 b t #[x0, x1, x2, x3, x4, x5, x6, x7, x8] ∧ w9.heap.size = w7.heap.size ∧ (∀ (B : Nat) (a : World), B ≤ b → Below B a w7 → Below B a w9) ∧ (∀ i, i ≠ b → w9.heap[i]? = w7.heap[i]?) :=
 ⟨_, rfl, (((((((((hU.put 0 x0 #[x0, y1, y2, y3, y4, y5, y6, y7, y8] rfl).put 1 x1 #[x0, x1, y2, y3, y4, y5, y6, y7, y8] rfl).put 2 x2 #[x0, x1, x2, y3, y4, y5, y6, y7, y8] rfl).put 3 x3 #[x0, x1, x2, x3, y4, y5, y6, y7, y8] rfl).put 4 x4 #[x0, x1, x2, x3, x4, y5, y6, y7, y8] rfl).put 5 x5 #[x0, x1, x2, x3, x4, x5, y6, y7, y8] rfl).put 6 x6 #[x0, x1, x2, x3, x4, x5, x6, y7, y8] rfl).put 7 x7 #[x0, x1, x2, x3, x4, x5, x6, x7, y8] rfl).put 8 x8 #[x0, x1, x2, x3, x4, x5, x6, x7, x8] rfl), by simp, fun B a hb h => (((((((((h.setCell (p := ⟨b, 0, none⟩) hb _).setCell (p := ⟨b, 1, none⟩) hb _).setCell (p := ⟨b, 2, none⟩) hb _).setCell (p := ⟨b, 3, none⟩) hb _).setCell (p := ⟨b, 4, none⟩) hb _).setCell (p := ⟨b, 5, none⟩) hb _).setCell (p := ⟨b, 6, none⟩) hb _).setCell (p := ⟨b, 7, none⟩) hb _).setCell (p := ⟨b, 8, none⟩) hb _), fun i hi => (Below.heap_setCell _ ⟨b, 8, none⟩ _ i hi).trans ((Below.heap_setCell _ ⟨b, 7, none⟩ _ i hi).trans ((Below.heap_setCell _ ⟨b, 6, none⟩ _ i hi).trans ((Below.heap_setCell _ ⟨b, 5, none⟩ _ i hi).trans ((Below.heap_setCell _ ⟨b, 4, none⟩ _ i hi).trans ((Below.heap_setCell _ ⟨b, 3, none⟩ _ i hi).trans ((Below.heap_setCell _ ⟨b, 2, none⟩ _ i hi).trans ((Below.heap_setCell _ ⟨b, 1, none⟩ _ i hi).trans ((Below.heap_setCell _ ⟨b, 0, none⟩ _ i hi).trans (rfl)))))))))⟩
theorem own_eqN {w w' : World} {base n size : Nat} {e : TypeId} {v : Value} {xs : List Value} (h : w.ownsRow base e size v n xs) (hk : ∀ k, v.ownBlock = some k → w'.heap[k]? = w.heap[k]?) : w'.ownsRow base e size v n xs := by
 refine ⟨h.1, ?_⟩
 rcases h.2 with h2 | ⟨g', cap, cur, hv, hbs, hh, r⟩
 ·exact .inl h2
 ·exact .inr ⟨g', cap, cur, hv, hbs, (hk g' (by rw [hv]; rfl)).trans hh, r⟩
theorem Blk.eqN {w w' : World} {g : Nat} {t : TypeId} {cs : Array Value} (h : Blk w g t cs) (hk : w'.heap[g]? = w.heap[g]?) : Blk w' g t cs := hk.trans h

set_option maxRecDepth 100000 in
set_option maxHeartbeats 8000000 in
theorem l25Done_any (g1 c1 g2 c2 base lo : Nat) (A3 : Option Addr) (c3 : Nat) (A4 : Option Addr) (c4 : Nat) (B : BookD) (hp : ∀ e ∈ B.pd, inI e.1 0 7 = true) (hn : B.pd.length ≤ 100000) (w : World) (hlo1 : lo ≤ w.heap.size) (hlo2 : lo ≤ base)
  (o1 : w.ownsRow base 9 1 (.slice (some ⟨g1, 0, none⟩) 6 c1) 6 (SS B.rg)) (o2 : w.ownsRow base 9 1 (.slice (some ⟨g2, 0, none⟩) 2 c2) 2 (SS B.hm)) (o3 : w.ownsRow base 55 2 (.slice A3 B.pd.length c3) B.pd.length (RS B.pd)) (o4 : w.ownsRow base 66 4 (.slice A4 B.dr.length c4) B.dr.length (ES B.dr))
  (d12 : Dis (.slice (some ⟨g1, 0, none⟩) 6 c1) (.slice (some ⟨g2, 0, none⟩) 2 c2)) (d13 : Dis (.slice (some ⟨g1, 0, none⟩) 6 c1) (.slice A3 B.pd.length c3)) (d14 : Dis (.slice (some ⟨g1, 0, none⟩) 6 c1) (.slice A4 B.dr.length c4)) (d23 : Dis (.slice (some ⟨g2, 0, none⟩) 2 c2) (.slice A3 B.pd.length c3)) (d24 : Dis (.slice (some ⟨g2, 0, none⟩) 2 c2) (.slice A4 B.dr.length c4)) :
  Calls Tryz.prog 51 #[.agg #[.slice (some ⟨g1, 0, none⟩) 6 c1, .slice (some ⟨g2, 0, none⟩) 2 c2, .slice A3 B.pd.length c3, .slice A4 B.dr.length c4, .int .i64 B.sq, .int .i64 B.bs, .int .i64 B.sf, .int .i64 B.at_, .int .i64 B.df], .int .i64 0, .bool true] w fun r w' => ∃ gn, r = .returned (.agg #[.slice (some ⟨g1, 0, none⟩) 6 c1, .slice (some ⟨g2, 0, none⟩) 2 c2, .slice (some ⟨gn, 0, none⟩) 0 0, .slice A4 B.dr.length c4, .int .i64 B.sq, .int .i64 B.bs, .int .i64 B.sf, .int .i64 B.at_, .int .i64 B.df]) ∧ w.heap.size ≤ gn ∧
   w'.ownsRow base 9 1 (.slice (some ⟨g1, 0, none⟩) 6 c1) 6 (SS (flB B).rg) ∧ w'.ownsRow base 9 1 (.slice (some ⟨g2, 0, none⟩) 2 c2) 2 (SS (flB B).hm) ∧ w'.ownsRow w.heap.size 55 2 (.slice (some ⟨gn, 0, none⟩) 0 0) 0 (RS []) ∧ w'.ownsRow base 66 4 (.slice A4 B.dr.length c4) B.dr.length (ES B.dr) ∧ Below lo w w' ∧ (∀ i, i < w.heap.size → i ≠ g1 → i ≠ g2 → w'.heap[i]? = w.heap[i]?) := by
 have hne : g1 ≠ g2 := by
  rcases d12 with h | h | h
  ·cases h
  ·cases h
  ·intro e; exact h (by rw [e]; rfl)
 have hg1 := own_hi o1 g1 rfl
 have hg2 := own_hi o2 g2 rfl
 have HV4 := Lib.hid (own_hi o4)
 obtain ⟨W1, hW1⟩ : ∃ W, (w.alloc (.cells #[.slice (some ⟨g1, 0, none⟩) 6 c1, .slice (some ⟨g2, 0, none⟩) 2 c2, .slice A3 B.pd.length c3, .slice A4 B.dr.length c4, .int .i64 B.sq, .int .i64 B.bs, .int .i64 B.sf, .int .i64 B.at_, .int .i64 B.df] 28)).alloc (.cells zB_ 28) = W := ⟨_, rfl⟩
 have S1 : W1.heap.size = w.heap.size + 2 := by rw [← hW1]; simp
 have hV1 := Lib.hid (show Blk W1 w.heap.size 28 #[.slice (some ⟨g1, 0, none⟩) 6 c1, .slice (some ⟨g2, 0, none⟩) 2 c2, .slice A3 B.pd.length c3, .slice A4 B.dr.length c4, .int .i64 B.sq, .int .i64 B.bs, .int .i64 B.sf, .int .i64 B.at_, .int .i64 B.df] by rw [← hW1]; exact (Blk.new' _ _ _ _ rfl).alloc _)
 have hR1 := Lib.hid (show Blk W1 (w.heap.size + 1) 28 zB_ by rw [← hW1]; exact Blk.new' _ _ _ _ (by simp))
 have B1 : Below lo w W1 := by rw [← hW1]; exact ((Below.refl lo w).alloc hlo1 _).alloc (by simp; omega) _
 have O1 := Lib.hid (hW1 ▸ (o1.alloc (.cells #[.slice (some ⟨g1, 0, none⟩) 6 c1, .slice (some ⟨g2, 0, none⟩) 2 c2, .slice A3 B.pd.length c3, .slice A4 B.dr.length c4, .int .i64 B.sq, .int .i64 B.bs, .int .i64 B.sf, .int .i64 B.at_, .int .i64 B.df] 28)).alloc (.cells zB_ 28))
 have O2 := Lib.hid (hW1 ▸ (o2.alloc (.cells #[.slice (some ⟨g1, 0, none⟩) 6 c1, .slice (some ⟨g2, 0, none⟩) 2 c2, .slice A3 B.pd.length c3, .slice A4 B.dr.length c4, .int .i64 B.sq, .int .i64 B.bs, .int .i64 B.sf, .int .i64 B.at_, .int .i64 B.df] 28)).alloc (.cells zB_ 28))
 have O3 := Lib.hid (hW1 ▸ (o3.alloc (.cells #[.slice (some ⟨g1, 0, none⟩) 6 c1, .slice (some ⟨g2, 0, none⟩) 2 c2, .slice A3 B.pd.length c3, .slice A4 B.dr.length c4, .int .i64 B.sq, .int .i64 B.bs, .int .i64 B.sf, .int .i64 B.at_, .int .i64 B.df] 28)).alloc (.cells zB_ 28))
 have O4 := Lib.hid (hW1 ▸ (o4.alloc (.cells #[.slice (some ⟨g1, 0, none⟩) 6 c1, .slice (some ⟨g2, 0, none⟩) 2 c2, .slice A3 B.pd.length c3, .slice A4 B.dr.length c4, .int .i64 B.sq, .int .i64 B.bs, .int .i64 B.sf, .int .i64 B.at_, .int .i64 B.df] 28)).alloc (.cells zB_ 28))
 have K1 : ∀ i, i < w.heap.size → W1.heap[i]? = w.heap[i]? := by rw [← hW1]; exact (belA (belA (bel0 w) _) _).block
 have HW1 := Lib.hid hW1
 have Hp := Lib.hid hp
 have D13 := Lib.hid d13
 have D14 := Lib.hid d14
 have D23 := Lib.hid d23
 have D24 := Lib.hid d24
 clear hW1 o1 o2 o3 o4 hp d12 d13 d14 d23 d24
 go_enter Tryz.func51, Tryz.ntmps51
 go_wp2_with fail
 rw [HW1.out]
 go_loopw [7] (fun i wr => ∃ k : Nat, k ≤ B.pd.length ∧ i = .int .i64 k ∧ Hid (Blk wr w.heap.size 28 #[.slice (some ⟨g1, 0, none⟩) 6 c1, .slice (some ⟨g2, 0, none⟩) 2 c2, .slice A3 B.pd.length c3, .slice A4 B.dr.length c4, .int .i64 B.sq, .int .i64 B.bs, .int .i64 B.sf, .int .i64 B.at_, .int .i64 B.df]) ∧ Hid (Blk wr (w.heap.size + 1) 28 zB_) ∧ Hid (wr.ownsRow base 9 1 (.slice (some ⟨g1, 0, none⟩) 6 c1) 6 (SS (wrsB B.rg B.hm B.pd k).1)) ∧ Hid (wr.ownsRow base 9 1 (.slice (some ⟨g2, 0, none⟩) 2 c2) 2 (SS (wrsB B.rg B.hm B.pd k).2)) ∧ Hid (wr.ownsRow base 55 2 (.slice A3 B.pd.length c3) B.pd.length (RS B.pd)) ∧ Hid (wr.ownsRow base 66 4 (.slice A4 B.dr.length c4) B.dr.length (ES B.dr)) ∧ Below lo w wr ∧ w.heap.size + 2 ≤ wr.heap.size ∧ Hid (∀ i, i < w.heap.size → i ≠ g1 → i ≠ g2 → wr.heap[i]? = w.heap[i]?))
  (fun i _ => B.pd.length - (intOf i).toNat)
 case atStart => exact ⟨0, by omega, rfl, hV1.out, hR1.out, by rw [wrs_0]; exact O1.out, by rw [wrs_0]; exact O2.out, O3.out, O4.out, B1, by omega, fun i hi _ _ => K1 i hi⟩
 case round =>
  obtain ⟨k, hk, rfl, hB, hR, P1, P2, P3, P4, hbel, hsz, HK⟩ := hrel
  have lB := hB.out.lt
  have x0 := hB.out.get (x := .slice (some ⟨g1, 0, none⟩) 6 c1) 0 rfl
  have x1 := hB.out.get (x := .slice (some ⟨g2, 0, none⟩) 2 c2) 1 rfl
  have x2 := hB.out.get (x := .slice A3 B.pd.length c3) 2 rfl
  by_cases hlt : k < B.pd.length
  ·obtain ⟨A', c', he, _, _, hr⟩ := own_vals P3.out
   simp only [Value.slice.injEq] at he
   obtain ⟨rfl, _, rfl⟩ := he
   obtain ⟨hkx, b, o, hA3, hadb, z0, z1⟩ := reads_rec hr hlt
   have q0 : (0 : Int) ≤ ↑k := by omega
   have q1 : (↑k : Int) < ↑B.pd.length := by omega
   have hws := Lib.hid (wrs_succ (rg := B.rg) (hm := B.hm) hkx)
   have hpe := inI_t.1 (Hp.out _ (List.getElem_mem hkx))
   obtain ⟨e, hee⟩ : ∃ e, B.pd[k] = e := ⟨_, rfl⟩
   rw [hee] at z0 z1 hws hpe
   subst hA3
   obtain ⟨hx0, hx7⟩ := hpe
   clear hee hr
   obtain ⟨xx, tt⟩ := e
   simp only at z0 z1 hws hx0 hx7
   obtain ⟨q, rfl⟩ : ∃ q : Nat, xx = (q : Int) := ⟨xx.toNat, by omega⟩
   by_cases h6 : (q : Int) < 6
   ·have hq6 : q < 6 := by omega
    have hw := Lib.hid (show wrB (wrsB B.rg B.hm B.pd k) ((q : Int), tt) = ((wrsB B.rg B.hm B.pd k).1.set q tt, (wrsB B.rg B.hm B.pd k).2) by unfold wrB; rw [if_pos h6]; simp)
    have hcell := (P1.out).cellAt q (by omega)
    have hlen := (P1.out).1
    rw [List.getElem?_eq_getElem (by omega)] at hcell
    have f1 := own_frozen P1.out q
    have q2 : (0 : Int) ≤ (q : Int) := by omega
    have q3 : (q : Int) < 6 := by omega
    have lg := own_hi P1.out _ rfl
    have hlg : lo ≤ g1 := Nat.le_trans hlo2 (own_lo P1.out _ rfl)
    have Ra := Lib.hid ((own_set P1.out q (.string tt)).alloc (.cells #[.int .i64 (q : Int), .string tt] 55))
    have Rb := Lib.hid ((P2.out.kept (only_sc (grown_refl wr (some g1)) q (.string tt)) (.inr (by simp [Value.ownBlock]; exact fun h => hne h.symm))).alloc (.cells #[.int .i64 (q : Int), .string tt] 55))
    have R3 := Lib.hid ((P3.out.kept (only_sc (grown_refl wr (some g1)) q (.string tt)) (D13.out.symm.l)).alloc (.cells #[.int .i64 (q : Int), .string tt] 55))
    have R4 := Lib.hid ((P4.out.kept (only_sc (grown_refl wr (some g1)) q (.string tt)) (D14.out.symm.l)).alloc (.cells #[.int .i64 (q : Int), .string tt] 55))
    have hB2 := Lib.hid ((hB.out.far (p := ⟨g1, q, none⟩) (by simp only; omega) (.string tt)).alloc (.cells #[.int .i64 (q : Int), .string tt] 55))
    have hR2 := Lib.hid ((hR.out.far (p := ⟨g1, q, none⟩) (by simp only; omega) (.string tt)).alloc (.cells #[.int .i64 (q : Int), .string tt] 55))
    have hk2 := Lib.hid (fun i hi ha hb => (Below.heap_alloc (wr.setCell ⟨g1, q, none⟩ (.string tt)) (.cells #[.int .i64 (q : Int), .string tt] 55) i (by rw [sz_sc]; omega)).trans ((Below.heap_setCell wr ⟨g1, q, none⟩ (.string tt) i (by simp only; omega)).trans (HK.out i hi ha hb)))
    have hb2 := (hbel.setCell (p := ⟨g1, q, none⟩) hlg (.string tt)).alloc (by rw [sz_sc]; omega) (.cells #[.int .i64 (q : Int), .string tt] 55)
    go_wp2
    go_roundw
    case rel =>
     refine ⟨k + 1, by omega, by go_num, hB2.out, hR2.out, ?_, ?_, R3.out, R4.out, hb2, by simp; omega, hk2.out⟩
     ·show World.ownsRow _ _ _ _ _ _ _; rw [hws.out, hw.out]; rw [SS_set]; exact Ra.out
     ·show World.ownsRow _ _ _ _ _ _ _; rw [hws.out, hw.out]; exact Rb.out
    case measure => simp [intOf]; omega

   ·obtain ⟨m, hm6⟩ : ∃ m : Nat, (q : Int) = (m : Int) + 6 := ⟨q - 6, by omega⟩
    have w7 : (q : Int) - 6 = (m : Int) := by omega
    have w6 : IntKind.i64.wrap ((q : Int) - 6) = (m : Int) := by rw [IntKind.wrap_i64]; omega
    have w5 : IntKind.i64.wrap (m : Int) = (m : Int) := by rw [IntKind.wrap_i64]; omega
    have hm2 : m < 2 := by omega
    have hw := Lib.hid (show wrB (wrsB B.rg B.hm B.pd k) ((q : Int), tt) = ((wrsB B.rg B.hm B.pd k).1, (wrsB B.rg B.hm B.pd k).2.set m tt) by unfold wrB; rw [if_neg h6]; show (_, List.set _ ((q : Int) - 6).toNat tt) = _; rw [w7]; simp)
    replace hm6 := Lib.hid hm6
    have hcell := (P2.out).cellAt m (by omega)
    have hlen := (P2.out).1
    rw [List.getElem?_eq_getElem (by omega)] at hcell
    have f1 := own_frozen P2.out m
    have q2 : (0 : Int) ≤ (m : Int) := by omega
    have q3 : (m : Int) < 2 := by omega
    have lg := own_hi P2.out _ rfl
    have hlg : lo ≤ g2 := Nat.le_trans hlo2 (own_lo P2.out _ rfl)
    have Ra := Lib.hid ((own_set P2.out m (.string tt)).alloc (.cells #[.int .i64 (q : Int), .string tt] 55))
    have Rb := Lib.hid ((P1.out.kept (only_sc (grown_refl wr (some g2)) m (.string tt)) (.inr (by simp [Value.ownBlock]; exact fun h => hne h))).alloc (.cells #[.int .i64 (q : Int), .string tt] 55))
    have R3 := Lib.hid ((P3.out.kept (only_sc (grown_refl wr (some g2)) m (.string tt)) (D23.out.symm.l)).alloc (.cells #[.int .i64 (q : Int), .string tt] 55))
    have R4 := Lib.hid ((P4.out.kept (only_sc (grown_refl wr (some g2)) m (.string tt)) (D24.out.symm.l)).alloc (.cells #[.int .i64 (q : Int), .string tt] 55))
    have hB2 := Lib.hid ((hB.out.far (p := ⟨g2, m, none⟩) (by simp only; omega) (.string tt)).alloc (.cells #[.int .i64 (q : Int), .string tt] 55))
    have hR2 := Lib.hid ((hR.out.far (p := ⟨g2, m, none⟩) (by simp only; omega) (.string tt)).alloc (.cells #[.int .i64 (q : Int), .string tt] 55))
    have hk2 := Lib.hid (fun i hi ha hb => (Below.heap_alloc (wr.setCell ⟨g2, m, none⟩ (.string tt)) (.cells #[.int .i64 (q : Int), .string tt] 55) i (by rw [sz_sc]; omega)).trans ((Below.heap_setCell wr ⟨g2, m, none⟩ (.string tt) i (by simp only; omega)).trans (HK.out i hi ha hb)))
    have hb2 := (hbel.setCell (p := ⟨g2, m, none⟩) hlg (.string tt)).alloc (by rw [sz_sc]; omega) (.cells #[.int .i64 (q : Int), .string tt] 55)
    go_wp2
    go_roundw
    case rel =>
     refine ⟨k + 1, by omega, by go_num, hB2.out, hR2.out, ?_, ?_, R3.out, R4.out, hb2, by simp; omega, hk2.out⟩
     ·show World.ownsRow _ _ _ _ _ _ _; rw [hws.out, hw.out]; exact Rb.out
     ·show World.ownsRow _ _ _ _ _ _ _; rw [hws.out, hw.out]; rw [SS_set]; exact Ra.out
    case measure => simp [intOf]; omega

  ·obtain rfl : k = B.pd.length := by omega
   have l2 := hR.out.lt
   have x3 := hB.out.get 3 rfl
   have x4 := hB.out.get 4 rfl
   have x5 := hB.out.get 5 rfl
   have x6 := hB.out.get 6 rfl
   have x7 := hB.out.get 7 rfl
   have x8 := hB.out.get 8 rfl
   obtain ⟨p0, p1, p2, p3, p4, p5, p6, p7, p8⟩ := hR.out.g9
   obtain ⟨y0, y1, y2, y3, y4, y5, y6, y7, y8⟩ := hR.out.f9
   have f2 := hB.out.frozen 2
   go_wp2
   obtain ⟨w9, h9, hB9, s9, hb9, ho9⟩ := put9n (wr.setCell ⟨w.heap.size, 2, none⟩ (.slice (some ⟨wr.heap.size, 0, none⟩) 0 0)) (w.heap.size + 1) 28 (.slice (some ⟨g1, 0, none⟩) 6 c1) (.slice (some ⟨g2, 0, none⟩) 2 c2) (.slice (some ⟨wr.heap.size, 0, none⟩) 0 0) (.slice A4 B.dr.length c4) (.int .i64 B.sq) (.int .i64 B.bs) (.int .i64 B.sf) (.int .i64 B.at_) (.int .i64 B.df) (.slice none 0 0) (.slice none 0 0) (.slice none 0 0) (.slice none 0 0) (.int .i64 0) (.int .i64 0) (.int .i64 0) (.int .i64 0) (.int .i64 0) (hR.out.far (by simp) _)
   rw [h9]
   rw [sz_sc] at s9
   clear h9 x0 p0 y0 x1 p1 y1 x2 p2 y2 x3 p3 y3 x4 p4 y4 x5 p5 y5 x6 p6 y6 x7 p7 y7 x8 p8 y8 f2 lB l2
   have hB8 := hB9.alloc (.cells #[] 55)
   obtain ⟨r0, r1, r2, r3, r4, r5, r6, r7, r8⟩ := hB8.g9
   have hlit := World.ownsRow_lit (e := 55) (size := 2) w9 #[] 0 (Nat.le_refl _) (by unfold maxLen; omega) rfl
   rw [s9] at hlit
   refine bodyPost_ret (v := .agg #[.slice (some ⟨g1, 0, none⟩) 6 c1, .slice (some ⟨g2, 0, none⟩) 2 c2, .slice (some ⟨wr.heap.size, 0, none⟩) 0 0, .slice A4 B.dr.length c4, .int .i64 B.sq, .int .i64 B.bs, .int .i64 B.sf, .int .i64 B.at_, .int .i64 B.df]) (by simp [results, Tryz.results51, go_sem, r0, r1, r2, r3, r4, r5, r6, r7, r8]) rfl ⟨wr.heap.size, rfl, by omega, ?_, ?_, ?_, ?_, (hb9 _ _ (by omega) (hbel.setCell (p := ⟨w.heap.size, 2, none⟩) hlo1 _)).alloc (by omega) _, fun i hi ha hb => (Below.heap_alloc _ _ i (by omega)).trans ((ho9 i (by omega)).trans ((Below.heap_setCell wr ⟨w.heap.size, 2, none⟩ _ i (by simp only; omega)).trans (HK.out i hi ha hb)))⟩
   ·exact (own_eqN (own_scN (g := w.heap.size) P1.out 2 (fun j hj => by have hj2 : g1 = j := (by simpa [Value.ownBlock] using hj); omega) _) (fun j hj => ho9 j (by have hj2 : g1 = j := (by simpa [Value.ownBlock] using hj); omega))).alloc _
   ·exact (own_eqN (own_scN (g := w.heap.size) P2.out 2 (fun j hj => by have hj2 : g2 = j := (by simpa [Value.ownBlock] using hj); omega) _) (fun j hj => ho9 j (by have hj2 : g2 = j := (by simpa [Value.ownBlock] using hj); omega))).alloc _
   ·exact own_more hlit (by omega)
   ·exact (own_eqN (own_scN (g := w.heap.size) P4.out 2 (fun j hj => by have := HV4.out j hj; omega) _) (fun j hj => ho9 j (by have := HV4.out j hj; omega))).alloc _

set_option maxRecDepth 100000 in
set_option maxHeartbeats 8000000 in
theorem l25Flush_any (g1 c1 g2 c2 base lo : Nat) (A3 : Option Addr) (c3 : Nat) (A4 : Option Addr) (c4 : Nat) (B : BookD) (hp : ∀ e ∈ B.pd, inI e.1 0 7 = true) (hn : B.pd.length ≤ 100000) (ha : inI B.at_ 0 1 = true) (w : World) (hlo1 : lo ≤ w.heap.size) (hlo2 : lo ≤ base)
  (o1 : w.ownsRow base 9 1 (.slice (some ⟨g1, 0, none⟩) 6 c1) 6 (SS B.rg)) (o2 : w.ownsRow base 9 1 (.slice (some ⟨g2, 0, none⟩) 2 c2) 2 (SS B.hm)) (o3 : w.ownsRow base 55 2 (.slice A3 B.pd.length c3) B.pd.length (RS B.pd)) (o4 : w.ownsRow base 66 4 (.slice A4 B.dr.length c4) B.dr.length (ES B.dr))
  (d12 : Dis (.slice (some ⟨g1, 0, none⟩) 6 c1) (.slice (some ⟨g2, 0, none⟩) 2 c2)) (d13 : Dis (.slice (some ⟨g1, 0, none⟩) 6 c1) (.slice A3 B.pd.length c3)) (d14 : Dis (.slice (some ⟨g1, 0, none⟩) 6 c1) (.slice A4 B.dr.length c4)) (d23 : Dis (.slice (some ⟨g2, 0, none⟩) 2 c2) (.slice A3 B.pd.length c3)) (d24 : Dis (.slice (some ⟨g2, 0, none⟩) 2 c2) (.slice A4 B.dr.length c4)) :
  Calls Tryz.prog 48 #[.agg #[.slice (some ⟨g1, 0, none⟩) 6 c1, .slice (some ⟨g2, 0, none⟩) 2 c2, .slice A3 B.pd.length c3, .slice A4 B.dr.length c4, .int .i64 B.sq, .int .i64 B.bs, .int .i64 B.sf, .int .i64 B.at_, .int .i64 B.df]] w fun r w' => ∃ gn, r = .returned (.agg #[.slice (some ⟨g1, 0, none⟩) 6 c1, .slice (some ⟨g2, 0, none⟩) 2 c2, .slice (some ⟨gn, 0, none⟩) 0 0, .slice A4 B.dr.length c4, .int .i64 B.sq, .int .i64 (flB B).bs, .int .i64 B.sq, .int .i64 (flB B).at_, .int .i64 0]) ∧ w.heap.size ≤ gn ∧
   w'.ownsRow base 9 1 (.slice (some ⟨g1, 0, none⟩) 6 c1) 6 (SS (flB B).rg) ∧ w'.ownsRow base 9 1 (.slice (some ⟨g2, 0, none⟩) 2 c2) 2 (SS (flB B).hm) ∧ w'.ownsRow w.heap.size 55 2 (.slice (some ⟨gn, 0, none⟩) 0 0) 0 (RS []) ∧ w'.ownsRow base 66 4 (.slice A4 B.dr.length c4) B.dr.length (ES B.dr) ∧ Below lo w w' := by
 obtain ⟨hat0, hat1⟩ := inI_t.1 ha
 have hg1 := own_hi o1 g1 rfl
 have hg2 := own_hi o2 g2 rfl
 have HV4 := Lib.hid (own_hi o4)
 obtain ⟨W1, hW1⟩ : ∃ W, (w.alloc (.cells #[.slice (some ⟨g1, 0, none⟩) 6 c1, .slice (some ⟨g2, 0, none⟩) 2 c2, .slice A3 B.pd.length c3, .slice A4 B.dr.length c4, .int .i64 B.sq, .int .i64 B.bs, .int .i64 B.sf, .int .i64 B.at_, .int .i64 B.df] 28)).alloc (.cells zB_ 28) = W := ⟨_, rfl⟩
 have S1 : W1.heap.size = w.heap.size + 2 := by rw [← hW1]; simp
 have hV1 := Lib.hid (show Blk W1 w.heap.size 28 #[.slice (some ⟨g1, 0, none⟩) 6 c1, .slice (some ⟨g2, 0, none⟩) 2 c2, .slice A3 B.pd.length c3, .slice A4 B.dr.length c4, .int .i64 B.sq, .int .i64 B.bs, .int .i64 B.sf, .int .i64 B.at_, .int .i64 B.df] by rw [← hW1]; exact (Blk.new' _ _ _ _ rfl).alloc _)
 have hR1 := Lib.hid (show Blk W1 (w.heap.size + 1) 28 zB_ by rw [← hW1]; exact Blk.new' _ _ _ _ (by simp))
 have B1 : Below lo w W1 := by rw [← hW1]; exact ((Below.refl lo w).alloc hlo1 _).alloc (by simp; omega) _
 have B1' : Below w.heap.size w W1 := by rw [← hW1]; exact belA (belA (bel0 w) _) _
 have O1 := Lib.hid (hW1 ▸ (o1.alloc (.cells #[.slice (some ⟨g1, 0, none⟩) 6 c1, .slice (some ⟨g2, 0, none⟩) 2 c2, .slice A3 B.pd.length c3, .slice A4 B.dr.length c4, .int .i64 B.sq, .int .i64 B.bs, .int .i64 B.sf, .int .i64 B.at_, .int .i64 B.df] 28)).alloc (.cells zB_ 28))
 have O2 := Lib.hid (hW1 ▸ (o2.alloc (.cells #[.slice (some ⟨g1, 0, none⟩) 6 c1, .slice (some ⟨g2, 0, none⟩) 2 c2, .slice A3 B.pd.length c3, .slice A4 B.dr.length c4, .int .i64 B.sq, .int .i64 B.bs, .int .i64 B.sf, .int .i64 B.at_, .int .i64 B.df] 28)).alloc (.cells zB_ 28))
 have O3 := Lib.hid (hW1 ▸ (o3.alloc (.cells #[.slice (some ⟨g1, 0, none⟩) 6 c1, .slice (some ⟨g2, 0, none⟩) 2 c2, .slice A3 B.pd.length c3, .slice A4 B.dr.length c4, .int .i64 B.sq, .int .i64 B.bs, .int .i64 B.sf, .int .i64 B.at_, .int .i64 B.df] 28)).alloc (.cells zB_ 28))
 have O4 := Lib.hid (hW1 ▸ (o4.alloc (.cells #[.slice (some ⟨g1, 0, none⟩) 6 c1, .slice (some ⟨g2, 0, none⟩) 2 c2, .slice A3 B.pd.length c3, .slice A4 B.dr.length c4, .int .i64 B.sq, .int .i64 B.bs, .int .i64 B.sf, .int .i64 B.at_, .int .i64 B.df] 28)).alloc (.cells zB_ 28))
 have HW1 := Lib.hid hW1
 have Hp := Lib.hid hp
 have DD := Lib.hid (show _ ∧ _ ∧ _ ∧ _ ∧ _ from ⟨d12, d13, d14, d23, d24⟩)
 clear hW1 o1 o2 o3 o4 hp d12 d13 d14 d23 d24 ha
 go_enter Tryz.func48, Tryz.ntmps48
 go_wp2_with fail
 rw [HW1.out]
 refine (l25Done_any g1 c1 g2 c2 base lo A3 c3 A4 c4 B Hp.out hn W1 (by omega) hlo2 O1.out O2.out O3.out O4.out DD.out.1 DD.out.2.1 DD.out.2.2.1 DD.out.2.2.2.1 DD.out.2.2.2.2).mono ?_
 rintro r w2 ⟨gn, rfl, hgn, p1, p2, p3, p4, hb2, hk2⟩
 have V2 := Lib.hid (hV1.out.eqN (hk2 _ hV1.out.lt (by omega) (by omega)))
 have R2 := Lib.hid (hR1.out.eqN (hk2 _ hR1.out.lt (by omega) (by omega)))
 have P1 := Lib.hid p1
 have P2 := Lib.hid p2
 have P3 := Lib.hid p3
 have P4 := Lib.hid p4
 have s2 := hb2.size
 have B2 := B1.trans hb2
 clear p1 p2 p3 p4 hV1 hR1
 obtain ⟨x0, x1, x2, x3, x4, x5, x6, x7, x8⟩ := V2.out.g9
 obtain ⟨u0, u1, u2, u3, u4, u5, u6, u7, u8⟩ := V2.out.f9
 have l1 := V2.out.lt
 go_upto_region 2 with fail
 obtain ⟨w8, h8, hB8, s8, hb8, ho8⟩ := put9n w2 w.heap.size 28 (.slice (some ⟨g1, 0, none⟩) 6 c1) (.slice (some ⟨g2, 0, none⟩) 2 c2) (.slice (some ⟨gn, 0, none⟩) 0 0) (.slice A4 B.dr.length c4) (.int .i64 B.sq) (.int .i64 B.bs) (.int .i64 B.sf) (.int .i64 B.at_) (.int .i64 B.df) (.slice (some ⟨g1, 0, none⟩) 6 c1) (.slice (some ⟨g2, 0, none⟩) 2 c2) (.slice A3 B.pd.length c3) (.slice A4 B.dr.length c4) (.int .i64 B.sq) (.int .i64 B.bs) (.int .i64 B.sf) (.int .i64 B.at_) (.int .i64 B.df) V2.out
 rw [h8]
 clear h8 l1 x0 u0 x1 u1 x2 u2 x3 u3 x4 u4 x5 u5 x6 u6 x7 u7 x8 u8
 have R8 := Lib.hid (R2.out.eqN (ho8 _ (by omega)))
 have x0 := hB8.get 0 rfl
 have p0 := R8.out.get 0 rfl
 have y0 := R8.out.frozen 0
 have x1 := hB8.get 1 rfl
 have p1 := R8.out.get 1 rfl
 have y1 := R8.out.frozen 1
 have x2 := hB8.get 2 rfl
 have p2 := R8.out.get 2 rfl
 have y2 := R8.out.frozen 2
 have x3 := hB8.get 3 rfl
 have p3 := R8.out.get 3 rfl
 have y3 := R8.out.frozen 3
 have x4 := hB8.get 4 rfl
 have p4 := R8.out.get 4 rfl
 have y4 := R8.out.frozen 4
 have x5 := hB8.get 5 rfl
 have p5 := R8.out.get 5 rfl
 have y5 := R8.out.frozen 5
 have x6 := hB8.get 6 rfl
 have p6 := R8.out.get 6 rfl
 have y6 := R8.out.frozen 6
 have x7 := hB8.get 7 rfl
 have p7 := R8.out.get 7 rfl
 have y7 := R8.out.frozen 7
 have x8 := hB8.get 8 rfl
 have p8 := R8.out.get 8 rfl
 have y8 := R8.out.frozen 8
 have u5 := hB8.frozen 5
 have u6 := hB8.frozen 6
 have u7 := hB8.frozen 7
 have u8 := hB8.frozen 8
 have l1 := hB8.lt
 have l2 := R8.out.lt
 have HB8 := Lib.hid hB8
 clear hB8
 by_cases hdf : B.df = 0
 ·have Hdf := Lib.hid hdf
  replace HB8 := Lib.hid (show Blk w8 w.heap.size 28 #[.slice (some ⟨g1, 0, none⟩) 6 c1, .slice (some ⟨g2, 0, none⟩) 2 c2, .slice (some ⟨gn, 0, none⟩) 0 0, .slice A4 B.dr.length c4, .int .i64 B.sq, .int .i64 B.bs, .int .i64 B.sf, .int .i64 B.at_, .int .i64 0] by have h := HB8.out; rw [hdf] at h; exact h)
  rw [hdf] at x8
  clear hdf
  go_wp2
  obtain ⟨w9, h9, hB9, s9, hb9, ho9⟩ := put9n (w8.setCell ⟨w.heap.size, 6, none⟩ (.int .i64 B.sq)) (w.heap.size + 1) 28 (.slice (some ⟨g1, 0, none⟩) 6 c1) (.slice (some ⟨g2, 0, none⟩) 2 c2) (.slice (some ⟨gn, 0, none⟩) 0 0) (.slice A4 B.dr.length c4) (.int .i64 B.sq) (.int .i64 B.bs) (.int .i64 B.sq) (.int .i64 B.at_) (.int .i64 0) (.slice none 0 0) (.slice none 0 0) (.slice none 0 0) (.slice none 0 0) (.int .i64 0) (.int .i64 0) (.int .i64 0) (.int .i64 0) (.int .i64 0) (R8.out.far (by simp) _)
  rw [h9]
  clear h9 x0 p0 y0 x1 p1 y1 x2 p2 y2 x3 p3 y3 x4 p4 y4 x5 p5 y5 x6 p6 y6 x7 p7 y7 x8 p8 y8 u5 u6 u7 u8 l1 l2
  obtain ⟨r0, r1, r2, r3, r4, r5, r6, r7, r8⟩ := hB9.g9
  refine bodyPost_ret (v := .agg #[.slice (some ⟨g1, 0, none⟩) 6 c1, .slice (some ⟨g2, 0, none⟩) 2 c2, .slice (some ⟨gn, 0, none⟩) 0 0, .slice A4 B.dr.length c4, .int .i64 B.sq, .int .i64 B.bs, .int .i64 B.sq, .int .i64 B.at_, .int .i64 0]) (by simp [results, Tryz.results48, go_sem, r0, r1, r2, r3, r4, r5, r6, r7, r8]) rfl ⟨gn, ?_, by omega, ?_, ?_, ?_, ?_, hb9 _ _ (by omega) ((hb8 _ _ hlo1 B2).setCell (p := ⟨w.heap.size, 6, none⟩) hlo1 _)⟩
  ·rw [show (flB B).bs = B.bs by simp [flB, Hdf.out], show (flB B).at_ = B.at_ by simp [flB, Hdf.out]]
  ·exact own_eqN (own_scN (g := w.heap.size) (own_eqN P1.out (fun j hj => ho8 j (by have hj2 : g1 = j := (by simpa [Value.ownBlock] using hj); omega))) 6 (fun j hj => by have hj2 : g1 = j := (by simpa [Value.ownBlock] using hj); omega) _) (fun j hj => ho9 j (by have hj2 : g1 = j := (by simpa [Value.ownBlock] using hj); omega))
  ·exact own_eqN (own_scN (g := w.heap.size) (own_eqN P2.out (fun j hj => ho8 j (by have hj2 : g2 = j := (by simpa [Value.ownBlock] using hj); omega))) 6 (fun j hj => by have hj2 : g2 = j := (by simpa [Value.ownBlock] using hj); omega) _) (fun j hj => ho9 j (by have hj2 : g2 = j := (by simpa [Value.ownBlock] using hj); omega))
  ·exact own_more (own_eqN (own_scN (g := w.heap.size) (own_eqN P3.out (fun j hj => ho8 j (by have hj2 : gn = j := (by simpa [Value.ownBlock] using hj); omega))) 6 (fun j hj => by have hj2 : gn = j := (by simpa [Value.ownBlock] using hj); omega) _) (fun j hj => ho9 j (by have hj2 : gn = j := (by simpa [Value.ownBlock] using hj); omega))) (by omega)
  ·exact own_eqN (own_scN (g := w.heap.size) (own_eqN P4.out (fun j hj => ho8 j (by have := HV4.out j hj; omega))) 6 (fun j hj => by have := HV4.out j hj; omega) _) (fun j hj => ho9 j (by have := HV4.out j hj; omega))
 ·have tdf : (B.df != 0) = true := by simpa using hdf
  have Hdf := Lib.hid hdf
  go_wp2
  obtain ⟨w9, h9, hB9, s9, hb9, ho9⟩ := put9n ((((w8.setCell ⟨w.heap.size, 6, none⟩ (.int .i64 B.sq)).setCell ⟨w.heap.size, 5, none⟩ (.int .i64 B.df)).setCell ⟨w.heap.size, 7, none⟩ (.int .i64 (1 - B.at_))).setCell ⟨w.heap.size, 8, none⟩ (.int .i64 0)) (w.heap.size + 1) 28 (.slice (some ⟨g1, 0, none⟩) 6 c1) (.slice (some ⟨g2, 0, none⟩) 2 c2) (.slice (some ⟨gn, 0, none⟩) 0 0) (.slice A4 B.dr.length c4) (.int .i64 B.sq) (.int .i64 B.df) (.int .i64 B.sq) (.int .i64 (1 - B.at_)) (.int .i64 0) (.slice none 0 0) (.slice none 0 0) (.slice none 0 0) (.slice none 0 0) (.int .i64 0) (.int .i64 0) (.int .i64 0) (.int .i64 0) (.int .i64 0) ((((R8.out.far (by simp) _).far (by simp) _).far (by simp) _).far (by simp) _)
  rw [h9]
  clear h9 x0 p0 y0 x1 p1 y1 x2 p2 y2 x3 p3 y3 x4 p4 y4 x5 p5 y5 x6 p6 y6 x7 p7 y7 x8 p8 y8 u5 u6 u7 u8 l1 l2
  obtain ⟨r0, r1, r2, r3, r4, r5, r6, r7, r8⟩ := hB9.g9
  refine bodyPost_ret (v := .agg #[.slice (some ⟨g1, 0, none⟩) 6 c1, .slice (some ⟨g2, 0, none⟩) 2 c2, .slice (some ⟨gn, 0, none⟩) 0 0, .slice A4 B.dr.length c4, .int .i64 B.sq, .int .i64 B.df, .int .i64 B.sq, .int .i64 (1 - B.at_), .int .i64 0]) (by simp [results, Tryz.results48, go_sem, r0, r1, r2, r3, r4, r5, r6, r7, r8]) rfl ⟨gn, ?_, by omega, ?_, ?_, ?_, ?_, hb9 _ _ (by omega) (((((hb8 _ _ hlo1 B2).setCell (p := ⟨w.heap.size, 6, none⟩) hlo1 _).setCell (p := ⟨w.heap.size, 5, none⟩) hlo1 _).setCell (p := ⟨w.heap.size, 7, none⟩) hlo1 _).setCell (p := ⟨w.heap.size, 8, none⟩) hlo1 _)⟩
  ·rw [show (flB B).bs = B.df by simp [flB, Hdf.out], show (flB B).at_ = 1 - B.at_ by simp [flB, Hdf.out]]
  ·exact own_eqN (own_scN (g := w.heap.size) (own_scN (g := w.heap.size) (own_scN (g := w.heap.size) (own_scN (g := w.heap.size) (own_eqN P1.out (fun j hj => ho8 j (by have hj2 : g1 = j := (by simpa [Value.ownBlock] using hj); omega))) 6 (fun j hj => by have hj2 : g1 = j := (by simpa [Value.ownBlock] using hj); omega) _) 5 (fun j hj => by have hj2 : g1 = j := (by simpa [Value.ownBlock] using hj); omega) _) 7 (fun j hj => by have hj2 : g1 = j := (by simpa [Value.ownBlock] using hj); omega) _) 8 (fun j hj => by have hj2 : g1 = j := (by simpa [Value.ownBlock] using hj); omega) _) (fun j hj => ho9 j (by have hj2 : g1 = j := (by simpa [Value.ownBlock] using hj); omega))
  ·exact own_eqN (own_scN (g := w.heap.size) (own_scN (g := w.heap.size) (own_scN (g := w.heap.size) (own_scN (g := w.heap.size) (own_eqN P2.out (fun j hj => ho8 j (by have hj2 : g2 = j := (by simpa [Value.ownBlock] using hj); omega))) 6 (fun j hj => by have hj2 : g2 = j := (by simpa [Value.ownBlock] using hj); omega) _) 5 (fun j hj => by have hj2 : g2 = j := (by simpa [Value.ownBlock] using hj); omega) _) 7 (fun j hj => by have hj2 : g2 = j := (by simpa [Value.ownBlock] using hj); omega) _) 8 (fun j hj => by have hj2 : g2 = j := (by simpa [Value.ownBlock] using hj); omega) _) (fun j hj => ho9 j (by have hj2 : g2 = j := (by simpa [Value.ownBlock] using hj); omega))
  ·exact own_more (own_eqN (own_scN (g := w.heap.size) (own_scN (g := w.heap.size) (own_scN (g := w.heap.size) (own_scN (g := w.heap.size) (own_eqN P3.out (fun j hj => ho8 j (by have hj2 : gn = j := (by simpa [Value.ownBlock] using hj); omega))) 6 (fun j hj => by have hj2 : gn = j := (by simpa [Value.ownBlock] using hj); omega) _) 5 (fun j hj => by have hj2 : gn = j := (by simpa [Value.ownBlock] using hj); omega) _) 7 (fun j hj => by have hj2 : gn = j := (by simpa [Value.ownBlock] using hj); omega) _) 8 (fun j hj => by have hj2 : gn = j := (by simpa [Value.ownBlock] using hj); omega) _) (fun j hj => ho9 j (by have hj2 : gn = j := (by simpa [Value.ownBlock] using hj); omega))) (by omega)
  ·exact own_eqN (own_scN (g := w.heap.size) (own_scN (g := w.heap.size) (own_scN (g := w.heap.size) (own_scN (g := w.heap.size) (own_eqN P4.out (fun j hj => ho8 j (by have := HV4.out j hj; omega))) 6 (fun j hj => by have := HV4.out j hj; omega) _) 5 (fun j hj => by have := HV4.out j hj; omega) _) 7 (fun j hj => by have := HV4.out j hj; omega) _) 8 (fun j hj => by have := HV4.out j hj; omega) _) (fun j hj => ho9 j (by have := HV4.out j hj; omega))

set_option maxRecDepth 100000 in
set_option maxHeartbeats 8000000 in
theorem bookFlush_spec0 (v : Value) (B : BookD) (sm : szBk B ≤ 1048576) (w : World) (h : IsBook w v B) :
  Calls Tryz.prog 102 #[v] w fun e w' => FlPost w (flushP B) e w' ∧ Below w.heap.size w w' := by
 obtain ⟨A1, c1, A2, c2, A3, c3, A4, c4, rfl, h⟩ := h
 have H := Lib.hid h
 clear h
 obtain ⟨W1, hW1⟩ : ∃ W, (w.alloc (.cells #[.slice A1 B.rg.length c1, .slice A2 B.hm.length c2, .slice A3 B.pd.length c3, .slice A4 B.dr.length c4, .int .i64 B.sq, .int .i64 B.bs, .int .i64 B.sf, .int .i64 B.at_, .int .i64 B.df] 28)).alloc (.cells zB_ 28) = W := ⟨_, rfl⟩
 have B1 : Below w.heap.size w W1 := by rw [← hW1]; exact belA (belA (bel0 w) _) _
 have S1 : W1.heap.size = w.heap.size + 2 := by rw [← hW1]; simp
 have V1 := Lib.hid (show Blk W1 w.heap.size 28 #[.slice A1 B.rg.length c1, .slice A2 B.hm.length c2, .slice A3 B.pd.length c3, .slice A4 B.dr.length c4, .int .i64 B.sq, .int .i64 B.bs, .int .i64 B.sf, .int .i64 B.at_, .int .i64 B.df] by rw [← hW1]; exact (Blk.new' _ _ _ _ rfl).alloc _)
 have R1 := Lib.hid (show Blk W1 (w.heap.size + 1) 28 zB_ by rw [← hW1]; exact Blk.new' _ _ _ _ (by simp))
 have HW1 := Lib.hid hW1
 clear hW1
 have Hb1 := Lib.hid (show IsBook W1 (.agg #[.slice A1 B.rg.length c1, .slice A2 B.hm.length c2, .slice A3 B.pd.length c3, .slice A4 B.dr.length c4, .int .i64 B.sq, .int .i64 B.bs, .int .i64 B.sf, .int .i64 B.at_, .int .i64 B.df]) B from ⟨_, _, _, _, _, _, _, _, rfl, H.out.next B1⟩)
 go_enter Tryz.func102, Tryz.ntmps102
 go_wp2_with fail
 rw [HW1.out]
 refine (bookOk_spec _ B sm W1  Hb1.out).mono ?_
 rintro e w1 ⟨rfl, hb1⟩
 have B2 := belN B1 hb1
 have s1 := hb1.size
 have V2 := Lib.hid (V1.out.below hb1 V1.out.lt)
 have R2 := Lib.hid (R1.out.below hb1 R1.out.lt)
 have Hb2 := Lib.hid (Hb1.out.next hb1)
 clear V1 R1 Hb1
 rcases hok : bookOkB B with _ | _
 ·have Hf := Lib.hid (flush_no hok)
  clear hok
  obtain ⟨q0, q1, q2, q3, q4, q5, q6, q7, q8⟩ := R2.out.g9
  obtain ⟨p0, p1, p2, p3, p4, p5, p6, p7, p8⟩ := R2.out.f9
  have l2 := R2.out.lt
  go_wp2
  obtain ⟨w9, h9, hB9, s9, hb9, ho9⟩ := put9 w1 (w.heap.size + 1) 28 (.slice none 0 0) (.slice none 0 0) (.slice none 0 0) (.slice none 0 0) (.int .i64 0) (.int .i64 0) (.int .i64 0) (.int .i64 0) (.int .i64 0) (.slice none 0 0) (.slice none 0 0) (.slice none 0 0) (.slice none 0 0) (.int .i64 0) (.int .i64 0) (.int .i64 0) (.int .i64 0) (.int .i64 0) R2.out
  rw [h9]
  clear h9 l2 q0 p0 q1 p1 q2 p2 q3 p3 q4 p4 q5 p5 q6 p6 q7 p7 q8 p8
  obtain ⟨r0, r1, r2, r3, r4, r5, r6, r7, r8⟩ := hB9.g9
  refine bodyPost_ret (v := .tuple #[.agg zB_, .bool false]) (by simp [results, Tryz.results102, go_sem, r0, r1, r2, r3, r4, r5, r6, r7, r8]) rfl ⟨⟨zeroBk, false, _, Hf.out, rfl, zero_own _ _⟩, hb9 _ _ (by omega) B2⟩
 ·have HP := Lib.hid (bk_is hok)
  have Hf := Lib.hid (flush_yes hok)
  clear hok
  have hl := Lib.hid (bk_len sm)
  have h6 := HP.out.r
  have h2 := HP.out.h
  have hq := HP.out.q
  have hd := dir12 HP.out.d
  have Hlen := Lib.hid (show B.rg.length ≤ 100000 ∧ B.hm.length ≤ 100000 ∧ B.pd.length ≤ 100000 ∧ B.dr.length ≤ 100000 by omega)
  have H6 := Lib.hid h6
  have H2 := Lib.hid h2
  have hpn : B.pd.length ≤ 100000 := by omega
  clear h6 h2 hq hd hl
  obtain ⟨x0, x1, x2, x3, x4, x5, x6, x7, x8⟩ := V2.out.g9
  have l1 := V2.out.lt
  go_wp2_with fail
  clear l1 x0 x1 x2 x3 x4 x5 x6 x7 x8
  refine (l25Copy_any _ B Hlen.out w1 Hb2.out).mono ?_
  rintro e w2 ⟨v', rfl, hO, hb2⟩
  obtain ⟨_, _, _, _, ⟨F1, e1, F2, e2, A3', c3', A4', c4', rfl, rfl, rfl, rfl, rfl⟩, o1, o2, o3, o4, d12, d13, d14, d23, d24, d34⟩ := hO
  obtain ⟨g1, k1, he⟩ := own_form1 o1 (by have := H6.out; omega)
  simp only [Value.slice.injEq] at he
  obtain ⟨rfl, _, rfl⟩ := he
  obtain ⟨g2, k2, he⟩ := own_form1 o2 (by have := H2.out; omega)
  simp only [Value.slice.injEq] at he
  obtain ⟨rfl, _, rfl⟩ := he
  rw [H6.out] at o1 d12 d13 d14 ⊢
  rw [H2.out] at o2 d12 d23 d24 ⊢
  have B3 := belN B2 hb2
  have s2 := hb2.size
  have R3 := Lib.hid (R2.out.below hb2 R2.out.lt)
  have lr := R2.out.lt
  clear R2 V2 Hb2
  have O1 := Lib.hid o1
  have O2 := Lib.hid o2
  have O3 := Lib.hid o3
  have O4 := Lib.hid o4
  have DD := Lib.hid (show _ ∧ _ ∧ _ ∧ _ ∧ _ from ⟨d12, d13, d14, d23, d24⟩)
  clear o1 o2 o3 o4 d12 d13 d14 d23 d24 d34
  go_wp2_with fail
  refine (l25Flush_any g1 e1 g2 e2 w1.heap.size w1.heap.size A3' c3' A4' c4' B HP.out.p hpn HP.out.a w2 s2 (Nat.le_refl _) O1.out O2.out O3.out O4.out DD.out.1 DD.out.2.1 DD.out.2.2.1 DD.out.2.2.2.1 DD.out.2.2.2.2).mono ?_
  rintro r w4 ⟨gn, rfl, hgn, p1, p2, p3, p4, hb4⟩
  have P1 := Lib.hid p1
  have P2 := Lib.hid p2
  have P3 := Lib.hid p3
  have P4 := Lib.hid p4
  have s4 := hb4.size
  have R4 := Lib.hid (R3.out.below hb4 (by omega))
  have B4 := B3.trans (hb4.mono B2.size)
  clear p1 p2 p3 p4
  obtain ⟨q0, q1, q2, q3, q4, q5, q6, q7, q8⟩ := R4.out.g9
  obtain ⟨p0, p1, p2, p3, p4, p5, p6, p7, p8⟩ := R4.out.f9
  have l2 := R4.out.lt
  go_wp2
  obtain ⟨w9, h9, hB9, s9, hb9, ho9⟩ := put9 w4 (w.heap.size + 1) 28 (.slice (some ⟨g1, 0, none⟩) 6 e1) (.slice (some ⟨g2, 0, none⟩) 2 e2) (.slice (some ⟨gn, 0, none⟩) 0 0) (.slice A4' B.dr.length c4') (.int .i64 B.sq) (.int .i64 (flB B).bs) (.int .i64 B.sq) (.int .i64 (flB B).at_) (.int .i64 0) (.slice none 0 0) (.slice none 0 0) (.slice none 0 0) (.slice none 0 0) (.int .i64 0) (.int .i64 0) (.int .i64 0) (.int .i64 0) (.int .i64 0) R4.out
  rw [h9]
  clear h9 l2 q0 p0 q1 p1 q2 p2 q3 p3 q4 p4 q5 p5 q6 p6 q7 p7 q8 p8  
  obtain ⟨r0, r1, r2, r3, r4, r5, r6, r7, r8⟩ := hB9.g9
  refine bodyPost_ret (v := .tuple #[.agg #[.slice (some ⟨g1, 0, none⟩) 6 e1, .slice (some ⟨g2, 0, none⟩) 2 e2, .slice (some ⟨gn, 0, none⟩) 0 0, .slice A4' B.dr.length c4', .int .i64 B.sq, .int .i64 (flB B).bs, .int .i64 B.sq, .int .i64 (flB B).at_, .int .i64 0], .bool true]) (by simp [results, Tryz.results102, go_sem, r0, r1, r2, r3, r4, r5, r6, r7, r8]) rfl ⟨⟨flB B, true, _, Hf.out, rfl, fl_own (A3' := (some ⟨gn, 0, none⟩)) (c3' := 0) H6.out H2.out rfl (own_more (ho9 _ _ _ _ _ _ (by omega) P1.out) (by omega)) (own_more (ho9 _ _ _ _ _ _ (by omega) P2.out) (by omega)) (own_more (ho9 _ _ _ _ _ _ (by omega) P3.out) (by omega)) (own_more (ho9 _ _ _ _ _ _ (by omega) P4.out) (by omega)) DD.out.1 (dis_lt w2.heap.size (own_hi O1.out) (fun k hk => by cases hk; exact hgn)) DD.out.2.2.1 (dis_lt w2.heap.size (own_hi O2.out) (fun k hk => by cases hk; exact hgn)) DD.out.2.2.2.2 ((dis_lt w2.heap.size (own_hi O4.out) (fun k hk => by cases hk; exact hgn)).symm)⟩, hb9 _ _ (by omega) B4⟩

theorem own_bk_in {lo : Nat} {v : Value} {B : BookD} {w : World} (h : OwnBk lo v B w) : InAt (OwnBk lo v B) lo w.heap.size w := by
 obtain ⟨v1, v2, v3, v4, h0, h1, h2, h3, h4, hd⟩ := h
 exact BkH.inAt ⟨v1, v2, v3, v4, h0, own_in h1, own_in h2, own_in h3, own_in h4, hd⟩
theorem bookFlush_impl (v : Value) (B : BookD) (sm : szBk B ≤ 1048576) {B' : BookD} {b : Bool} (h : flushP B = (B', b)) (w : World) (hT : Tab w) (hI : IsBook w v B) :
  Calls Tryz.prog 10 #[v] w fun e w' => ∃ v' lo up, e = .returned (.tuple #[v', .bool b]) ∧ w.heap.size ≤ lo ∧ InAt (OwnBk lo v' B') lo up w' ∧ Below w.heap.size w w' := by
 refine (bookFlush_impl0 v B sm w hT hI).mono ?_
 rintro e w' ⟨⟨B2, b2, v', hP, rfl, hO⟩, hb⟩
 rw [h] at hP
 injection hP with h1 h2
 subst h1 h2
 exact ⟨v', w.heap.size, _, rfl, Nat.le_refl _, own_bk_in hO, hb⟩

theorem bookFlush_spec (v : Value) (B : BookD) (sm : szBk B ≤ 1048576) {B' : BookD} {b : Bool} (h : flushP B = (B', b)) (w : World) (hI : IsBook w v B) :
  Calls Tryz.prog 102 #[v] w fun e w' => ∃ v' lo up, e = .returned (.tuple #[v', .bool b]) ∧ w.heap.size ≤ lo ∧ InAt (OwnBk lo v' B') lo up w' ∧ Below w.heap.size w w' := by
 refine (bookFlush_spec0 v B sm w hI).mono ?_
 rintro e w' ⟨⟨B2, b2, v', hP, rfl, hO⟩, hb⟩
 rw [h] at hP
 injection hP with h1 h2
 subst h1 h2
 exact ⟨v', w.heap.size, _, rfl, Nat.le_refl _, own_bk_in hO, hb⟩

end Go.Proofs.YtghgafbfpejinaaGreatDoor
