/- Books copied and flushed, in both packages. -/
import Derived.Test.YthdbomkddpnhaaaGreatDoorBkHeld
import Derived.Test.YthdbomkddpnhaaaGreatDoorCpE
import Derived.Deep.Cut
import Derived.Test.YthdbomkddpnhaaaGreatDoorBkOkI
import Derived.StillTailTactics
import Derived.Test.YthdbomkddpnhaaaGreatDoorBkOkS
namespace Go.Proofs.YthdbomkddpnhaaaGreatDoor
open Go Go.RowKit

theorem Tryz.el_write : ElemOk Tryz.prog 47 109 (.agg #[.int .i64 0, .string ⟨#[]⟩]) 2 24 := ⟨Tryz.underlying47, by kernel_rfl, rfl, by omega⟩
theorem own_sc {w : World} {base n size : Nat} {e : TypeId} {v : Value} {xs : List Value} (h : w.ownsRow base e size v n xs) {g : Nat} (o : Nat) (hg : g < base) (u : Value) : (w.setCell ⟨g, o, none⟩ u).ownsRow base e size v n xs := by
  refine ⟨h.1, ?_⟩
  rcases h.2 with h2 | ⟨g', cap, cur, hv, hb, hh, r⟩
  · exact .inl h2
  · exact .inr ⟨g', cap, cur, hv, hb, (Below.heap_setCell w ⟨g, o, none⟩ u g' (by simp only; omega)).trans hh, r⟩
theorem own_bel {w w' : World} {base n size B : Nat} {e : TypeId} {v : Value} {xs : List Value} (h : w.ownsRow base e size v n xs) (hb : Below B w w') (hk : ∀ k, v.ownBlock = some k → k < B) : w'.ownsRow base e size v n xs := by
  refine ⟨h.1, ?_⟩
  rcases h.2 with h2 | ⟨g', cap, cur, hv, hbs, hh, r⟩
  · exact .inl h2
  · exact .inr ⟨g', cap, cur, hv, hbs, (hb.block g' (hk g' (by rw [hv]; rfl))).trans hh, r⟩
theorem sz_sc (w : World) (p : Addr) (u : Value) : (w.setCell p u).heap.size = w.heap.size := by simp
theorem dis_lt {v v' : Value} (a : Nat) (h : ∀ k, v.ownBlock = some k → k < a) (h' : ∀ k, v'.ownBlock = some k → a ≤ k) : Dis v v' := by
  unfold Dis
  rcases hv : v.ownBlock with _ | k
  · exact .inl rfl
  · rcases hv' : v'.ownBlock with _ | k'
    · exact .inr (.inl rfl)
    · refine .inr (.inr fun e => ?_)
      have h1 := h k hv
      have h2 := h' k' hv'
      injection e with e
      omega
theorem own_lo {w : World} {base n size : Nat} {e : TypeId} {v : Value} {xs : List Value} (h : w.ownsRow base e size v n xs) : ∀ k, v.ownBlock = some k → base ≤ k := fun k hk => (h.lt k hk).1
theorem own_hi {w : World} {base n size : Nat} {e : TypeId} {v : Value} {xs : List Value} (h : w.ownsRow base e size v n xs) : ∀ k, v.ownBlock = some k → k < w.heap.size := fun k hk => (h.lt k hk).2

theorem put9 (w7 : World) (b : Nat) (t : TypeId) (x0 x1 x2 x3 x4 x5 x6 x7 x8 y0 y1 y2 y3 y4 y5 y6 y7 y8 : Value) (hU : Blk w7 b t #[y0, y1, y2, y3, y4, y5, y6, y7, y8]) :
    ∃ w9, (((((((((w7.setCell ⟨b, 0, none⟩ x0).setCell ⟨b, 1, none⟩ x1).setCell ⟨b, 2, none⟩ x2).setCell ⟨b, 3, none⟩ x3).setCell ⟨b, 4, none⟩ x4).setCell ⟨b, 5, none⟩ x5).setCell ⟨b, 6, none⟩ x6).setCell ⟨b, 7, none⟩ x7).setCell ⟨b, 8, none⟩ x8) = w9 ∧ Blk w9 b t #[x0, x1, x2, x3, x4, x5, x6, x7, x8] ∧ w9.heap.size = w7.heap.size ∧ (∀ (B : Nat) (a : World), B ≤ b → Below B a w7 → Below B a w9) ∧
      (∀ (base n size : Nat) (e : TypeId) (v : Value) (xs : List Value), b < base → w7.ownsRow base e size v n xs → w9.ownsRow base e size v n xs) :=
  ⟨_, rfl, (((((((((hU.put 0 x0 #[x0, y1, y2, y3, y4, y5, y6, y7, y8] rfl).put 1 x1 #[x0, x1, y2, y3, y4, y5, y6, y7, y8] rfl).put 2 x2 #[x0, x1, x2, y3, y4, y5, y6, y7, y8] rfl).put 3 x3 #[x0, x1, x2, x3, y4, y5, y6, y7, y8] rfl).put 4 x4 #[x0, x1, x2, x3, x4, y5, y6, y7, y8] rfl).put 5 x5 #[x0, x1, x2, x3, x4, x5, y6, y7, y8] rfl).put 6 x6 #[x0, x1, x2, x3, x4, x5, x6, y7, y8] rfl).put 7 x7 #[x0, x1, x2, x3, x4, x5, x6, x7, y8] rfl).put 8 x8 #[x0, x1, x2, x3, x4, x5, x6, x7, x8] rfl), by simp, fun B a hb h => (((((((((h.setCell (p := ⟨b, 0, none⟩) hb _).setCell (p := ⟨b, 1, none⟩) hb _).setCell (p := ⟨b, 2, none⟩) hb _).setCell (p := ⟨b, 3, none⟩) hb _).setCell (p := ⟨b, 4, none⟩) hb _).setCell (p := ⟨b, 5, none⟩) hb _).setCell (p := ⟨b, 6, none⟩) hb _).setCell (p := ⟨b, 7, none⟩) hb _).setCell (p := ⟨b, 8, none⟩) hb _), fun base n size e v xs hb h => (own_sc (g := b) (own_sc (g := b) (own_sc (g := b) (own_sc (g := b) (own_sc (g := b) (own_sc (g := b) (own_sc (g := b) (own_sc (g := b) (own_sc (g := b) h 0 hb _) 1 hb _) 2 hb _) 3 hb _) 4 hb _) 5 hb _) 6 hb _) 7 hb _) 8 hb _)⟩

set_option maxHeartbeats 1000000 in
theorem copyTexts_impl (A : Option Addr) (n c : Nat) (xs : List ByteArray) (hn : n ≤ 10000000) (w : World) (hr : Reads w w.heap.size 1 A n (SS xs)) :
    Calls Tryz.prog 157 #[.slice A n c] w fun e w' => ∃ v, e = .returned v ∧ w'.ownsRow w.heap.size 9 1 v n (SS xs) ∧ Below w.heap.size w w' := by
  have Hr := Lib.hid hr
  clear hr
  go_enter Tryz.func157, Tryz.ntmps157
  go_wp2_with (at_builtin; refine wpList_app _ rfl _ _ _ rfl Tryz.el_str (own_nilC _ w.heap.size 1 _) rfl Hr.out rfl (SS_cells _) (by unfold maxLen; omega) (by omega) (Nat.le_refl _) ?_; intro v1 w1 own1 _ _ hb1; rw [Nat.zero_add, List.nil_append] at own1; have Own1 := Lib.hid own1; clear own1)
  go_ret
  exact ⟨_, rfl, Own1.out, hb1⟩

set_option maxRecDepth 100000 in
set_option maxHeartbeats 8000000 in
theorem copyBook_impl (v : Value) (B : BookD) (hl : B.rg.length ≤ 100000 ∧ B.hm.length ≤ 100000 ∧ B.pd.length ≤ 100000 ∧ B.dr.length ≤ 100000) (w : World) (h : IsBook w v B) :
    Calls Tryz.prog 84 #[v] w fun e w' => ∃ v', e = .returned v' ∧ OwnBk w.heap.size v' B w' ∧ Below w.heap.size w w' := by
  obtain ⟨A1, c1, A2, c2, A3, c3, A4, c4, rfl, h⟩ := h
  obtain ⟨rg, hm, pd, dr, sq, bs, sf, at_, df⟩ := B
  simp only at h hl ⊢
  have H := Lib.hid h
  have Hl := Lib.hid hl
  clear h hl
  obtain ⟨W1, hW1⟩ : ∃ W, (w.alloc (.cells #[.slice A1 rg.length c1, .slice A2 hm.length c2, .slice A3 pd.length c3, .slice A4 dr.length c4, .int .i64 sq, .int .i64 bs, .int .i64 sf, .int .i64 at_, .int .i64 df] 50)).alloc (.cells #[.slice none 0 0, .slice none 0 0, .slice none 0 0, .slice none 0 0, .int .i64 0, .int .i64 0, .int .i64 0, .int .i64 0, .int .i64 0] 50) = W := ⟨_, rfl⟩
  have B1 : Below w.heap.size w W1 := by rw [← hW1]; exact belA (belA (bel0 w) _) _
  have S1 : W1.heap.size = w.heap.size + 2 := by rw [← hW1]; simp
  have hV1 : Blk W1 w.heap.size 50 #[.slice A1 rg.length c1, .slice A2 hm.length c2, .slice A3 pd.length c3, .slice A4 dr.length c4, .int .i64 sq, .int .i64 bs, .int .i64 sf, .int .i64 at_, .int .i64 df] := by rw [← hW1]; exact (Blk.new' _ _ _ _ rfl).alloc _
  have hR1 : Blk W1 (w.heap.size + 1) 50 #[.slice none 0 0, .slice none 0 0, .slice none 0 0, .slice none 0 0, .int .i64 0, .int .i64 0, .int .i64 0, .int .i64 0, .int .i64 0] := by rw [← hW1]; exact Blk.new' _ _ _ _ (by simp)
  have HW1 := Lib.hid hW1
  clear hW1
  go_enter Tryz.func84, Tryz.ntmps84
  go_wp2_with fail
  rw [HW1.out]
  have x0 := hV1.get 0 rfl
  have l1 := hV1.lt
  have V1 := Lib.hid hV1
  have R1 := Lib.hid hR1
  clear hV1 hR1
  go_wp2_with fail
  clear x0 l1
  refine (copyTexts_impl A1 rg.length c1 rg (by have := Hl.out; omega) W1 (H.out.next B1).1).mono ?_
  rintro e w1 ⟨_, rfl, own1, hb1⟩
  obtain ⟨D1, d1, rfl, _, _, _⟩ := own_vals own1
  have hi1 := Lib.hid (own_hi own1)
  have U1 := Lib.hid (V1.out.below hb1 V1.out.lt)
  have Q1 := Lib.hid (R1.out.below hb1 R1.out.lt)
  have E1 := belN B1 hb1
  have s1 := hb1.size
  have P1_1' := Lib.hid own1
  clear own1 V1 R1
  have x1 := U1.out.get 1 rfl
  have z1 := U1.out.get 0 rfl
  have f1 := U1.out.frozen 0
  have l1 := U1.out.lt
  go_wp2_with fail
  clear x1 z1 f1 l1
  obtain ⟨W2, hW2⟩ : ∃ W, w1.setCell ⟨w.heap.size, 0, none⟩ (.slice D1 rg.length d1) = W := ⟨_, rfl⟩
  have V2 := Lib.hid (show Blk W2 w.heap.size 50 #[.slice D1 rg.length d1, .slice A2 hm.length c2, .slice A3 pd.length c3, .slice A4 dr.length c4, .int .i64 sq, .int .i64 bs, .int .i64 sf, .int .i64 at_, .int .i64 df] by rw [← hW2]; exact U1.out.put 0 _ _ rfl)
  have R2 := Lib.hid (show Blk W2 (w.heap.size + 1) 50 #[.slice none 0 0, .slice none 0 0, .slice none 0 0, .slice none 0 0, .int .i64 0, .int .i64 0, .int .i64 0, .int .i64 0, .int .i64 0] by rw [← hW2]; exact Q1.out.far (by simp) _)
  have B2 : Below w.heap.size w W2 := by rw [← hW2]; exact belC E1 _ _ (Nat.le_refl _) _
  have t2 : W2.heap.size = w1.heap.size := by rw [← hW2]; simp
  have P1_2 := Lib.hid (hW2 ▸ own_sc (g := w.heap.size) P1_1'.out 0 (by omega) (.slice D1 rg.length d1))
  clear P1_1'
  rw [hW2]
  clear hW2
  refine (copyTexts_impl A2 hm.length c2 hm (by have := Hl.out; omega) W2 (H.out.next B2).2.1).mono ?_
  rintro e w2 ⟨_, rfl, own2, hb2⟩
  obtain ⟨D2, d2, rfl, _, _, _⟩ := own_vals own2
  have hi2 := Lib.hid (own_hi own2)
  have U2 := Lib.hid (V2.out.below hb2 V2.out.lt)
  have Q2 := Lib.hid (R2.out.below hb2 R2.out.lt)
  have E2 := belN B2 hb2
  have s2 := hb2.size
  have P1_2' := Lib.hid (own_below P1_2.out hb2 (Nat.le_refl _))
  clear P1_2
  have P2_2' := Lib.hid own2
  clear own2 V2 R2
  have x1 := U2.out.get 2 rfl
  have z1 := U2.out.get 1 rfl
  have f1 := U2.out.frozen 1
  have l1 := U2.out.lt
  have F2 : Below w.heap.size w (w2.setCell ⟨w.heap.size, 1, none⟩ (.slice D2 hm.length d2)) := belC E2 _ _ (Nat.le_refl _) _
  have V2s := Lib.hid (show Blk (w2.setCell ⟨w.heap.size, 1, none⟩ (.slice D2 hm.length d2)) w.heap.size 50 #[.slice D1 rg.length d1, .slice D2 hm.length d2, .slice A3 pd.length c3, .slice A4 dr.length c4, .int .i64 sq, .int .i64 bs, .int .i64 sf, .int .i64 at_, .int .i64 df] from U2.out.put 1 _ _ rfl)
  have R2s := Lib.hid (show Blk (w2.setCell ⟨w.heap.size, 1, none⟩ (.slice D2 hm.length d2)) (w.heap.size + 1) 50 #[.slice none 0 0, .slice none 0 0, .slice none 0 0, .slice none 0 0, .int .i64 0, .int .i64 0, .int .i64 0, .int .i64 0, .int .i64 0] from Q2.out.far (by simp) _)
  have P1_s := Lib.hid (own_sc (g := w.heap.size) P1_2'.out 1 (by omega) (.slice D2 hm.length d2))
  have P2_s := Lib.hid (own_sc (g := w.heap.size) P2_2'.out 1 (by omega) (.slice D2 hm.length d2))
  have tsz : (w2.setCell ⟨w.heap.size, 1, none⟩ (.slice D2 hm.length d2)).heap.size = w2.heap.size := by simp
  have Hrd := Lib.hid ((H.out.next F2).2.2.1)
  have Hl3 : pd.length ≤ 100000 := Hl.out.2.2.1
  go_wp2_with (at_builtin; refine wpList_app _ rfl _ _ _ rfl Tryz.el_write (own_nilC _ (w2.setCell ⟨w.heap.size, 1, none⟩ (.slice D2 hm.length d2)).heap.size 2 _) rfl Hrd.out rfl (RS_cells _) (by unfold maxLen; omega) (by omega) (Nat.le_refl _) ?_; intro v3 w3 own3 _ _ hb3; rw [Nat.zero_add, List.nil_append] at own3; obtain ⟨D3, d3, rfl, _, _, _⟩ := own_vals own3; have U3 := Lib.hid (V2s.out.below hb3 V2s.out.lt); have Q3 := Lib.hid (R2s.out.below hb3 R2s.out.lt); have Hb3 := Lib.hid hb3; have Own3 := Lib.hid own3; clear hb3 own3 x1 z1 f1 l1; have x1 := U3.out.get 3 rfl; have z1 := U3.out.get 2 rfl; have f1 := U3.out.frozen 2; have l1 := U3.out.lt)
  clear x1 z1 f1 l1
  have hb3 := Hb3.out
  have E3 := belN F2 hb3
  have s3 := hb3.size
  rw [tsz] at s3
  have P1_3' := Lib.hid (own_below P1_s.out hb3 (Nat.le_refl _))
  have P2_3' := Lib.hid (own_below P2_s.out hb3 (Nat.le_refl _))
  have P3_3' := Lib.hid Own3.out
  have hi3 := Lib.hid (own_hi Own3.out)
  clear P1_s P2_s P1_2' P2_2' V2s R2s U2 Q2 Hrd
  obtain ⟨W4, hW4⟩ : ∃ W, w3.setCell ⟨w.heap.size, 2, none⟩ (.slice D3 pd.length d3) = W := ⟨_, rfl⟩
  have V4 := Lib.hid (show Blk W4 w.heap.size 50 #[.slice D1 rg.length d1, .slice D2 hm.length d2, .slice D3 pd.length d3, .slice A4 dr.length c4, .int .i64 sq, .int .i64 bs, .int .i64 sf, .int .i64 at_, .int .i64 df] by rw [← hW4]; exact U3.out.put 2 _ _ rfl)
  have R4 := Lib.hid (show Blk W4 (w.heap.size + 1) 50 #[.slice none 0 0, .slice none 0 0, .slice none 0 0, .slice none 0 0, .int .i64 0, .int .i64 0, .int .i64 0, .int .i64 0, .int .i64 0] by rw [← hW4]; exact Q3.out.far (by simp) _)
  have B4 : Below w.heap.size w W4 := by rw [← hW4]; exact belC E3 _ _ (Nat.le_refl _) _
  have t4 : W4.heap.size = w3.heap.size := by rw [← hW4]; simp
  have P1_4 := Lib.hid (hW4 ▸ own_sc (g := w.heap.size) P1_3'.out 2 (by omega) (.slice D3 pd.length d3))
  clear P1_3'
  have P2_4 := Lib.hid (hW4 ▸ own_sc (g := w.heap.size) P2_3'.out 2 (by omega) (.slice D3 pd.length d3))
  clear P2_3'
  have P3_4 := Lib.hid (hW4 ▸ own_sc (g := w.heap.size) P3_3'.out 2 (by omega) (.slice D3 pd.length d3))
  clear P3_3'
  rw [hW4]
  clear hW4
  refine (copyEnts_impl A4 dr.length c4 dr (by have := Hl.out; omega) W4 (H.out.next B4).2.2.2).mono ?_
  rintro e w4 ⟨_, rfl, own4, hb4⟩
  obtain ⟨D4, d4, rfl, _, _, _⟩ := own_vals own4
  have hi4 := Lib.hid (own_hi own4)
  have U4 := Lib.hid (V4.out.below hb4 V4.out.lt)
  have Q4 := Lib.hid (R4.out.below hb4 R4.out.lt)
  have E4 := belN B4 hb4
  have s4 := hb4.size
  have P1_4' := Lib.hid (own_below P1_4.out hb4 (Nat.le_refl _))
  clear P1_4
  have P2_4' := Lib.hid (own_below P2_4.out hb4 (Nat.le_refl _))
  clear P2_4
  have P3_4' := Lib.hid (own_below P3_4.out hb4 (Nat.le_refl _))
  clear P3_4
  have P4_4' := Lib.hid own4
  clear own4 V4 R4
  have g4 := belC E4 w.heap.size 3 (Nat.le_refl _) (.slice D4 dr.length d4)
  have N4 := Lib.hid (show Blk (w4.setCell ⟨w.heap.size, 3, none⟩ (.slice D4 dr.length d4)) w.heap.size 50 #[.slice D1 rg.length d1, .slice D2 hm.length d2, .slice D3 pd.length d3, .slice D4 dr.length d4, .int .i64 sq, .int .i64 bs, .int .i64 sf, .int .i64 at_, .int .i64 df] from U4.out.put 3 _ _ rfl)
  have x0 := U4.out.get 0 rfl
  have q0 := Q4.out.get 0 rfl
  have p0 := Q4.out.frozen 0
  have x1 := U4.out.get 1 rfl
  have q1 := Q4.out.get 1 rfl
  have p1 := Q4.out.frozen 1
  have x2 := U4.out.get 2 rfl
  have q2 := Q4.out.get 2 rfl
  have p2 := Q4.out.frozen 2
  have x3 := U4.out.get 3 rfl
  have q3 := Q4.out.get 3 rfl
  have p3 := Q4.out.frozen 3
  have x4 := U4.out.get 4 rfl
  have q4 := Q4.out.get 4 rfl
  have p4 := Q4.out.frozen 4
  have x5 := U4.out.get 5 rfl
  have q5 := Q4.out.get 5 rfl
  have p5 := Q4.out.frozen 5
  have x6 := U4.out.get 6 rfl
  have q6 := Q4.out.get 6 rfl
  have p6 := Q4.out.frozen 6
  have x7 := U4.out.get 7 rfl
  have q7 := Q4.out.get 7 rfl
  have p7 := Q4.out.frozen 7
  have x8 := U4.out.get 8 rfl
  have q8 := Q4.out.get 8 rfl
  have p8 := Q4.out.frozen 8
  have f1 := U4.out.frozen 3
  have l1 := U4.out.lt
  have l2 := Q4.out.lt
  go_wp2
  obtain ⟨w9, h9, hB9, s9, hb9, ho9⟩ := put9 (w4.setCell ⟨w.heap.size, 3, none⟩ (.slice D4 dr.length d4)) (w.heap.size + 1) 50 (.slice D1 rg.length d1) (.slice D2 hm.length d2) (.slice D3 pd.length d3) (.slice D4 dr.length d4) (.int .i64 sq) (.int .i64 bs) (.int .i64 sf) (.int .i64 at_) (.int .i64 df) (.slice none 0 0) (.slice none 0 0) (.slice none 0 0) (.slice none 0 0) (.int .i64 0) (.int .i64 0) (.int .i64 0) (.int .i64 0) (.int .i64 0) (Q4.out.far (by simp) _)
  rw [h9]
  clear h9 x0 q0 p0 x1 q1 p1 x2 q2 p2 x3 q3 p3 x4 q4 p4 x5 q5 p5 x6 q6 p6 x7 q7 p7 x8 q8 p8 f1 l1 l2
  have r0 := hB9.get 0 rfl
  have r1 := hB9.get 1 rfl
  have r2 := hB9.get 2 rfl
  have r3 := hB9.get 3 rfl
  have r4 := hB9.get 4 rfl
  have r5 := hB9.get 5 rfl
  have r6 := hB9.get 6 rfl
  have r7 := hB9.get 7 rfl
  have r8 := hB9.get 8 rfl
  refine bodyPost_ret (v := .agg #[.slice D1 rg.length d1, .slice D2 hm.length d2, .slice D3 pd.length d3, .slice D4 dr.length d4, .int .i64 sq, .int .i64 bs, .int .i64 sf, .int .i64 at_, .int .i64 df]) (by simp [results, Tryz.results84, go_sem, r0, r1, r2, r3, r4, r5, r6, r7, r8]) rfl ⟨_, rfl, ⟨_, _, _, _, ⟨D1, d1, D2, d2, D3, d3, D4, d4, rfl, rfl, rfl, rfl, rfl⟩, own_more (ho9 _ _ _ _ _ _ (by omega) (own_sc (g := w.heap.size) P1_4'.out 3 (by omega) _)) (by omega), own_more (ho9 _ _ _ _ _ _ (by omega) (own_sc (g := w.heap.size) P2_4'.out 3 (by omega) _)) (by omega), own_more (ho9 _ _ _ _ _ _ (by omega) (own_sc (g := w.heap.size) P3_4'.out 3 (by omega) _)) (by omega), own_more (ho9 _ _ _ _ _ _ (by omega) (own_sc (g := w.heap.size) P4_4'.out 3 (by omega) _)) (by omega), dis_lt w1.heap.size hi1.out (fun k hk => by have := own_lo P2_4'.out k hk; omega), dis_lt w1.heap.size hi1.out (fun k hk => by have := own_lo P3_4'.out k hk; omega), dis_lt w1.heap.size hi1.out (fun k hk => by have := own_lo P4_4'.out k hk; omega), dis_lt w2.heap.size hi2.out (fun k hk => by have := own_lo P3_4'.out k hk; omega), dis_lt w2.heap.size hi2.out (fun k hk => by have := own_lo P4_4'.out k hk; omega), dis_lt w3.heap.size hi3.out (fun k hk => by have := own_lo P4_4'.out k hk; omega)⟩, ?_⟩
  exact hb9 _ _ (by omega) g4

set_option maxRecDepth 100000 in
set_option maxHeartbeats 8000000 in
theorem l25Copy_any (v : Value) (B : BookD) (hl : B.rg.length ≤ 100000 ∧ B.hm.length ≤ 100000 ∧ B.pd.length ≤ 100000 ∧ B.dr.length ≤ 100000) (w : World) (h : IsBook w v B) :
    Calls Tryz.prog 75 #[v] w fun e w' => ∃ v', e = .returned v' ∧ OwnBk w.heap.size v' B w' ∧ Below w.heap.size w w' := by
  obtain ⟨A1, c1, A2, c2, A3, c3, A4, c4, rfl, h⟩ := h
  obtain ⟨rg, hm, pd, dr, sq, bs, sf, at_, df⟩ := B
  simp only at h hl ⊢
  have H := Lib.hid h
  have Hl := Lib.hid hl
  obtain ⟨hl1, hl2, hl3, hl4⟩ := hl
  clear h
  obtain ⟨W1, hW1⟩ : ∃ W, (w.alloc (.cells #[.slice A1 rg.length c1, .slice A2 hm.length c2, .slice A3 pd.length c3, .slice A4 dr.length c4, .int .i64 sq, .int .i64 bs, .int .i64 sf, .int .i64 at_, .int .i64 df] 50)).alloc (.cells #[.slice none 0 0, .slice none 0 0, .slice none 0 0, .slice none 0 0, .int .i64 0, .int .i64 0, .int .i64 0, .int .i64 0, .int .i64 0] 50) = W := ⟨_, rfl⟩
  have B1 : Below w.heap.size w W1 := by rw [← hW1]; exact belA (belA (bel0 w) _) _
  have S1 : W1.heap.size = w.heap.size + 2 := by rw [← hW1]; simp
  have hV1 : Blk W1 w.heap.size 50 #[.slice A1 rg.length c1, .slice A2 hm.length c2, .slice A3 pd.length c3, .slice A4 dr.length c4, .int .i64 sq, .int .i64 bs, .int .i64 sf, .int .i64 at_, .int .i64 df] := by rw [← hW1]; exact (Blk.new' _ _ _ _ rfl).alloc _
  have hR1 : Blk W1 (w.heap.size + 1) 50 #[.slice none 0 0, .slice none 0 0, .slice none 0 0, .slice none 0 0, .int .i64 0, .int .i64 0, .int .i64 0, .int .i64 0, .int .i64 0] := by rw [← hW1]; exact Blk.new' _ _ _ _ (by simp)
  have HW1 := Lib.hid hW1
  clear hW1
  go_enter Tryz.func75, Tryz.ntmps75
  go_upto_region 1 with fail
  rw [HW1.out]
  have x1 := hV1.get 0 rfl
  have z1 : True := trivial
  have f1 : True := trivial
  have l1 := hV1.lt
  have V1 := Lib.hid hV1
  have R1 := Lib.hid hR1
  clear hV1 hR1
  have L10 := World.ownsRow_lit (e := 9) (size := 1) W1 #[] 0 (Nat.le_refl _) (by unfold maxLen; omega) rfl
  have L1 := Lib.hid L10
  clear L10
  have H1 := Lib.hid (show Reads _ _ 1 A1 rg.length (SS rg) from (H.out.next (belA B1 (.cells #[] 9))).1)
  have HS1 := Lib.hid S1
  clear S1
  go_wp2_with (first
    | (at_builtin; refine wpList_app _ rfl _ _ _ rfl Tryz.el_str L1.out rfl H1.out rfl (SS_cells _) (by unfold maxLen; omega) (by omega) (by simp) ?_; intro v1 w1 own1 _ _ hb1; rw [Nat.zero_add] at own1; obtain ⟨D1, d1, rfl, _, _, _⟩ := own_vals own1; have U1 := Lib.hid ((V1.out.alloc (.cells #[] 9)).below hb1 V1.out.lt); have Q1 := Lib.hid ((R1.out.alloc (.cells #[] 9)).below hb1 R1.out.lt); have E1 := (belA B1 (.cells #[] 9)).trans (hb1.mono B1.size); have Hb1 := Lib.hid hb1; have O1 := Lib.hid own1; clear hb1 own1 x1 z1 f1 l1; have V2 := Lib.hid (show Blk (w1.setCell ⟨w.heap.size, 0, none⟩ (.slice D1 rg.length d1)) w.heap.size 50 #[.slice D1 rg.length d1, .slice A2 hm.length c2, .slice A3 pd.length c3, .slice A4 dr.length c4, .int .i64 sq, .int .i64 bs, .int .i64 sf, .int .i64 at_, .int .i64 df] from U1.out.put 0 _ _ rfl); have R2 := Lib.hid (show Blk (w1.setCell ⟨w.heap.size, 0, none⟩ (.slice D1 rg.length d1)) (w.heap.size + 1) 50 #[.slice none 0 0, .slice none 0 0, .slice none 0 0, .slice none 0 0, .int .i64 0, .int .i64 0, .int .i64 0, .int .i64 0, .int .i64 0] from Q1.out.far (by simp) _); have B2 : Below w.heap.size w (w1.setCell ⟨w.heap.size, 0, none⟩ (.slice D1 rg.length d1)) := belC E1 _ _ (Nat.le_refl _) _; have L20 := World.ownsRow_lit (e := 9) (size := 1) (w1.setCell ⟨w.heap.size, 0, none⟩ (.slice D1 rg.length d1)) #[] 0 (Nat.le_refl _) (by unfold maxLen; omega) rfl; rw [sz_sc] at L20; have L2 := Lib.hid L20; clear L20; have H2 := Lib.hid (show Reads _ _ 1 A2 hm.length (SS hm) from (H.out.next (belA B2 (.cells #[] 9))).2.1); have x1 := U1.out.get 1 rfl; have z1 := U1.out.get 0 rfl; have f1 := U1.out.frozen 0; have l1 := U1.out.lt)
    | (at_builtin; refine wpList_app _ rfl _ _ _ rfl Tryz.el_str L2.out rfl H2.out rfl (SS_cells _) (by unfold maxLen; omega) (by omega) (by simp) ?_; intro v2 w2 own2 _ _ hb2; rw [Nat.zero_add] at own2; obtain ⟨D2, d2, rfl, _, _, _⟩ := own_vals own2; have U2 := Lib.hid ((V2.out.alloc (.cells #[] 9)).below hb2 (by have := V2.out.lt; simp at this; omega)); have Q2 := Lib.hid ((R2.out.alloc (.cells #[] 9)).below hb2 (by have := R2.out.lt; simp at this; omega)); have E2 := (belA B2 (.cells #[] 9)).trans (hb2.mono (by have := B2.size; simp at this; omega)); have Hb2 := Lib.hid hb2; have O2 := Lib.hid own2; clear hb2 own2 x1 z1 f1 l1; have V3 := Lib.hid (show Blk (w2.setCell ⟨w.heap.size, 1, none⟩ (.slice D2 hm.length d2)) w.heap.size 50 #[.slice D1 rg.length d1, .slice D2 hm.length d2, .slice A3 pd.length c3, .slice A4 dr.length c4, .int .i64 sq, .int .i64 bs, .int .i64 sf, .int .i64 at_, .int .i64 df] from U2.out.put 1 _ _ rfl); have R3 := Lib.hid (show Blk (w2.setCell ⟨w.heap.size, 1, none⟩ (.slice D2 hm.length d2)) (w.heap.size + 1) 50 #[.slice none 0 0, .slice none 0 0, .slice none 0 0, .slice none 0 0, .int .i64 0, .int .i64 0, .int .i64 0, .int .i64 0, .int .i64 0] from Q2.out.far (by simp) _); have B3 : Below w.heap.size w (w2.setCell ⟨w.heap.size, 1, none⟩ (.slice D2 hm.length d2)) := belC E2 _ _ (Nat.le_refl _) _; have L30 := World.ownsRow_lit (e := 109) (size := 2) (w2.setCell ⟨w.heap.size, 1, none⟩ (.slice D2 hm.length d2)) #[] 0 (Nat.le_refl _) (by unfold maxLen; omega) rfl; rw [sz_sc] at L30; have L3 := Lib.hid L30; clear L30; have H3 := Lib.hid (show Reads _ _ 2 A3 pd.length (RS pd) from (H.out.next (belA B3 (.cells #[] 109))).2.2.1); have x1 := U2.out.get 2 rfl; have z1 := U2.out.get 1 rfl; have f1 := U2.out.frozen 1; have l1 := U2.out.lt)
    | (at_builtin; refine wpList_app _ rfl _ _ _ rfl Tryz.el_write L3.out rfl H3.out rfl (RS_cells _) (by unfold maxLen; omega) (by omega) (by simp) ?_; intro v3 w3 own3 _ _ hb3; rw [Nat.zero_add] at own3; obtain ⟨D3, d3, rfl, _, _, _⟩ := own_vals own3; have U3 := Lib.hid ((V3.out.alloc (.cells #[] 109)).below hb3 (by have := V3.out.lt; simp at this; omega)); have Q3 := Lib.hid ((R3.out.alloc (.cells #[] 109)).below hb3 (by have := R3.out.lt; simp at this; omega)); have E3 := (belA B3 (.cells #[] 109)).trans (hb3.mono (by have := B3.size; simp at this; omega)); have Hb3 := Lib.hid hb3; have O3 := Lib.hid own3; clear hb3 own3 x1 z1 f1 l1; have V4 := Lib.hid (show Blk (w3.setCell ⟨w.heap.size, 2, none⟩ (.slice D3 pd.length d3)) w.heap.size 50 #[.slice D1 rg.length d1, .slice D2 hm.length d2, .slice D3 pd.length d3, .slice A4 dr.length c4, .int .i64 sq, .int .i64 bs, .int .i64 sf, .int .i64 at_, .int .i64 df] from U3.out.put 2 _ _ rfl); have R4 := Lib.hid (show Blk (w3.setCell ⟨w.heap.size, 2, none⟩ (.slice D3 pd.length d3)) (w.heap.size + 1) 50 #[.slice none 0 0, .slice none 0 0, .slice none 0 0, .slice none 0 0, .int .i64 0, .int .i64 0, .int .i64 0, .int .i64 0, .int .i64 0] from Q3.out.far (by simp) _); have B4 : Below w.heap.size w (w3.setCell ⟨w.heap.size, 2, none⟩ (.slice D3 pd.length d3)) := belC E3 _ _ (Nat.le_refl _) _; have x1 := U3.out.get 3 rfl; have z1 := U3.out.get 2 rfl; have f1 := U3.out.frozen 2; have l1 := U3.out.lt))
  clear x1 z1 f1 l1
  have S1 := HS1.out
  have P1_1' := O1.out
  have hi1 := Lib.hid (own_hi P1_1')
  have s1 : W1.heap.size + 1 ≤ w1.heap.size := by have := Hb1.out.size; simp at this; omega
  have P2_2' := O2.out
  have hi2 := Lib.hid (own_hi P2_2')
  have s2 : w1.heap.size + 1 ≤ w2.heap.size := by have := Hb2.out.size; simp at this; omega
  have P3_3' := O3.out
  have hi3 := Lib.hid (own_hi P3_3')
  have s3 : w2.heap.size + 1 ≤ w3.heap.size := by have := Hb3.out.size; simp at this; omega
  have P1_2' := own_bel ((own_sc (g := w.heap.size) P1_1' 0 (by omega) (.slice D1 rg.length d1)).alloc (.cells #[] 9)) Hb2.out hi1.out
  have P1_3' := own_bel ((own_sc (g := w.heap.size) P1_2' 1 (by omega) (.slice D2 hm.length d2)).alloc (.cells #[] 109)) Hb3.out (fun k hk => by have := hi1.out k hk; omega)
  have P2_3' := own_bel ((own_sc (g := w.heap.size) P2_2' 1 (by omega) (.slice D2 hm.length d2)).alloc (.cells #[] 109)) Hb3.out hi2.out
  have t4 : (w3.setCell ⟨w.heap.size, 2, none⟩ (.slice D3 pd.length d3)).heap.size = w3.heap.size := by simp
  refine (l5Copy_any A4 dr.length c4 dr (by omega) _ (H.out.next B4).2.2.2).mono ?_
  rintro e w4 ⟨_, rfl, own4, hb4⟩
  have s4 := hb4.size
  rw [t4] at s4
  have P1_4' := Lib.hid (own_below (own_sc (g := w.heap.size) P1_3' 2 (by omega) (.slice D3 pd.length d3)) hb4 (Nat.le_refl _))
  have P2_4' := Lib.hid (own_below (own_sc (g := w.heap.size) P2_3' 2 (by omega) (.slice D3 pd.length d3)) hb4 (Nat.le_refl _))
  have P3_4' := Lib.hid (own_below (own_sc (g := w.heap.size) P3_3' 2 (by omega) (.slice D3 pd.length d3)) hb4 (Nat.le_refl _))
  obtain ⟨D4, d4, rfl, _, _, _⟩ := own_vals own4
  have U4 := Lib.hid (V4.out.below hb4 V4.out.lt)
  have Q4 := Lib.hid (R4.out.below hb4 R4.out.lt)
  have E4 := belN B4 hb4
  rw [t4] at own4
  have P4_4' := Lib.hid own4
  clear own4 P1_1' P1_2' P1_3' P2_2' P2_3' P3_3' V4 R4
  have g4 := belC E4 w.heap.size 3 (Nat.le_refl _) (.slice D4 dr.length d4)
  have x0 := U4.out.get 0 rfl
  have q0 := Q4.out.get 0 rfl
  have p0 := Q4.out.frozen 0
  have x1 := U4.out.get 1 rfl
  have q1 := Q4.out.get 1 rfl
  have p1 := Q4.out.frozen 1
  have x2 := U4.out.get 2 rfl
  have q2 := Q4.out.get 2 rfl
  have p2 := Q4.out.frozen 2
  have x3 := U4.out.get 3 rfl
  have q3 := Q4.out.get 3 rfl
  have p3 := Q4.out.frozen 3
  have x4 := U4.out.get 4 rfl
  have q4 := Q4.out.get 4 rfl
  have p4 := Q4.out.frozen 4
  have x5 := U4.out.get 5 rfl
  have q5 := Q4.out.get 5 rfl
  have p5 := Q4.out.frozen 5
  have x6 := U4.out.get 6 rfl
  have q6 := Q4.out.get 6 rfl
  have p6 := Q4.out.frozen 6
  have x7 := U4.out.get 7 rfl
  have q7 := Q4.out.get 7 rfl
  have p7 := Q4.out.frozen 7
  have x8 := U4.out.get 8 rfl
  have q8 := Q4.out.get 8 rfl
  have p8 := Q4.out.frozen 8
  have f1 := U4.out.frozen 3
  have l1 := U4.out.lt
  have l2 := Q4.out.lt
  go_wp2
  obtain ⟨w9, h9, hB9, s9, hb9, ho9⟩ := put9 (w4.setCell ⟨w.heap.size, 3, none⟩ (.slice D4 dr.length d4)) (w.heap.size + 1) 50 (.slice D1 rg.length d1) (.slice D2 hm.length d2) (.slice D3 pd.length d3) (.slice D4 dr.length d4) (.int .i64 sq) (.int .i64 bs) (.int .i64 sf) (.int .i64 at_) (.int .i64 df) (.slice none 0 0) (.slice none 0 0) (.slice none 0 0) (.slice none 0 0) (.int .i64 0) (.int .i64 0) (.int .i64 0) (.int .i64 0) (.int .i64 0) (Q4.out.far (by simp) _)
  rw [h9]
  clear h9 x0 q0 p0 x1 q1 p1 x2 q2 p2 x3 q3 p3 x4 q4 p4 x5 q5 p5 x6 q6 p6 x7 q7 p7 x8 q8 p8 f1 l1 l2
  have r0 := hB9.get 0 rfl
  have r1 := hB9.get 1 rfl
  have r2 := hB9.get 2 rfl
  have r3 := hB9.get 3 rfl
  have r4 := hB9.get 4 rfl
  have r5 := hB9.get 5 rfl
  have r6 := hB9.get 6 rfl
  have r7 := hB9.get 7 rfl
  have r8 := hB9.get 8 rfl
  refine bodyPost_ret (v := .agg #[.slice D1 rg.length d1, .slice D2 hm.length d2, .slice D3 pd.length d3, .slice D4 dr.length d4, .int .i64 sq, .int .i64 bs, .int .i64 sf, .int .i64 at_, .int .i64 df]) (by simp [results, Tryz.results75, go_sem, r0, r1, r2, r3, r4, r5, r6, r7, r8]) rfl ⟨_, rfl, ⟨_, _, _, _, ⟨D1, d1, D2, d2, D3, d3, D4, d4, rfl, rfl, rfl, rfl, rfl⟩, own_more (ho9 _ _ _ _ _ _ (by omega) (own_sc (g := w.heap.size) P1_4'.out 3 (by omega) _)) (by omega), own_more (ho9 _ _ _ _ _ _ (by omega) (own_sc (g := w.heap.size) P2_4'.out 3 (by omega) _)) (by omega), own_more (ho9 _ _ _ _ _ _ (by omega) (own_sc (g := w.heap.size) P3_4'.out 3 (by omega) _)) (by omega), own_more (ho9 _ _ _ _ _ _ (by omega) (own_sc (g := w.heap.size) P4_4'.out 3 (by omega) _)) (by omega), dis_lt w1.heap.size hi1.out (fun k hk => by have := own_lo P2_4'.out k hk; omega), dis_lt w1.heap.size hi1.out (fun k hk => by have := own_lo P3_4'.out k hk; omega), dis_lt w1.heap.size hi1.out (fun k hk => by have := own_lo P4_4'.out k hk; omega), dis_lt w2.heap.size hi2.out (fun k hk => by have := own_lo P3_4'.out k hk; omega), dis_lt w2.heap.size hi2.out (fun k hk => by have := own_lo P4_4'.out k hk; omega), dis_lt w3.heap.size hi3.out (fun k hk => by have := own_lo P4_4'.out k hk; omega)⟩, ?_⟩
  exact hb9 _ _ (by omega) g4

/-- A write is done. -/
def wrB (a : List ByteArray × List ByteArray) (e : Int × ByteArray) : List ByteArray × List ByteArray := if e.1 < 6 then (a.1.set e.1.toNat e.2, a.2) else (a.1, a.2.set (e.1 - 6).toNat e.2)
def wrsB (rg hm : List ByteArray) (pd : List (Int × ByteArray)) (k : Nat) : List ByteArray × List ByteArray := (pd.take k).foldl wrB (rg, hm)
theorem wrs_0 (rg hm : List ByteArray) (pd : List (Int × ByteArray)) : wrsB rg hm pd 0 = (rg, hm) := by simp [wrsB]
theorem wrs_succ {rg hm : List ByteArray} {pd : List (Int × ByteArray)} {k : Nat} (hk : k < pd.length) : wrsB rg hm pd (k + 1) = wrB (wrsB rg hm pd k) pd[k] := by
  unfold wrsB; rw [List.take_succ_eq_append_getElem hk, List.foldl_append]; rfl
theorem wrB_len (a : List ByteArray × List ByteArray) (e : Int × ByteArray) : (wrB a e).1.length = a.1.length ∧ (wrB a e).2.length = a.2.length := by
  unfold wrB; split <;> simp
theorem wrs_len (rg hm : List ByteArray) (pd : List (Int × ByteArray)) : ∀ k, k ≤ pd.length → (wrsB rg hm pd k).1.length = rg.length ∧ (wrsB rg hm pd k).2.length = hm.length
  | 0, _ => by rw [wrs_0]; exact ⟨rfl, rfl⟩
  | k + 1, h => by
    rw [wrs_succ (by omega)]
    have h1 := wrs_len rg hm pd k (by omega)
    have h2 := wrB_len (wrsB rg hm pd k) (pd[k]'(by omega))
    exact ⟨h2.1.trans h1.1, h2.2.trans h1.2⟩
/-- The book behind its writes. -/
def flB (B : BookD) : BookD := ⟨(wrsB B.rg B.hm B.pd B.pd.length).1, (wrsB B.rg B.hm B.pd B.pd.length).2, [], B.dr, B.sq, if B.df = 0 then B.bs else B.df, B.sq, if B.df = 0 then B.at_ else 1 - B.at_, 0⟩
def zeroBk : BookD := ⟨[], [], [], [], 0, 0, 0, 0, 0⟩
noncomputable def flushP (B : BookD) : BookD × Bool := if bookOkB B = true then (flB B, true) else (zeroBk, false)
theorem flush_no {B : BookD} (h : bookOkB B = false) : flushP B = (zeroBk, false) := by unfold flushP; rw [if_neg (by rw [h]; simp)]
theorem flush_yes {B : BookD} (h : bookOkB B = true) : flushP B = (flB B, true) := by unfold flushP; rw [if_pos h]
theorem bk_is {B : BookD} (h : bookOkB B = true) : BookP B := (@decide_eq_true_iff _ (Classical.propDecidable _)).1 h
theorem flush_small {B : BookD} (sm : szBk B ≤ 1048576) {B' : BookD} {b : Bool} (h : flushP B = (B', b)) : BkSmall B' := by
  unfold flushP at h
  split at h
  · injection h with h1 _
    subst h1
    have hl := wrs_len B.rg B.hm B.pd B.pd.length (Nat.le_refl _)
    have h1 := szT_len B.rg
    have h2 := szT_len B.hm
    have h4 := szS_n B.dr
    unfold szBk at sm
    exact ⟨by show (wrsB B.rg B.hm B.pd B.pd.length).1.length ≤ _; omega, by show (wrsB B.rg B.hm B.pd B.pd.length).2.length ≤ _; omega, by simp [flB], by show B.dr.length ≤ _; omega⟩
  · injection h with h1 _
    subst h1
    exact ⟨by simp [zeroBk], by simp [zeroBk], by simp [zeroBk], by simp [zeroBk]⟩
theorem SS_set (l : List ByteArray) (k : Nat) (x : ByteArray) : SS (l.set k x) = (SS l).set k (.string x) := by
  unfold SS; rw [List.map_set]

set_option maxRecDepth 100000 in
set_option maxHeartbeats 4000000 in
theorem write_impl (G g1 c1 g2 c2 base : Nat) (cs : Array Value) (rg hm : List ByteArray) (e : Int × ByteArray) (he : inI e.1 0 7 = true) (w : World) (hG : Blk w G 50 cs) (hne : g1 ≠ g2)
    (hc0 : cs[0]? = some (.slice (some ⟨g1, 0, none⟩) 6 c1)) (hc1 : cs[1]? = some (.slice (some ⟨g2, 0, none⟩) 2 c2))
    (o1 : w.ownsRow base 9 1 (.slice (some ⟨g1, 0, none⟩) 6 c1) 6 (SS rg)) (o2 : w.ownsRow base 9 1 (.slice (some ⟨g2, 0, none⟩) 2 c2) 2 (SS hm)) :
    Calls Tryz.prog 85 #[.pointer (some ⟨G, 0, none⟩), .agg #[.int .i64 e.1, .string e.2]] w fun r w' => r = .returned (.tuple #[]) ∧ ∃ g, (g = g1 ∨ g = g2) ∧ w.grownBy w' (some g) ∧
      w'.ownsRow base 9 1 (.slice (some ⟨g1, 0, none⟩) 6 c1) 6 (SS (wrB (rg, hm) e).1) ∧ w'.ownsRow base 9 1 (.slice (some ⟨g2, 0, none⟩) 2 c2) 2 (SS (wrB (rg, hm) e).2) := by
  obtain ⟨x, t⟩ := e
  simp only at he ⊢
  obtain ⟨hx0, hx7⟩ := inI_t.1 he
  obtain ⟨k, rfl⟩ : ∃ k : Nat, x = (k : Int) := ⟨x.toNat, by omega⟩
  obtain ⟨W1, hW1⟩ : ∃ W, w.alloc (.cells #[.int .i64 (k : Int), .string t] 109) = W := ⟨_, rfl⟩
  have hb := Blk.new' w 109 #[.int .i64 (k : Int), .string t] w.heap.size
  have hG1 : Blk W1 G 50 cs := by rw [← hW1]; exact hG.alloc _
  have p1 : W1.ownsRow base 9 1 (.slice (some ⟨g1, 0, none⟩) 6 c1) 6 (SS rg) := by rw [← hW1]; exact o1.alloc _
  have p2 : W1.ownsRow base 9 1 (.slice (some ⟨g2, 0, none⟩) 2 c2) 2 (SS hm) := by rw [← hW1]; exact o2.alloc _
  rw [hW1] at hb
  have b0 := hb.get (x := .int .i64 (k : Int)) 0 rfl
  have b1 := hb.get (x := .string t) 1 rfl
  have lb := hb.lt
  have gw : ∀ g, w.grownBy W1 g := fun g => by rw [← hW1]; exact ⟨rfl, rfl, rfl, by simp, fun i hi _ => Below.heap_alloc w _ i hi⟩
  have lG := hG1.lt
  have HW1 := Lib.hid hW1
  clear hW1 he o1 o2 hG hb
  by_cases h6 : (k : Int) < 6
  · have hw : wrB (rg, hm) ((k : Int), t) = (rg.set k t, hm) := by unfold wrB; rw [if_pos h6]; simp
    have z0 := hG1.get 0 hc0
    have hcell := p1.cellAt k (by omega)
    have hlen : (SS rg).length = 6 * 1 := p1.1
    rw [List.getElem?_eq_getElem (by omega)] at hcell
    have f1 := own_frozen p1 k
    have q0 : (0 : Int) ≤ (k : Int) := by omega
    have q1 : (k : Int) < 6 := by omega
    have Hs := Lib.hid (own_set p1 k (.string t))
    have Hs2 := Lib.hid (p2.kept (only_sc (grown_refl W1 (some g1)) k (.string t)) (.inr (by simp [Value.ownBlock]; exact fun h => hne h.symm)))
    have Hg := Lib.hid (only_sc (gw (some g1)) k (.string t))
    have Hw := Lib.hid hw
    clear hw p1 p2 gw hG1
    go_enter Tryz.func85, Tryz.ntmps85
    go_wp2_with fail
    rw [HW1.out]
    go_still_tail 8, (by kernel_rfl)
    change wpList _ _ _ _ _ W1.drew
    go_wp2
    refine bodyPost_end (v := .tuple #[]) (by simp [results, Tryz.results85, go_sem]) rfl ⟨rfl, g1, .inl rfl, ?_, ?_, ?_⟩
    · exact ⟨Hg.out.os, Hg.out.tape, Hg.out.output, Hg.out.size, Hg.out.block⟩
    · rw [Hw.out, SS_set]; exact Hs.out
    · rw [Hw.out]; exact Hs2.out
  · obtain ⟨m, hm6⟩ : ∃ m : Nat, (k : Int) = (m : Int) + 6 := ⟨k - 6, by omega⟩
    have w7 : (k : Int) - 6 = (m : Int) := by omega
    have w6 : IntKind.i64.wrap ((k : Int) - 6) = (m : Int) := by rw [IntKind.wrap_i64]; omega
    have w5 : IntKind.i64.wrap (m : Int) = (m : Int) := by rw [IntKind.wrap_i64]; omega
    replace hm6 := Lib.hid hm6
    have hw : wrB (rg, hm) ((k : Int), t) = (rg, hm.set m t) := by unfold wrB; rw [if_neg h6]; show (rg, hm.set ((k : Int) - 6).toNat t) = _; rw [w7]; simp
    have z0 := hG1.get 1 hc1
    have hcell := p2.cellAt m (by have := hm6.out; omega)
    have hlen : (SS hm).length = 2 * 1 := p2.1
    rw [List.getElem?_eq_getElem (by omega)] at hcell
    have f1 := own_frozen p2 m
    have q0 : (0 : Int) ≤ (m : Int) := by omega
    have q1 : (m : Int) < 2 := by have := hm6.out; omega
    have Hs := Lib.hid (own_set p2 m (.string t))
    have Hs2 := Lib.hid (p1.kept (only_sc (grown_refl W1 (some g2)) m (.string t)) (.inr (by simp [Value.ownBlock]; exact fun h => hne h)))
    have Hg := Lib.hid (only_sc (gw (some g2)) m (.string t))
    have Hw := Lib.hid hw
    clear hw p1 p2 gw hG1
    go_enter Tryz.func85, Tryz.ntmps85
    go_wp2_with fail
    rw [HW1.out]
    go_still_tail 9, (by kernel_rfl)
    change wpList _ _ _ _ _ W1.drew
    go_wp2
    refine bodyPost_end (v := .tuple #[]) (by simp [results, Tryz.results85, go_sem]) rfl ⟨rfl, g2, .inr rfl, ?_, ?_, ?_⟩
    · exact ⟨Hg.out.os, Hg.out.tape, Hg.out.output, Hg.out.size, Hg.out.block⟩
    · rw [Hw.out]; exact Hs2.out
    · rw [Hw.out, SS_set]; exact Hs.out
theorem own_scN {w : World} {base n size : Nat} {e : TypeId} {v : Value} {xs : List Value} (h : w.ownsRow base e size v n xs) {g : Nat} (o : Nat) (hg : ∀ k, v.ownBlock = some k → k ≠ g) (u : Value) : (w.setCell ⟨g, o, none⟩ u).ownsRow base e size v n xs := by
  refine ⟨h.1, ?_⟩
  rcases h.2 with h2 | ⟨g', cap, cur, hv, hb, hh, r⟩
  · exact .inl h2
  · exact .inr ⟨g', cap, cur, hv, hb, (Below.heap_setCell w ⟨g, o, none⟩ u g' (hg g' (by rw [hv]; rfl))).trans hh, r⟩

/-- What a flush leaves: a book in new memory, and whether it is one. -/
def FlPost (w : World) (P : BookD × Bool) (e : Ending) (w' : World) : Prop := ∃ B' b v, P = (B', b) ∧ e = .returned (.tuple #[v, .bool b]) ∧ OwnBk w.heap.size v B' w'
theorem dis_n (v : Value) (n c : Nat) : Dis v (.slice none n c) := .inr (.inl rfl)
theorem zero_own (lo : Nat) (w : World) : OwnBk lo (.agg #[.slice none 0 0, .slice none 0 0, .slice none 0 0, .slice none 0 0, .int .i64 0, .int .i64 0, .int .i64 0, .int .i64 0, .int .i64 0]) zeroBk w :=
  ⟨_, _, _, _, ⟨none, 0, none, 0, none, 0, none, 0, rfl, rfl, rfl, rfl, rfl⟩, own_nilC _ _ _ _, own_nilC _ _ _ _, own_nilC _ _ _ _, own_nilC _ _ _ _, dis_n _ _ _, dis_n _ _ _, dis_n _ _ _, dis_n _ _ _, dis_n _ _ _, dis_n _ _ _⟩
theorem fl_len {B : BookD} (h1 : B.rg.length = 6) (h2 : B.hm.length = 2) : (flB B).rg.length = 6 ∧ (flB B).hm.length = 2 := by
  have hl := wrs_len B.rg B.hm B.pd B.pd.length (Nat.le_refl _)
  exact ⟨by show (wrsB B.rg B.hm B.pd B.pd.length).1.length = 6; omega, by show (wrsB B.rg B.hm B.pd B.pd.length).2.length = 2; omega⟩
/-- A flushed book's rows make it a book of one's own. -/
theorem fl_own {lo g1 c1 g2 c2 c4 : Nat} {v3 : Value} {A3' : Option Addr} {c3' : Nat} {A4 : Option Addr} {B : BookD} {w : World} (h1 : B.rg.length = 6) (h2 : B.hm.length = 2) (h3 : v3 = .slice A3' 0 c3')
    (p1 : w.ownsRow lo 9 1 (.slice (some ⟨g1, 0, none⟩) 6 c1) 6 (SS (flB B).rg)) (p2 : w.ownsRow lo 9 1 (.slice (some ⟨g2, 0, none⟩) 2 c2) 2 (SS (flB B).hm)) (p3 : w.ownsRow lo 109 2 v3 0 (RS [])) (p4 : w.ownsRow lo 72 4 (.slice A4 B.dr.length c4) B.dr.length (ES B.dr))
    (d12 : Dis (.slice (some ⟨g1, 0, none⟩) 6 c1) (.slice (some ⟨g2, 0, none⟩) 2 c2)) (d13 : Dis (.slice (some ⟨g1, 0, none⟩) 6 c1) v3) (d14 : Dis (.slice (some ⟨g1, 0, none⟩) 6 c1) (.slice A4 B.dr.length c4)) (d23 : Dis (.slice (some ⟨g2, 0, none⟩) 2 c2) v3) (d24 : Dis (.slice (some ⟨g2, 0, none⟩) 2 c2) (.slice A4 B.dr.length c4)) (d34 : Dis v3 (.slice A4 B.dr.length c4)) :
    OwnBk lo (.agg #[.slice (some ⟨g1, 0, none⟩) 6 c1, .slice (some ⟨g2, 0, none⟩) 2 c2, v3, .slice A4 B.dr.length c4, .int .i64 B.sq, .int .i64 (flB B).bs, .int .i64 B.sq, .int .i64 (flB B).at_, .int .i64 0]) (flB B) w := by
  obtain ⟨l1, l2⟩ := fl_len h1 h2
  refine ⟨_, _, v3, _, ⟨some ⟨g1, 0, none⟩, c1, some ⟨g2, 0, none⟩, c2, A3', c3', A4, c4, rfl, rfl, h3, rfl, ?_⟩, ?_, ?_, p3, p4, ?_, ?_, ?_, ?_, ?_, d34⟩
  · rw [l1, l2]; rfl
  · rw [l1]; exact p1
  · rw [l2]; exact p2
  · rw [l1, l2]; exact d12
  · rw [l1]; exact d13
  · rw [l1]; exact d14
  · rw [l2]; exact d23
  · rw [l2]; exact d24

theorem put9n (w7 : World) (b : Nat) (t : TypeId) (x0 x1 x2 x3 x4 x5 x6 x7 x8 y0 y1 y2 y3 y4 y5 y6 y7 y8 : Value) (hU : Blk w7 b t #[y0, y1, y2, y3, y4, y5, y6, y7, y8]) :
    ∃ w9, (((((((((w7.setCell ⟨b, 0, none⟩ x0).setCell ⟨b, 1, none⟩ x1).setCell ⟨b, 2, none⟩ x2).setCell ⟨b, 3, none⟩ x3).setCell ⟨b, 4, none⟩ x4).setCell ⟨b, 5, none⟩ x5).setCell ⟨b, 6, none⟩ x6).setCell ⟨b, 7, none⟩ x7).setCell ⟨b, 8, none⟩ x8) = w9 ∧ Blk w9 b t #[x0, x1, x2, x3, x4, x5, x6, x7, x8] ∧ w9.heap.size = w7.heap.size ∧ (∀ (B : Nat) (a : World), B ≤ b → Below B a w7 → Below B a w9) ∧ (∀ i, i ≠ b → w9.heap[i]? = w7.heap[i]?) :=
  ⟨_, rfl, (((((((((hU.put 0 x0 #[x0, y1, y2, y3, y4, y5, y6, y7, y8] rfl).put 1 x1 #[x0, x1, y2, y3, y4, y5, y6, y7, y8] rfl).put 2 x2 #[x0, x1, x2, y3, y4, y5, y6, y7, y8] rfl).put 3 x3 #[x0, x1, x2, x3, y4, y5, y6, y7, y8] rfl).put 4 x4 #[x0, x1, x2, x3, x4, y5, y6, y7, y8] rfl).put 5 x5 #[x0, x1, x2, x3, x4, x5, y6, y7, y8] rfl).put 6 x6 #[x0, x1, x2, x3, x4, x5, x6, y7, y8] rfl).put 7 x7 #[x0, x1, x2, x3, x4, x5, x6, x7, y8] rfl).put 8 x8 #[x0, x1, x2, x3, x4, x5, x6, x7, x8] rfl), by simp, fun B a hb h => (((((((((h.setCell (p := ⟨b, 0, none⟩) hb _).setCell (p := ⟨b, 1, none⟩) hb _).setCell (p := ⟨b, 2, none⟩) hb _).setCell (p := ⟨b, 3, none⟩) hb _).setCell (p := ⟨b, 4, none⟩) hb _).setCell (p := ⟨b, 5, none⟩) hb _).setCell (p := ⟨b, 6, none⟩) hb _).setCell (p := ⟨b, 7, none⟩) hb _).setCell (p := ⟨b, 8, none⟩) hb _), fun i hi => (Below.heap_setCell _ ⟨b, 8, none⟩ _ i hi).trans ((Below.heap_setCell _ ⟨b, 7, none⟩ _ i hi).trans ((Below.heap_setCell _ ⟨b, 6, none⟩ _ i hi).trans ((Below.heap_setCell _ ⟨b, 5, none⟩ _ i hi).trans ((Below.heap_setCell _ ⟨b, 4, none⟩ _ i hi).trans ((Below.heap_setCell _ ⟨b, 3, none⟩ _ i hi).trans ((Below.heap_setCell _ ⟨b, 2, none⟩ _ i hi).trans ((Below.heap_setCell _ ⟨b, 1, none⟩ _ i hi).trans ((Below.heap_setCell _ ⟨b, 0, none⟩ _ i hi).trans (rfl)))))))))⟩
theorem own_eqN {w w' : World} {base n size : Nat} {e : TypeId} {v : Value} {xs : List Value} (h : w.ownsRow base e size v n xs) (hk : ∀ k, v.ownBlock = some k → w'.heap[k]? = w.heap[k]?) : w'.ownsRow base e size v n xs := by
  refine ⟨h.1, ?_⟩
  rcases h.2 with h2 | ⟨g', cap, cur, hv, hbs, hh, r⟩
  · exact .inl h2
  · exact .inr ⟨g', cap, cur, hv, hbs, (hk g' (by rw [hv]; rfl)).trans hh, r⟩
theorem Blk.eqN {w w' : World} {g : Nat} {t : TypeId} {cs : Array Value} (h : Blk w g t cs) (hk : w'.heap[g]? = w.heap[g]?) : Blk w' g t cs := hk.trans h

set_option maxRecDepth 100000 in
set_option maxHeartbeats 2000000 in
theorem eqBk_len (v v' : Value) (B : BookD) (hl0 : B.rg.length ≤ 10000000 ∧ B.hm.length ≤ 10000000 ∧ B.pd.length ≤ 10000000 ∧ B.dr.length ≤ 10000000) (w : World) (h : IsBook w v B) (h' : IsBook w v' B) :
    Calls Tryz.prog 29 #[v, v'] w fun e w' => e = .returned (.bool true) ∧ Below w.heap.size w w' := by
  have hl := Lib.hid hl0
  obtain ⟨A1, c1, A2, c2, A3, c3, A4, c4, rfl, h⟩ := h
  obtain ⟨D1, d1, D2, d2, D3, d3, D4, d4, rfl, h'⟩ := h'
  obtain ⟨rg, hm, pd, dr, sq, bs, sf, at_, df⟩ := B
  simp only at h h' hl ⊢
  have H := Lib.hid h
  have H' := Lib.hid h'
  clear h h' hl0
  obtain ⟨W1, hW1⟩ : ∃ W1, (w.alloc (.cells #[.slice A1 rg.length c1, .slice A2 hm.length c2, .slice A3 pd.length c3, .slice A4 dr.length c4, .int .i64 sq, .int .i64 bs, .int .i64 sf, .int .i64 at_, .int .i64 df] 50)).alloc (.cells #[.slice D1 rg.length d1, .slice D2 hm.length d2, .slice D3 pd.length d3, .slice D4 dr.length d4, .int .i64 sq, .int .i64 bs, .int .i64 sf, .int .i64 at_, .int .i64 df] 50) = W1 := ⟨_, rfl⟩
  have B1 : Below w.heap.size w W1 := by rw [← hW1]; exact belA (belA (bel0 w) _) _
  have hV : Blk W1 w.heap.size 50 #[.slice A1 rg.length c1, .slice A2 hm.length c2, .slice A3 pd.length c3, .slice A4 dr.length c4, .int .i64 sq, .int .i64 bs, .int .i64 sf, .int .i64 at_, .int .i64 df] := by rw [← hW1]; exact (Blk.new' _ _ _ _ rfl).alloc _
  have hU : Blk W1 (w.heap.size + 1) 50 #[.slice D1 rg.length d1, .slice D2 hm.length d2, .slice D3 pd.length d3, .slice D4 dr.length d4, .int .i64 sq, .int .i64 bs, .int .i64 sf, .int .i64 at_, .int .i64 df] := by rw [← hW1]; exact Blk.new' _ _ _ _ (by simp)
  have HW1 := Lib.hid hW1
  have HV := Lib.hid hV
  have HU := Lib.hid hU
  clear hW1 hV hU
  go_enter Tryz.func29, Tryz.ntmps29
  go_wp2_with fail
  rw [HW1.out]
  refine (eqStringS_self A1 D1 rg.length c1 d1 rg hl.out.1 _ (H.out.next B1).1 (H'.out.next B1).1).mono ?_
  rintro e w2 ⟨rfl, hb2⟩
  have x1 := keep1 hb2 (HV.out.get 1 rfl) (Nat.le_refl _)
  have y1 := keep1 hb2 (HU.out.get 1 rfl) (Nat.le_refl _)
  go_wp2_with fail
  refine (eqStringS_self A2 D2 hm.length c2 d2 hm hl.out.2.1 _ (H.out.next (belN B1 hb2)).2.1 (H'.out.next (belN B1 hb2)).2.1).mono ?_
  rintro e w3 ⟨rfl, hb3⟩
  have b3 := hb2.trans (hb3.mono hb2.size)
  clear x1 y1
  have x1 := keep1 b3 (HV.out.get 2 rfl) (Nat.le_refl _)
  have y1 := keep1 b3 (HU.out.get 2 rfl) (Nat.le_refl _)
  go_wp2_with fail
  refine (eqWriteS_self A3 D3 pd.length c3 d3 pd hl.out.2.2.1 _ (H.out.next (belN B1 b3)).2.2.1 (H'.out.next (belN B1 b3)).2.2.1).mono ?_
  rintro e w4 ⟨rfl, hb4⟩
  have b4 := b3.trans (hb4.mono b3.size)
  clear x1 y1
  have x1 := keep1 b4 (HV.out.get 3 rfl) (Nat.le_refl _)
  have y1 := keep1 b4 (HU.out.get 3 rfl) (Nat.le_refl _)
  go_wp2_with fail
  refine (eqEntS_self A4 D4 dr.length c4 d4 dr hl.out.2.2.2 _ (H.out.next (belN B1 b4)).2.2.2 (H'.out.next (belN B1 b4)).2.2.2).mono ?_
  rintro e w5 ⟨rfl, hb5⟩
  have b5 := b4.trans (hb5.mono b4.size)
  clear x1 y1
  have x4 := keep1 b5 (HV.out.get 4 rfl) (Nat.le_refl _)
  have x5 := keep1 b5 (HV.out.get 5 rfl) (Nat.le_refl _)
  have x6 := keep1 b5 (HV.out.get 6 rfl) (Nat.le_refl _)
  have x7 := keep1 b5 (HV.out.get 7 rfl) (Nat.le_refl _)
  have x8 := keep1 b5 (HV.out.get 8 rfl) (Nat.le_refl _)
  have y4 := keep1 b5 (HU.out.get 4 rfl) (Nat.le_refl _)
  have y5 := keep1 b5 (HU.out.get 5 rfl) (Nat.le_refl _)
  have y6 := keep1 b5 (HU.out.get 6 rfl) (Nat.le_refl _)
  have y7 := keep1 b5 (HU.out.get 7 rfl) (Nat.le_refl _)
  have y8 := keep1 b5 (HU.out.get 8 rfl) (Nat.le_refl _)
  go_wp2
  go_ret
  exact ⟨rfl, belN B1 b5⟩

set_option maxRecDepth 100000 in
set_option maxHeartbeats 4000000 in
theorem toBk_own (v : Value) (B : BookD) (sm : szBk B ≤ 1048576) (w : World) (h : IsBook w v B) :
    Calls Tryz.prog 27 #[v] w fun e w' => ∃ v', e = .returned v' ∧ OwnBk w.heap.size v' B w' ∧ Below w.heap.size w w' := by
  have hl := Lib.hid (bk_len sm)
  obtain ⟨A1, c1, A2, c2, A3, c3, A4, c4, rfl, h⟩ := h
  obtain ⟨rg, hm, pd, dr, sq, bs, sf, at_, df⟩ := B
  simp only at h hl ⊢
  have H := Lib.hid h
  clear h sm
  go_enter Tryz.func27, Tryz.ntmps27
  go_wp2_with fail
  obtain ⟨W1, hW1⟩ : ∃ W1, ((w.alloc (.cells #[.slice A1 rg.length c1, .slice A2 hm.length c2, .slice A3 pd.length c3, .slice A4 dr.length c4, .int .i64 sq, .int .i64 bs, .int .i64 sf, .int .i64 at_, .int .i64 df] 45)).alloc (.cells #[.slice none 0 0, .slice none 0 0, .slice none 0 0, .slice none 0 0, .int .i64 0, .int .i64 0, .int .i64 0, .int .i64 0, .int .i64 0] 50)).alloc (.cells #[.slice none 0 0, .slice none 0 0, .slice none 0 0, .slice none 0 0, .int .i64 0, .int .i64 0, .int .i64 0, .int .i64 0, .int .i64 0] 50) = W1 := ⟨_, rfl⟩
  have B1 : Below w.heap.size w W1 := by rw [← hW1]; exact belA (belA (belA (bel0 w) _) _) _
  have S1 : W1.heap.size = w.heap.size + 3 := by rw [← hW1]; simp
  have hV1 : Blk W1 w.heap.size 45 #[.slice A1 rg.length c1, .slice A2 hm.length c2, .slice A3 pd.length c3, .slice A4 dr.length c4, .int .i64 sq, .int .i64 bs, .int .i64 sf, .int .i64 at_, .int .i64 df] := by rw [← hW1]; exact ((Blk.new' _ _ _ _ rfl).alloc _).alloc _
  have hR1 : Blk W1 (w.heap.size + 1) 50 #[.slice none 0 0, .slice none 0 0, .slice none 0 0, .slice none 0 0, .int .i64 0, .int .i64 0, .int .i64 0, .int .i64 0, .int .i64 0] := by rw [← hW1]; exact (Blk.new' _ _ _ _ (by simp)).alloc _
  have hO1 : Blk W1 (w.heap.size + 2) 50 #[.slice none 0 0, .slice none 0 0, .slice none 0 0, .slice none 0 0, .int .i64 0, .int .i64 0, .int .i64 0, .int .i64 0, .int .i64 0] := by rw [← hW1]; exact Blk.new' _ _ _ _ (by simp)
  rw [hW1]
  clear hW1
  refine (toStringS_any A1 rg.length c1 rg hl.out.1 W1 ((H.out.next B1).1)).mono ?_
  rintro e w1 ⟨rfl, hown, hb⟩
  rw [S1] at hown ⊢
  have b1 := belN B1 hb
  have hV1' := hV1.below hb hV1.lt
  have hR1' := hR1.below hb hR1.lt
  have hO1' := hO1.below hb hO1.lt
  have o0_1' := Lib.hid hown
  clear hown hb hV1 hR1 hO1 
  have HV := Lib.hid hV1'
  have HR := Lib.hid hR1'
  have HO := Lib.hid hO1'
  have lO := hO1'.lt
  have fO := hO1'.frozen 0
  have x1 := hV1'.get 1 rfl
  have z1 := hO1'.get 0 rfl
  clear hV1' hR1' hO1'
  go_wp2_with fail
  obtain ⟨W2, hW2⟩ : ∃ W, w1.setCell ⟨w.heap.size + 2, 0, none⟩ (.slice (some ⟨w.heap.size + 3, 0, none⟩) rg.length rg.length) = W := ⟨_, rfl⟩
  have B2 : Below w.heap.size w W2 := by rw [← hW2]; exact belC b1 _ _ (by omega) _
  have hV2 : Blk W2 w.heap.size 45 #[.slice A1 rg.length c1, .slice A2 hm.length c2, .slice A3 pd.length c3, .slice A4 dr.length c4, .int .i64 sq, .int .i64 bs, .int .i64 sf, .int .i64 at_, .int .i64 df] := by rw [← hW2]; exact HV.out.far (by simp) _
  have hR2 : Blk W2 (w.heap.size + 1) 50 #[.slice none 0 0, .slice none 0 0, .slice none 0 0, .slice none 0 0, .int .i64 0, .int .i64 0, .int .i64 0, .int .i64 0, .int .i64 0] := by rw [← hW2]; exact HR.out.far (by simp) _
  have hO2 : Blk W2 (w.heap.size + 2) 50 #[.slice (some ⟨w.heap.size + 3, 0, none⟩) rg.length rg.length, .slice none 0 0, .slice none 0 0, .slice none 0 0, .int .i64 0, .int .i64 0, .int .i64 0, .int .i64 0, .int .i64 0] := by rw [← hW2]; exact HO.out.put 0 _ _ rfl
  have o0_2 := Lib.hid (hW2 ▸ own_far o0_1'.out (p := ⟨w.heap.size + 2, 0, none⟩) (u := .slice (some ⟨w.heap.size + 3, 0, none⟩) rg.length rg.length) (by simp; try omega))
  rw [hW2]
  clear hW2 x1 z1 HV HR HO lO fO b1 o0_1'
  refine (toStringS_any A2 hm.length c2 hm hl.out.2.1 W2 ((H.out.next B2).2.1)).mono ?_
  rintro e w2 ⟨rfl, hown, hb⟩
  obtain ⟨g2, hg2⟩ : ∃ g, W2.heap.size = g := ⟨_, rfl⟩
  have hs2 := B2.size
  rw [hg2] at hown hs2 ⊢
  have i2 := Lib.hid (show w.heap.size + 3 < g2 by have h := own_hi o0_2.out _ rfl; rw [hg2] at h; exact h)
  have b2 := belN B2 hb
  have hV2' := hV2.below hb hV2.lt
  have hR2' := hR2.below hb hR2.lt
  have hO2' := hO2.below hb hO2.lt
  have o0_2' := Lib.hid (own_below o0_2.out hb (Nat.le_refl _))
  have o1_2' := Lib.hid hown
  have hlt2 : w.heap.size + 3 ≤ g2 := by have := hO2.lt; rw [hg2] at this; omega
  clear hown hb hV2 hR2 hO2 o0_2
  have HV := Lib.hid hV2'
  have HR := Lib.hid hR2'
  have HO := Lib.hid hO2'
  have lO := hO2'.lt
  have fO := hO2'.frozen 1
  have x1 := hV2'.get 2 rfl
  have z1 := hO2'.get 1 rfl
  clear hV2' hR2' hO2'
  go_wp2_with fail
  obtain ⟨W3, hW3⟩ : ∃ W, w2.setCell ⟨w.heap.size + 2, 1, none⟩ (.slice (some ⟨g2, 0, none⟩) hm.length hm.length) = W := ⟨_, rfl⟩
  have B3 : Below w.heap.size w W3 := by rw [← hW3]; exact belC b2 _ _ (by omega) _
  have hV3 : Blk W3 w.heap.size 45 #[.slice A1 rg.length c1, .slice A2 hm.length c2, .slice A3 pd.length c3, .slice A4 dr.length c4, .int .i64 sq, .int .i64 bs, .int .i64 sf, .int .i64 at_, .int .i64 df] := by rw [← hW3]; exact HV.out.far (by simp) _
  have hR3 : Blk W3 (w.heap.size + 1) 50 #[.slice none 0 0, .slice none 0 0, .slice none 0 0, .slice none 0 0, .int .i64 0, .int .i64 0, .int .i64 0, .int .i64 0, .int .i64 0] := by rw [← hW3]; exact HR.out.far (by simp) _
  have hO3 : Blk W3 (w.heap.size + 2) 50 #[.slice (some ⟨w.heap.size + 3, 0, none⟩) rg.length rg.length, .slice (some ⟨g2, 0, none⟩) hm.length hm.length, .slice none 0 0, .slice none 0 0, .int .i64 0, .int .i64 0, .int .i64 0, .int .i64 0, .int .i64 0] := by rw [← hW3]; exact HO.out.put 1 _ _ rfl
  have o0_3 := Lib.hid (hW3 ▸ own_far o0_2'.out (p := ⟨w.heap.size + 2, 1, none⟩) (u := .slice (some ⟨g2, 0, none⟩) hm.length hm.length) (by simp; try omega))
  have o1_3 := Lib.hid (hW3 ▸ own_far o1_2'.out (p := ⟨w.heap.size + 2, 1, none⟩) (u := .slice (some ⟨g2, 0, none⟩) hm.length hm.length) (by simp; try omega))
  rw [hW3]
  clear hW3 x1 z1 HV HR HO lO fO b2 o0_2' o1_2'
  refine (toWriteS_any A3 pd.length c3 pd hl.out.2.2.1 W3 ((H.out.next B3).2.2.1)).mono ?_
  rintro e w3 ⟨rfl, hown, hb⟩
  obtain ⟨g3, hg3⟩ : ∃ g, W3.heap.size = g := ⟨_, rfl⟩
  have hs3 := B3.size
  rw [hg3] at hown hs3 ⊢
  have i3 := Lib.hid (show g2 < g3 by have h := own_hi o1_3.out _ rfl; rw [hg3] at h; exact h)
  have b3 := belN B3 hb
  have hV3' := hV3.below hb hV3.lt
  have hR3' := hR3.below hb hR3.lt
  have hO3' := hO3.below hb hO3.lt
  have o0_3' := Lib.hid (own_below o0_3.out hb (Nat.le_refl _))
  have o1_3' := Lib.hid (own_below o1_3.out hb (Nat.le_refl _))
  have o2_3' := Lib.hid hown
  have hlt3 : w.heap.size + 3 ≤ g3 := by have := hO3.lt; rw [hg3] at this; omega
  clear hown hb hV3 hR3 hO3 o0_3 o1_3
  have HV := Lib.hid hV3'
  have HR := Lib.hid hR3'
  have HO := Lib.hid hO3'
  have lO := hO3'.lt
  have fO := hO3'.frozen 2
  have x1 := hV3'.get 3 rfl
  have z1 := hO3'.get 2 rfl
  clear hV3' hR3' hO3'
  go_wp2_with fail
  obtain ⟨W4, hW4⟩ : ∃ W, w3.setCell ⟨w.heap.size + 2, 2, none⟩ (.slice (some ⟨g3, 0, none⟩) pd.length pd.length) = W := ⟨_, rfl⟩
  have B4 : Below w.heap.size w W4 := by rw [← hW4]; exact belC b3 _ _ (by omega) _
  have hV4 : Blk W4 w.heap.size 45 #[.slice A1 rg.length c1, .slice A2 hm.length c2, .slice A3 pd.length c3, .slice A4 dr.length c4, .int .i64 sq, .int .i64 bs, .int .i64 sf, .int .i64 at_, .int .i64 df] := by rw [← hW4]; exact HV.out.far (by simp) _
  have hR4 : Blk W4 (w.heap.size + 1) 50 #[.slice none 0 0, .slice none 0 0, .slice none 0 0, .slice none 0 0, .int .i64 0, .int .i64 0, .int .i64 0, .int .i64 0, .int .i64 0] := by rw [← hW4]; exact HR.out.far (by simp) _
  have hO4 : Blk W4 (w.heap.size + 2) 50 #[.slice (some ⟨w.heap.size + 3, 0, none⟩) rg.length rg.length, .slice (some ⟨g2, 0, none⟩) hm.length hm.length, .slice (some ⟨g3, 0, none⟩) pd.length pd.length, .slice none 0 0, .int .i64 0, .int .i64 0, .int .i64 0, .int .i64 0, .int .i64 0] := by rw [← hW4]; exact HO.out.put 2 _ _ rfl
  have o0_4 := Lib.hid (hW4 ▸ own_far o0_3'.out (p := ⟨w.heap.size + 2, 2, none⟩) (u := .slice (some ⟨g3, 0, none⟩) pd.length pd.length) (by simp; try omega))
  have o1_4 := Lib.hid (hW4 ▸ own_far o1_3'.out (p := ⟨w.heap.size + 2, 2, none⟩) (u := .slice (some ⟨g3, 0, none⟩) pd.length pd.length) (by simp; try omega))
  have o2_4 := Lib.hid (hW4 ▸ own_far o2_3'.out (p := ⟨w.heap.size + 2, 2, none⟩) (u := .slice (some ⟨g3, 0, none⟩) pd.length pd.length) (by simp; try omega))
  rw [hW4]
  clear hW4 x1 z1 HV HR HO lO fO b3 o0_3' o1_3' o2_3'
  refine (toEntS_any A4 dr.length c4 dr hl.out.2.2.2 W4 ((H.out.next B4).2.2.2)).mono ?_
  rintro e w4 ⟨rfl, hown, hb⟩
  obtain ⟨g4, hg4⟩ : ∃ g, W4.heap.size = g := ⟨_, rfl⟩
  have hs4 := B4.size
  rw [hg4] at hown hs4 ⊢
  have i4 := Lib.hid (show g3 < g4 by have h := own_hi o2_4.out _ rfl; rw [hg4] at h; exact h)
  have b4 := belN B4 hb
  have hV4' := hV4.below hb hV4.lt
  have hR4' := hR4.below hb hR4.lt
  have hO4' := hO4.below hb hO4.lt
  have o0_4' := Lib.hid (own_below o0_4.out hb (Nat.le_refl _))
  have o1_4' := Lib.hid (own_below o1_4.out hb (Nat.le_refl _))
  have o2_4' := Lib.hid (own_below o2_4.out hb (Nat.le_refl _))
  have o3_4' := Lib.hid hown
  have hlt4 : w.heap.size + 3 ≤ g4 := by have := hO4.lt; rw [hg4] at this; omega
  clear hown hb hV4 hR4 hO4 o0_4 o1_4 o2_4
  have HV := Lib.hid hV4'
  have HR := Lib.hid hR4'
  have HO := Lib.hid hO4'
  have lO := hO4'.lt
  have fO := hO4'.frozen 3
  have v4 := hV4'.get 4 rfl
  have v5 := hV4'.get 5 rfl
  have v6 := hV4'.get 6 rfl
  have v7 := hV4'.get 7 rfl
  have v8 := hV4'.get 8 rfl
  have o0 := hO4'.get 0 rfl
  have f0 := hO4'.frozen 0
  have r0 := hR4'.get 0 rfl
  have q0 := hR4'.frozen 0
  have o1 := hO4'.get 1 rfl
  have f1 := hO4'.frozen 1
  have r1 := hR4'.get 1 rfl
  have q1 := hR4'.frozen 1
  have o2 := hO4'.get 2 rfl
  have f2 := hO4'.frozen 2
  have r2 := hR4'.get 2 rfl
  have q2 := hR4'.frozen 2
  have o3 := hO4'.get 3 rfl
  have f3 := hO4'.frozen 3
  have r3 := hR4'.get 3 rfl
  have q3 := hR4'.frozen 3
  have o4 := hO4'.get 4 rfl
  have f4 := hO4'.frozen 4
  have r4 := hR4'.get 4 rfl
  have q4 := hR4'.frozen 4
  have o5 := hO4'.get 5 rfl
  have f5 := hO4'.frozen 5
  have r5 := hR4'.get 5 rfl
  have q5 := hR4'.frozen 5
  have o6 := hO4'.get 6 rfl
  have f6 := hO4'.frozen 6
  have r6 := hR4'.get 6 rfl
  have q6 := hR4'.frozen 6
  have o7 := hO4'.get 7 rfl
  have f7 := hO4'.frozen 7
  have r7 := hR4'.get 7 rfl
  have q7 := hR4'.frozen 7
  have o8 := hO4'.get 8 rfl
  have f8 := hO4'.frozen 8
  have r8 := hR4'.get 8 rfl
  have q8 := hR4'.frozen 8
  have lR := hR4'.lt
  clear hV4' hR4' hO4' HV HR HO
  go_wp2
  refine bodyPost_ret (v := .agg #[.slice (some ⟨w.heap.size + 3, 0, none⟩) rg.length rg.length, .slice (some ⟨g2, 0, none⟩) hm.length hm.length, .slice (some ⟨g3, 0, none⟩) pd.length pd.length, .slice (some ⟨g4, 0, none⟩) dr.length dr.length, .int .i64 sq, .int .i64 bs, .int .i64 sf, .int .i64 at_, .int .i64 df]) (by simp [results, Tryz.results27, go_sem, r0, r1, r2, r3, r4, r5, r6, r7, r8]) rfl ⟨_, rfl, ⟨_, _, _, _, ⟨_, _, _, _, _, _, _, _, rfl, rfl, rfl, rfl, rfl⟩, own_more (base := w.heap.size + 3) ?_ (by omega), own_more (base := g2) ?_ (by have := i2.out; have := i3.out; have := i4.out; omega), own_more (base := g3) ?_ (by have := i2.out; have := i3.out; have := i4.out; omega), own_more (base := g4) ?_ (by have := i2.out; have := i3.out; have := i4.out; omega), ?_, ?_, ?_, ?_, ?_, ?_⟩, ?_⟩
  · exact (own_far (own_far (own_far (own_far (own_far (own_far (own_far (own_far (own_far (own_far (own_far (own_far (own_far (own_far (own_far (o0_4'.out) (by simp; try omega)) (by simp; try omega)) (by simp; try omega)) (by simp; try omega)) (by simp; try omega)) (by simp; try omega)) (by simp; try omega)) (by simp; try omega)) (by simp; try omega)) (by simp; try omega)) (by simp; try omega)) (by simp; try omega)) (by simp; try omega)) (by simp; try omega)) (by simp; try omega))
  · exact (own_far (own_far (own_far (own_far (own_far (own_far (own_far (own_far (own_far (own_far (own_far (own_far (own_far (own_far (own_far (o1_4'.out) (by simp; try omega)) (by simp; try omega)) (by simp; try omega)) (by simp; try omega)) (by simp; try omega)) (by simp; try omega)) (by simp; try omega)) (by simp; try omega)) (by simp; try omega)) (by simp; try omega)) (by simp; try omega)) (by simp; try omega)) (by simp; try omega)) (by simp; try omega)) (by simp; try omega))
  · exact (own_far (own_far (own_far (own_far (own_far (own_far (own_far (own_far (own_far (own_far (own_far (own_far (own_far (own_far (own_far (o2_4'.out) (by simp; try omega)) (by simp; try omega)) (by simp; try omega)) (by simp; try omega)) (by simp; try omega)) (by simp; try omega)) (by simp; try omega)) (by simp; try omega)) (by simp; try omega)) (by simp; try omega)) (by simp; try omega)) (by simp; try omega)) (by simp; try omega)) (by simp; try omega)) (by simp; try omega))
  · exact (own_far (own_far (own_far (own_far (own_far (own_far (own_far (own_far (own_far (own_far (own_far (own_far (own_far (own_far (own_far (o3_4'.out) (by simp; try omega)) (by simp; try omega)) (by simp; try omega)) (by simp; try omega)) (by simp; try omega)) (by simp; try omega)) (by simp; try omega)) (by simp; try omega)) (by simp; try omega)) (by simp; try omega)) (by simp; try omega)) (by simp; try omega)) (by simp; try omega)) (by simp; try omega)) (by simp; try omega))
  · exact .inr (.inr (by have := i2.out; have := i3.out; have := i4.out; simp [Value.ownBlock]; omega))
  · exact .inr (.inr (by have := i2.out; have := i3.out; have := i4.out; simp [Value.ownBlock]; omega))
  · exact .inr (.inr (by have := i2.out; have := i3.out; have := i4.out; simp [Value.ownBlock]; omega))
  · exact .inr (.inr (by have := i2.out; have := i3.out; have := i4.out; simp [Value.ownBlock]; omega))
  · exact .inr (.inr (by have := i2.out; have := i3.out; have := i4.out; simp [Value.ownBlock]; omega))
  · exact .inr (.inr (by have := i2.out; have := i3.out; have := i4.out; simp [Value.ownBlock]; omega))
  · exact belC (belC (belC (belC (belC (belC (belC (belC (belC (belC (belC (belC (belC (belC (belC (b4) _ _ (by omega) _) _ _ (by omega) _) _ _ (by omega) _) _ _ (by omega) _) _ _ (by omega) _) _ _ (by omega) _) _ _ (by omega) _) _ _ (by omega) _) _ _ (by omega) _) _ _ (by omega) _) _ _ (by omega) _) _ _ (by omega) _) _ _ (by omega) _) _ _ (by omega) _) _ _ (by omega) _

theorem own_bk_in {lo : Nat} {v : Value} {B : BookD} {w : World} (h : OwnBk lo v B w) : InAt (OwnBk lo v B) lo w.heap.size w := by
  obtain ⟨v1, v2, v3, v4, h0, h1, h2, h3, h4, hd⟩ := h
  exact BkH.inAt ⟨v1, v2, v3, v4, h0, own_in h1, own_in h2, own_in h3, own_in h4, hd⟩
theorem toBk_in (v : Value) (B : BookD) (sm : szBk B ≤ 1048576) (w : World) (h : IsBook w v B) :
    Calls Tryz.prog 27 #[v] w fun e w' => ∃ v' lo up, e = .returned v' ∧ w.heap.size ≤ lo ∧ InAt (OwnBk lo v' B) lo up w' ∧ Below w.heap.size w w' :=
  (toBk_own v B sm w h).mono fun _ _ ⟨v', he, hO, hb⟩ => ⟨v', w.heap.size, _, he, Nat.le_refl _, own_bk_in hO, hb⟩

end Go.Proofs.YthdbomkddpnhaaaGreatDoor
