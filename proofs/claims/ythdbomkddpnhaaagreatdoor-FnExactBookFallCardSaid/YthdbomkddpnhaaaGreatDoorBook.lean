/- Books in memory: sizes, copies, equality, what a law's argument of a book is. -/
import Derived.Test.YthdbomkddpnhaaaGreatDoorWrites
import Derived.Test.YthdbomkddpnhaaaGreatDoorFrameV
namespace Go.Proofs.YthdbomkddpnhaaaGreatDoor
open Go Go.RowKit Go.WideShapes Go.ChangeShapes Go.Deep

structure BookD where
  rg : List ByteArray
  hm : List ByteArray
  pd : List (Int × ByteArray)
  dr : List EntD
  sq : Int
  bs : Int
  sf : Int
  at_ : Int
  df : Int
/-- The cells of a book. -/
def BookD.cells (B : BookD) (A1 : Option Addr) (c1 : Nat) (A2 : Option Addr) (c2 : Nat) (A3 : Option Addr) (c3 : Nat) (A4 : Option Addr) (c4 : Nat) : Array Value :=
  #[.slice A1 B.rg.length c1, .slice A2 B.hm.length c2, .slice A3 B.pd.length c3, .slice A4 B.dr.length c4, .int .i64 B.sq, .int .i64 B.bs, .int .i64 B.sf, .int .i64 B.at_, .int .i64 B.df]
def BookAt (w : World) (N : Nat) (B : BookD) (A1 A2 A3 A4 : Option Addr) : Prop :=
  Reads w N 1 A1 B.rg.length (SS B.rg) ∧ Reads w N 1 A2 B.hm.length (SS B.hm) ∧ Reads w N 2 A3 B.pd.length (RS B.pd) ∧ Reads w N 4 A4 B.dr.length (ES B.dr)
theorem BookAt.next {w w' : World} {B : BookD} {A1 A2 A3 A4 : Option Addr} (h : BookAt w w.heap.size B A1 A2 A3 A4) (hb : Below w.heap.size w w') : BookAt w' w'.heap.size B A1 A2 A3 A4 :=
  ⟨(h.1.below hb).more hb.size, (h.2.1.below hb).more hb.size, (h.2.2.1.below hb).more hb.size, (h.2.2.2.below hb).more hb.size⟩
/-- A value is this book. -/
def IsBook (w : World) (v : Value) (B : BookD) : Prop := ∃ A1 c1 A2 c2 A3 c3 A4 c4, v = .agg #[.slice A1 B.rg.length c1, .slice A2 B.hm.length c2, .slice A3 B.pd.length c3, .slice A4 B.dr.length c4, .int .i64 B.sq, .int .i64 B.bs, .int .i64 B.sf, .int .i64 B.at_, .int .i64 B.df] ∧ BookAt w w.heap.size B A1 A2 A3 A4
theorem IsBook.next {w w' : World} {v : Value} {B : BookD} (h : IsBook w v B) (hb : Below w.heap.size w w') : IsBook w' v B := by
  obtain ⟨A1, c1, A2, c2, A3, c3, A4, c4, h1, h2⟩ := h
  exact ⟨A1, c1, A2, c2, A3, c3, A4, c4, h1, h2.next hb⟩
def szBk (B : BookD) : Nat := szT B.rg + szT B.hm + szW B.pd + szS B.dr
def BookBig (B : BookD) : Prop := (B.rg.length ≤ 9223372036854775807 ∧ ∀ e ∈ B.rg, e.size ≤ 9223372036854775807) ∧ (B.hm.length ≤ 9223372036854775807 ∧ ∀ e ∈ B.hm, e.size ≤ 9223372036854775807) ∧ (B.pd.length ≤ 9223372036854775807 ∧ ∀ e ∈ B.pd, e.2.size ≤ 9223372036854775807) ∧ (B.dr.length ≤ 9223372036854775807 ∧ ∀ e ∈ B.dr, e.s.size ≤ 9223372036854775807)
theorem bk_len {B : BookD} (sm : szBk B ≤ 1048576) : B.rg.length ≤ 10000000 ∧ B.hm.length ≤ 10000000 ∧ B.pd.length ≤ 10000000 ∧ B.dr.length ≤ 10000000 := by
  have h1 := szT_len B.rg
  have h2 := szT_len B.hm
  have h3 := szW_len B.pd
  have h4 := szS_n B.dr
  unfold szBk at sm; omega

set_option maxRecDepth 100000 in
set_option maxHeartbeats 1000000 in
theorem szBk_is (v : Value) (B : BookD) (hz : BookBig B) (_hn : True) (k : Int) (h0 : 0 ≤ k) (hk : k ≤ 1048576) (w : World) (h : IsBook w v B) :
    Calls Tryz.prog 25 #[v, .int .i64 k] w fun e w' => ∃ r : Int, e = .returned (.int .i64 r) ∧ (r < 0 ∨ r = k - szBk B) ∧ Below w.heap.size w w' := by
  obtain ⟨A1, c1, A2, c2, A3, c3, A4, c4, rfl, h⟩ := h
  obtain ⟨rg, hm, pd, dr, sq, bs, sf, at_, df⟩ := B
  simp only at h ⊢
  have H := Lib.hid h
  have Hz := Lib.hid hz
  clear h hz
  obtain ⟨W1, hW1⟩ : ∃ W1, w.alloc (.cells #[.slice A1 rg.length c1, .slice A2 hm.length c2, .slice A3 pd.length c3, .slice A4 dr.length c4, .int .i64 sq, .int .i64 bs, .int .i64 sf, .int .i64 at_, .int .i64 df] 45) = W1 := ⟨_, rfl⟩
  have B1 : Below w.heap.size w W1 := by rw [← hW1]; exact belA (bel0 w) _
  have hV : Blk W1 w.heap.size 45 #[.slice A1 rg.length c1, .slice A2 hm.length c2, .slice A3 pd.length c3, .slice A4 dr.length c4, .int .i64 sq, .int .i64 bs, .int .i64 sf, .int .i64 at_, .int .i64 df] := by rw [← hW1]; exact Blk.new' _ _ _ _ rfl
  have HW1 := Lib.hid hW1
  have C1 := Lib.hid (hV.get 1 rfl)
  have C2 := Lib.hid (hV.get 2 rfl)
  have C3 := Lib.hid (hV.get 3 rfl)
  clear hW1 hV
  go_enter Tryz.func25, Tryz.ntmps25
  go_wp2_with fail
  rw [HW1.out]
  refine (szStringS_any A1 rg.length c1 rg Hz.out.1.2 Hz.out.1.1 k h0 hk _ (H.out.next B1).1).mono ?_
  rintro e w2 ⟨r1, rfl, hr1, hb2⟩
  by_cases n1 : r1 < 0
  · go_wp2
    go_ret
    exact ⟨_, rfl, .inl (by omega), belN B1 hb2⟩
  have b2 := hb2
  have x1 := keep1 b2 C1.out (Nat.le_refl _)
  go_wp2_with fail
  refine (szStringS_any A2 hm.length c2 hm Hz.out.2.1.2 Hz.out.2.1.1 r1 (by omega) (by omega) _ (H.out.next (belN B1 b2)).2.1).mono ?_
  rintro e w3 ⟨r2, rfl, hr2, hb3⟩
  by_cases n2 : r2 < 0
  · go_wp2
    go_ret
    exact ⟨_, rfl, .inl (by omega), belN (belN B1 b2) hb3⟩
  have b3 := b2.trans (hb3.mono b2.size)
  clear x1
  have x2 := keep1 b3 C2.out (Nat.le_refl _)
  go_wp2_with fail
  refine (szWriteS_any A3 pd.length c3 pd Hz.out.2.2.1.2 Hz.out.2.2.1.1 r2 (by omega) (by omega) _ (H.out.next (belN B1 b3)).2.2.1).mono ?_
  rintro e w4 ⟨r3, rfl, hr3, hb4⟩
  by_cases n3 : r3 < 0
  · go_wp2
    go_ret
    exact ⟨_, rfl, .inl (by omega), belN (belN B1 b3) hb4⟩
  have b4 := b3.trans (hb4.mono b3.size)
  clear x2
  have x3 := keep1 b4 C3.out (Nat.le_refl _)
  go_wp2_with fail
  refine (szEntS_any A4 dr.length c4 dr Hz.out.2.2.2.2 Hz.out.2.2.2.1 r3 (by omega) (by omega) _ (H.out.next (belN B1 b4)).2.2.2).mono ?_
  rintro e w5 ⟨r4, rfl, hr4, hb5⟩
  by_cases n4 : r4 < 0
  · go_wp2
    go_ret
    exact ⟨_, rfl, .inl (by omega), belN (belN B1 b4) hb5⟩
  go_wp2
  go_ret
  exact ⟨_, rfl, .inr (by unfold szBk; simp only; omega), belN (belN B1 b4) hb5⟩

set_option maxRecDepth 100000 in
set_option maxHeartbeats 2000000 in
theorem eqBk_is (v v' : Value) (B : BookD) (sm : szBk B ≤ 1048576) (w : World) (h : IsBook w v B) (h' : IsBook w v' B) :
    Calls Tryz.prog 29 #[v, v'] w fun e w' => e = .returned (.bool true) ∧ Below w.heap.size w w' := by
  have hl := Lib.hid (bk_len sm)
  obtain ⟨A1, c1, A2, c2, A3, c3, A4, c4, rfl, h⟩ := h
  obtain ⟨D1, d1, D2, d2, D3, d3, D4, d4, rfl, h'⟩ := h'
  obtain ⟨rg, hm, pd, dr, sq, bs, sf, at_, df⟩ := B
  simp only at h h' hl ⊢
  have H := Lib.hid h
  have H' := Lib.hid h'
  clear h h' sm
  obtain ⟨W1, hW1⟩ : ∃ W1, (w.alloc (.cells #[.slice A1 rg.length c1, .slice A2 hm.length c2, .slice A3 pd.length c3, .slice A4 dr.length c4, .int .i64 sq, .int .i64 bs, .int .i64 sf, .int .i64 at_, .int .i64 df] 50)).alloc (.cells #[.slice D1 rg.length d1, .slice D2 hm.length d2, .slice D3 pd.length d3, .slice D4 dr.length d4, .int .i64 sq, .int .i64 bs, .int .i64 sf, .int .i64 at_, .int .i64 df] 50) = W1 := ⟨_, rfl⟩
  have B1 : Below w.heap.size w W1 := by rw [← hW1]; exact belA (belA (bel0 w) _) _
  have hV : Blk W1 w.heap.size 50 #[.slice A1 rg.length c1, .slice A2 hm.length c2, .slice A3 pd.length c3, .slice A4 dr.length c4, .int .i64 sq, .int .i64 bs, .int .i64 sf, .int .i64 at_, .int .i64 df] := by rw [← hW1]; exact (Blk.new' _ _ _ _ rfl).alloc _
  have hU : Blk W1 (w.heap.size + 1) 50 #[.slice D1 rg.length d1, .slice D2 hm.length d2, .slice D3 pd.length d3, .slice D4 dr.length d4, .int .i64 sq, .int .i64 bs, .int .i64 sf, .int .i64 at_, .int .i64 df] := by rw [← hW1]; exact Blk.new' _ _ _ _ (by simp)
  have HW1 := Lib.hid hW1
  have HV := Lib.hid hV
  have HU := Lib.hid hU
  clear hW1 hV hU
  go_enter Tryz.func29, Tryz.ntmps29
  go_wp2_with fail
  rw [HW1.out]
  refine (eqStringS_self A1 D1 rg.length c1 d1 rg hl.out.1 _ (H.out.next B1).1 (H'.out.next B1).1).mono ?_
  rintro e w2 ⟨rfl, hb2⟩
  have x1 := keep1 hb2 (HV.out.get 1 rfl) (Nat.le_refl _)
  have y1 := keep1 hb2 (HU.out.get 1 rfl) (Nat.le_refl _)
  go_wp2_with fail
  refine (eqStringS_self A2 D2 hm.length c2 d2 hm hl.out.2.1 _ (H.out.next (belN B1 hb2)).2.1 (H'.out.next (belN B1 hb2)).2.1).mono ?_
  rintro e w3 ⟨rfl, hb3⟩
  have b3 := hb2.trans (hb3.mono hb2.size)
  clear x1 y1
  have x1 := keep1 b3 (HV.out.get 2 rfl) (Nat.le_refl _)
  have y1 := keep1 b3 (HU.out.get 2 rfl) (Nat.le_refl _)
  go_wp2_with fail
  refine (eqWriteS_self A3 D3 pd.length c3 d3 pd hl.out.2.2.1 _ (H.out.next (belN B1 b3)).2.2.1 (H'.out.next (belN B1 b3)).2.2.1).mono ?_
  rintro e w4 ⟨rfl, hb4⟩
  have b4 := b3.trans (hb4.mono b3.size)
  clear x1 y1
  have x1 := keep1 b4 (HV.out.get 3 rfl) (Nat.le_refl _)
  have y1 := keep1 b4 (HU.out.get 3 rfl) (Nat.le_refl _)
  go_wp2_with fail
  refine (eqEntS_self A4 D4 dr.length c4 d4 dr hl.out.2.2.2 _ (H.out.next (belN B1 b4)).2.2.2 (H'.out.next (belN B1 b4)).2.2.2).mono ?_
  rintro e w5 ⟨rfl, hb5⟩
  have b5 := b4.trans (hb5.mono b4.size)
  clear x1 y1
  have x4 := keep1 b5 (HV.out.get 4 rfl) (Nat.le_refl _)
  have x5 := keep1 b5 (HV.out.get 5 rfl) (Nat.le_refl _)
  have x6 := keep1 b5 (HV.out.get 6 rfl) (Nat.le_refl _)
  have x7 := keep1 b5 (HV.out.get 7 rfl) (Nat.le_refl _)
  have x8 := keep1 b5 (HV.out.get 8 rfl) (Nat.le_refl _)
  have y4 := keep1 b5 (HU.out.get 4 rfl) (Nat.le_refl _)
  have y5 := keep1 b5 (HU.out.get 5 rfl) (Nat.le_refl _)
  have y6 := keep1 b5 (HU.out.get 6 rfl) (Nat.le_refl _)
  have y7 := keep1 b5 (HU.out.get 7 rfl) (Nat.le_refl _)
  have y8 := keep1 b5 (HU.out.get 8 rfl) (Nat.le_refl _)
  go_wp2
  go_ret
  exact ⟨rfl, belN B1 b5⟩

theorem own_rd {w : World} {base : Nat} {e : TypeId} {size n c : Nat} {A : Option Addr} {xs : List Value} (h : w.ownsRow base e size (.slice A n c) n xs) : Reads w w.heap.size size A n xs := by
  obtain ⟨A', c', hv, _, _, hr⟩ := own_vals h
  cases hv
  exact hr
set_option maxRecDepth 100000 in
set_option maxHeartbeats 4000000 in
theorem toBk_is (v : Value) (B : BookD) (sm : szBk B ≤ 1048576) (w : World) (h : IsBook w v B) :
    Calls Tryz.prog 27 #[v] w fun e w' => ∃ v', e = .returned v' ∧ IsBook w' v' B ∧ Below w.heap.size w w' := by
  have hl := Lib.hid (bk_len sm)
  obtain ⟨A1, c1, A2, c2, A3, c3, A4, c4, rfl, h⟩ := h
  obtain ⟨rg, hm, pd, dr, sq, bs, sf, at_, df⟩ := B
  simp only at h hl ⊢
  have H := Lib.hid h
  clear h sm
  go_enter Tryz.func27, Tryz.ntmps27
  go_wp2_with fail
  obtain ⟨W1, hW1⟩ : ∃ W1, ((w.alloc (.cells #[.slice A1 rg.length c1, .slice A2 hm.length c2, .slice A3 pd.length c3, .slice A4 dr.length c4, .int .i64 sq, .int .i64 bs, .int .i64 sf, .int .i64 at_, .int .i64 df] 45)).alloc (.cells #[.slice none 0 0, .slice none 0 0, .slice none 0 0, .slice none 0 0, .int .i64 0, .int .i64 0, .int .i64 0, .int .i64 0, .int .i64 0] 50)).alloc (.cells #[.slice none 0 0, .slice none 0 0, .slice none 0 0, .slice none 0 0, .int .i64 0, .int .i64 0, .int .i64 0, .int .i64 0, .int .i64 0] 50) = W1 := ⟨_, rfl⟩
  have B1 : Below w.heap.size w W1 := by rw [← hW1]; exact belA (belA (belA (bel0 w) _) _) _
  have S1 : W1.heap.size = w.heap.size + 3 := by rw [← hW1]; simp
  have hV1 : Blk W1 w.heap.size 45 #[.slice A1 rg.length c1, .slice A2 hm.length c2, .slice A3 pd.length c3, .slice A4 dr.length c4, .int .i64 sq, .int .i64 bs, .int .i64 sf, .int .i64 at_, .int .i64 df] := by rw [← hW1]; exact ((Blk.new' _ _ _ _ rfl).alloc _).alloc _
  have hR1 : Blk W1 (w.heap.size + 1) 50 #[.slice none 0 0, .slice none 0 0, .slice none 0 0, .slice none 0 0, .int .i64 0, .int .i64 0, .int .i64 0, .int .i64 0, .int .i64 0] := by rw [← hW1]; exact (Blk.new' _ _ _ _ (by simp)).alloc _
  have hO1 : Blk W1 (w.heap.size + 2) 50 #[.slice none 0 0, .slice none 0 0, .slice none 0 0, .slice none 0 0, .int .i64 0, .int .i64 0, .int .i64 0, .int .i64 0, .int .i64 0] := by rw [← hW1]; exact Blk.new' _ _ _ _ (by simp)
  rw [hW1]
  clear hW1
  refine (toStringS_any A1 rg.length c1 rg hl.out.1 W1 ((H.out.next B1).1)).mono ?_
  rintro e w1 ⟨rfl, hown, hb⟩
  rw [S1] at hown ⊢
  have b1 := belN B1 hb
  have hV1' := hV1.below hb hV1.lt
  have hR1' := hR1.below hb hR1.lt
  have hO1' := hO1.below hb hO1.lt
  have o0_1' := Lib.hid hown
  clear hown hb hV1 hR1 hO1 
  have HV := Lib.hid hV1'
  have HR := Lib.hid hR1'
  have HO := Lib.hid hO1'
  have lO := hO1'.lt
  have fO := hO1'.frozen 0
  have x1 := hV1'.get 1 rfl
  have z1 := hO1'.get 0 rfl
  clear hV1' hR1' hO1'
  go_wp2_with fail
  obtain ⟨W2, hW2⟩ : ∃ W, w1.setCell ⟨w.heap.size + 2, 0, none⟩ (.slice (some ⟨w.heap.size + 3, 0, none⟩) rg.length rg.length) = W := ⟨_, rfl⟩
  have B2 : Below w.heap.size w W2 := by rw [← hW2]; exact belC b1 _ _ (by omega) _
  have hV2 : Blk W2 w.heap.size 45 #[.slice A1 rg.length c1, .slice A2 hm.length c2, .slice A3 pd.length c3, .slice A4 dr.length c4, .int .i64 sq, .int .i64 bs, .int .i64 sf, .int .i64 at_, .int .i64 df] := by rw [← hW2]; exact HV.out.far (by simp) _
  have hR2 : Blk W2 (w.heap.size + 1) 50 #[.slice none 0 0, .slice none 0 0, .slice none 0 0, .slice none 0 0, .int .i64 0, .int .i64 0, .int .i64 0, .int .i64 0, .int .i64 0] := by rw [← hW2]; exact HR.out.far (by simp) _
  have hO2 : Blk W2 (w.heap.size + 2) 50 #[.slice (some ⟨w.heap.size + 3, 0, none⟩) rg.length rg.length, .slice none 0 0, .slice none 0 0, .slice none 0 0, .int .i64 0, .int .i64 0, .int .i64 0, .int .i64 0, .int .i64 0] := by rw [← hW2]; exact HO.out.put 0 _ _ rfl
  have o0_2 := Lib.hid (hW2 ▸ own_far o0_1'.out (p := ⟨w.heap.size + 2, 0, none⟩) (u := .slice (some ⟨w.heap.size + 3, 0, none⟩) rg.length rg.length) (by simp; try omega))
  rw [hW2]
  clear hW2 x1 z1 HV HR HO lO fO b1 o0_1'
  refine (toStringS_any A2 hm.length c2 hm hl.out.2.1 W2 ((H.out.next B2).2.1)).mono ?_
  rintro e w2 ⟨rfl, hown, hb⟩
  obtain ⟨g2, hg2⟩ : ∃ g, W2.heap.size = g := ⟨_, rfl⟩
  have hs2 := B2.size
  rw [hg2] at hown hs2 ⊢
  have b2 := belN B2 hb
  have hV2' := hV2.below hb hV2.lt
  have hR2' := hR2.below hb hR2.lt
  have hO2' := hO2.below hb hO2.lt
  have o0_2' := Lib.hid (own_below o0_2.out hb (Nat.le_refl _))
  have o1_2' := Lib.hid hown
  have hlt2 : w.heap.size + 3 ≤ g2 := by have := hO2.lt; rw [hg2] at this; omega
  clear hown hb hV2 hR2 hO2 o0_2
  have HV := Lib.hid hV2'
  have HR := Lib.hid hR2'
  have HO := Lib.hid hO2'
  have lO := hO2'.lt
  have fO := hO2'.frozen 1
  have x1 := hV2'.get 2 rfl
  have z1 := hO2'.get 1 rfl
  clear hV2' hR2' hO2'
  go_wp2_with fail
  obtain ⟨W3, hW3⟩ : ∃ W, w2.setCell ⟨w.heap.size + 2, 1, none⟩ (.slice (some ⟨g2, 0, none⟩) hm.length hm.length) = W := ⟨_, rfl⟩
  have B3 : Below w.heap.size w W3 := by rw [← hW3]; exact belC b2 _ _ (by omega) _
  have hV3 : Blk W3 w.heap.size 45 #[.slice A1 rg.length c1, .slice A2 hm.length c2, .slice A3 pd.length c3, .slice A4 dr.length c4, .int .i64 sq, .int .i64 bs, .int .i64 sf, .int .i64 at_, .int .i64 df] := by rw [← hW3]; exact HV.out.far (by simp) _
  have hR3 : Blk W3 (w.heap.size + 1) 50 #[.slice none 0 0, .slice none 0 0, .slice none 0 0, .slice none 0 0, .int .i64 0, .int .i64 0, .int .i64 0, .int .i64 0, .int .i64 0] := by rw [← hW3]; exact HR.out.far (by simp) _
  have hO3 : Blk W3 (w.heap.size + 2) 50 #[.slice (some ⟨w.heap.size + 3, 0, none⟩) rg.length rg.length, .slice (some ⟨g2, 0, none⟩) hm.length hm.length, .slice none 0 0, .slice none 0 0, .int .i64 0, .int .i64 0, .int .i64 0, .int .i64 0, .int .i64 0] := by rw [← hW3]; exact HO.out.put 1 _ _ rfl
  have o0_3 := Lib.hid (hW3 ▸ own_far o0_2'.out (p := ⟨w.heap.size + 2, 1, none⟩) (u := .slice (some ⟨g2, 0, none⟩) hm.length hm.length) (by simp; try omega))
  have o1_3 := Lib.hid (hW3 ▸ own_far o1_2'.out (p := ⟨w.heap.size + 2, 1, none⟩) (u := .slice (some ⟨g2, 0, none⟩) hm.length hm.length) (by simp; try omega))
  rw [hW3]
  clear hW3 x1 z1 HV HR HO lO fO b2 o0_2' o1_2'
  refine (toWriteS_any A3 pd.length c3 pd hl.out.2.2.1 W3 ((H.out.next B3).2.2.1)).mono ?_
  rintro e w3 ⟨rfl, hown, hb⟩
  obtain ⟨g3, hg3⟩ : ∃ g, W3.heap.size = g := ⟨_, rfl⟩
  have hs3 := B3.size
  rw [hg3] at hown hs3 ⊢
  have b3 := belN B3 hb
  have hV3' := hV3.below hb hV3.lt
  have hR3' := hR3.below hb hR3.lt
  have hO3' := hO3.below hb hO3.lt
  have o0_3' := Lib.hid (own_below o0_3.out hb (Nat.le_refl _))
  have o1_3' := Lib.hid (own_below o1_3.out hb (Nat.le_refl _))
  have o2_3' := Lib.hid hown
  have hlt3 : w.heap.size + 3 ≤ g3 := by have := hO3.lt; rw [hg3] at this; omega
  clear hown hb hV3 hR3 hO3 o0_3 o1_3
  have HV := Lib.hid hV3'
  have HR := Lib.hid hR3'
  have HO := Lib.hid hO3'
  have lO := hO3'.lt
  have fO := hO3'.frozen 2
  have x1 := hV3'.get 3 rfl
  have z1 := hO3'.get 2 rfl
  clear hV3' hR3' hO3'
  go_wp2_with fail
  obtain ⟨W4, hW4⟩ : ∃ W, w3.setCell ⟨w.heap.size + 2, 2, none⟩ (.slice (some ⟨g3, 0, none⟩) pd.length pd.length) = W := ⟨_, rfl⟩
  have B4 : Below w.heap.size w W4 := by rw [← hW4]; exact belC b3 _ _ (by omega) _
  have hV4 : Blk W4 w.heap.size 45 #[.slice A1 rg.length c1, .slice A2 hm.length c2, .slice A3 pd.length c3, .slice A4 dr.length c4, .int .i64 sq, .int .i64 bs, .int .i64 sf, .int .i64 at_, .int .i64 df] := by rw [← hW4]; exact HV.out.far (by simp) _
  have hR4 : Blk W4 (w.heap.size + 1) 50 #[.slice none 0 0, .slice none 0 0, .slice none 0 0, .slice none 0 0, .int .i64 0, .int .i64 0, .int .i64 0, .int .i64 0, .int .i64 0] := by rw [← hW4]; exact HR.out.far (by simp) _
  have hO4 : Blk W4 (w.heap.size + 2) 50 #[.slice (some ⟨w.heap.size + 3, 0, none⟩) rg.length rg.length, .slice (some ⟨g2, 0, none⟩) hm.length hm.length, .slice (some ⟨g3, 0, none⟩) pd.length pd.length, .slice none 0 0, .int .i64 0, .int .i64 0, .int .i64 0, .int .i64 0, .int .i64 0] := by rw [← hW4]; exact HO.out.put 2 _ _ rfl
  have o0_4 := Lib.hid (hW4 ▸ own_far o0_3'.out (p := ⟨w.heap.size + 2, 2, none⟩) (u := .slice (some ⟨g3, 0, none⟩) pd.length pd.length) (by simp; try omega))
  have o1_4 := Lib.hid (hW4 ▸ own_far o1_3'.out (p := ⟨w.heap.size + 2, 2, none⟩) (u := .slice (some ⟨g3, 0, none⟩) pd.length pd.length) (by simp; try omega))
  have o2_4 := Lib.hid (hW4 ▸ own_far o2_3'.out (p := ⟨w.heap.size + 2, 2, none⟩) (u := .slice (some ⟨g3, 0, none⟩) pd.length pd.length) (by simp; try omega))
  rw [hW4]
  clear hW4 x1 z1 HV HR HO lO fO b3 o0_3' o1_3' o2_3'
  refine (toEntS_any A4 dr.length c4 dr hl.out.2.2.2 W4 ((H.out.next B4).2.2.2)).mono ?_
  rintro e w4 ⟨rfl, hown, hb⟩
  obtain ⟨g4, hg4⟩ : ∃ g, W4.heap.size = g := ⟨_, rfl⟩
  have hs4 := B4.size
  rw [hg4] at hown hs4 ⊢
  have b4 := belN B4 hb
  have hV4' := hV4.below hb hV4.lt
  have hR4' := hR4.below hb hR4.lt
  have hO4' := hO4.below hb hO4.lt
  have o0_4' := Lib.hid (own_below o0_4.out hb (Nat.le_refl _))
  have o1_4' := Lib.hid (own_below o1_4.out hb (Nat.le_refl _))
  have o2_4' := Lib.hid (own_below o2_4.out hb (Nat.le_refl _))
  have o3_4' := Lib.hid hown
  have hlt4 : w.heap.size + 3 ≤ g4 := by have := hO4.lt; rw [hg4] at this; omega
  clear hown hb hV4 hR4 hO4 o0_4 o1_4 o2_4
  have HV := Lib.hid hV4'
  have HR := Lib.hid hR4'
  have HO := Lib.hid hO4'
  have lO := hO4'.lt
  have fO := hO4'.frozen 3
  have v4 := hV4'.get 4 rfl
  have v5 := hV4'.get 5 rfl
  have v6 := hV4'.get 6 rfl
  have v7 := hV4'.get 7 rfl
  have v8 := hV4'.get 8 rfl
  have o0 := hO4'.get 0 rfl
  have f0 := hO4'.frozen 0
  have r0 := hR4'.get 0 rfl
  have q0 := hR4'.frozen 0
  have o1 := hO4'.get 1 rfl
  have f1 := hO4'.frozen 1
  have r1 := hR4'.get 1 rfl
  have q1 := hR4'.frozen 1
  have o2 := hO4'.get 2 rfl
  have f2 := hO4'.frozen 2
  have r2 := hR4'.get 2 rfl
  have q2 := hR4'.frozen 2
  have o3 := hO4'.get 3 rfl
  have f3 := hO4'.frozen 3
  have r3 := hR4'.get 3 rfl
  have q3 := hR4'.frozen 3
  have o4 := hO4'.get 4 rfl
  have f4 := hO4'.frozen 4
  have r4 := hR4'.get 4 rfl
  have q4 := hR4'.frozen 4
  have o5 := hO4'.get 5 rfl
  have f5 := hO4'.frozen 5
  have r5 := hR4'.get 5 rfl
  have q5 := hR4'.frozen 5
  have o6 := hO4'.get 6 rfl
  have f6 := hO4'.frozen 6
  have r6 := hR4'.get 6 rfl
  have q6 := hR4'.frozen 6
  have o7 := hO4'.get 7 rfl
  have f7 := hO4'.frozen 7
  have r7 := hR4'.get 7 rfl
  have q7 := hR4'.frozen 7
  have o8 := hO4'.get 8 rfl
  have f8 := hO4'.frozen 8
  have r8 := hR4'.get 8 rfl
  have q8 := hR4'.frozen 8
  have lR := hR4'.lt
  clear hV4' hR4' hO4' HV HR HO
  go_wp2
  refine bodyPost_ret (v := .agg #[.slice (some ⟨w.heap.size + 3, 0, none⟩) rg.length rg.length, .slice (some ⟨g2, 0, none⟩) hm.length hm.length, .slice (some ⟨g3, 0, none⟩) pd.length pd.length, .slice (some ⟨g4, 0, none⟩) dr.length dr.length, .int .i64 sq, .int .i64 bs, .int .i64 sf, .int .i64 at_, .int .i64 df]) (by simp [results, Tryz.results27, go_sem, r0, r1, r2, r3, r4, r5, r6, r7, r8]) rfl ⟨_, rfl, ⟨_, _, _, _, _, _, _, _, rfl, ?_⟩, ?_⟩
  · exact ⟨own_rd (own_far (own_far (own_far (own_far (own_far (own_far (own_far (own_far (own_far (own_far (own_far (own_far (own_far (own_far (own_far (o0_4'.out) (by simp; try omega)) (by simp; try omega)) (by simp; try omega)) (by simp; try omega)) (by simp; try omega)) (by simp; try omega)) (by simp; try omega)) (by simp; try omega)) (by simp; try omega)) (by simp; try omega)) (by simp; try omega)) (by simp; try omega)) (by simp; try omega)) (by simp; try omega)) (by simp; try omega)), own_rd (own_far (own_far (own_far (own_far (own_far (own_far (own_far (own_far (own_far (own_far (own_far (own_far (own_far (own_far (own_far (o1_4'.out) (by simp; try omega)) (by simp; try omega)) (by simp; try omega)) (by simp; try omega)) (by simp; try omega)) (by simp; try omega)) (by simp; try omega)) (by simp; try omega)) (by simp; try omega)) (by simp; try omega)) (by simp; try omega)) (by simp; try omega)) (by simp; try omega)) (by simp; try omega)) (by simp; try omega)), own_rd (own_far (own_far (own_far (own_far (own_far (own_far (own_far (own_far (own_far (own_far (own_far (own_far (own_far (own_far (own_far (o2_4'.out) (by simp; try omega)) (by simp; try omega)) (by simp; try omega)) (by simp; try omega)) (by simp; try omega)) (by simp; try omega)) (by simp; try omega)) (by simp; try omega)) (by simp; try omega)) (by simp; try omega)) (by simp; try omega)) (by simp; try omega)) (by simp; try omega)) (by simp; try omega)) (by simp; try omega)), own_rd (own_far (own_far (own_far (own_far (own_far (own_far (own_far (own_far (own_far (own_far (own_far (own_far (own_far (own_far (own_far (o3_4'.out) (by simp; try omega)) (by simp; try omega)) (by simp; try omega)) (by simp; try omega)) (by simp; try omega)) (by simp; try omega)) (by simp; try omega)) (by simp; try omega)) (by simp; try omega)) (by simp; try omega)) (by simp; try omega)) (by simp; try omega)) (by simp; try omega)) (by simp; try omega)) (by simp; try omega))⟩
  · exact belC (belC (belC (belC (belC (belC (belC (belC (belC (belC (belC (belC (belC (belC (belC (b4) _ _ (by omega) _) _ _ (by omega) _) _ _ (by omega) _) _ _ (by omega) _) _ _ (by omega) _) _ _ (by omega) _) _ _ (by omega) _) _ _ (by omega) _) _ _ (by omega) _) _ _ (by omega) _) _ _ (by omega) _) _ _ (by omega) _) _ _ (by omega) _) _ _ (by omega) _) _ _ (by omega) _

section
variable {H : Type} {enc : TypeId × Value → H} {w : World} {base : Nat} {spare : Nat → Bool} {held : Bool}
theorem Tryz.one45 : Tryz.prog.cellsOf 45 = 9 := by kernel_rfl
set_option maxRecDepth 100000 in
theorem open_book_is {r : Reach} {b0 : Nat} {v : Value} {d : DataW H} {p : List MemPlace} (hv : Value.okWide Tryz.prog w r b0 45 v) (h : DataW.Trod enc Tryz.prog w base spare held 45 v d p) :
    ∃ B : BookD, BookBig B ∧ True ∧ IsBook w v B := by
  obtain ⟨fuel, hf⟩ := h
  unfold Value.okWide at hv
  rw [Tryz.underlying45] at hv
  obtain ⟨cs, rfl, hsz, _⟩ := hv
  rw [Tryz.one45] at hsz
  obtain ⟨a0, a1, a2, a3, a4, a5, a6, a7, a8, rfl⟩ : ∃ a0 a1 a2 a3 a4 a5 a6 a7 a8, cs = #[a0, a1, a2, a3, a4, a5, a6, a7, a8] := by
    obtain ⟨l⟩ := cs
    match l, hsz with
    | [a0, a1, a2, a3, a4, a5, a6, a7, a8], _ => exact ⟨a0, a1, a2, a3, a4, a5, a6, a7, a8, rfl⟩
  obtain ⟨ys, n, hfs⟩ := open_fields Tryz.underlying45 (by kernel_rfl) (by rfl) hf
  obtain ⟨v0, y0, g0, _, t0⟩ := hfs 0 _ rfl
  obtain ⟨v1, y1, g1, _, t1⟩ := hfs 1 _ rfl
  obtain ⟨v2, y2, g2, _, t2⟩ := hfs 2 _ rfl
  obtain ⟨v3, y3, g3, _, t3⟩ := hfs 3 _ rfl
  obtain ⟨v4, y4, g4, _, t4⟩ := hfs 4 _ rfl
  obtain ⟨v5, y5, g5, _, t5⟩ := hfs 5 _ rfl
  obtain ⟨v6, y6, g6, _, t6⟩ := hfs 6 _ rfl
  obtain ⟨v7, y7, g7, _, t7⟩ := hfs 7 _ rfl
  obtain ⟨v8, y8, g8, _, t8⟩ := hfs 8 _ rfl
  simp [Value.cells] at g0 g1 g2 g3 g4 g5 g6 g7 g8
  subst g0 g1 g2 g3 g4 g5 g6 g7 g8
  obtain ⟨A1, c1, rg, e0, h0, m0, z0⟩ := open_strs t0
  obtain ⟨A2, c2, hm, e1, h1, m1, z1⟩ := open_strs t1
  obtain ⟨A3, c3, pd, e2, h2, m2, z2⟩ := open_writes t2
  obtain ⟨A4, c4, dr, e3, h3, m3, z3⟩ := open_row t3
  obtain ⟨x4, e4, _, _⟩ := DataW.trod_int Tryz.underlying3 t4
  obtain ⟨x5, e5, _, _⟩ := DataW.trod_int Tryz.underlying3 t5
  obtain ⟨x6, e6, _, _⟩ := DataW.trod_int Tryz.underlying3 t6
  obtain ⟨x7, e7, _, _⟩ := DataW.trod_int Tryz.underlying3 t7
  obtain ⟨x8, e8, _, _⟩ := DataW.trod_int Tryz.underlying3 t8
  simp at e0 e1 e2 e3 e4 e5 e6 e7 e8
  subst e0 e1 e2 e3 e4 e5 e6 e7 e8
  exact ⟨⟨rg, hm, pd, dr, x4, x5, x6, x7, x8⟩, ⟨⟨m0, z0⟩, ⟨m1, z1⟩, ⟨m2, z2⟩, ⟨m3, z3⟩⟩, trivial, A1, c1, A2, c2, A3, c3, A4, c4, rfl, h0, h1, h2, h3⟩
end

end Go.Proofs.YthdbomkddpnhaaaGreatDoor
