/- What is drawn: a change of a directory. -/
import Derived.Test.YtghgafbfpejinaaGreatDoorRDraw
namespace Go.Proofs.YtghgafbfpejinaaGreatDoor
open Go Go.RowKit

theorem blk_g {w w' : World} {b g : Nat} {t : TypeId} {cs : Array Value} (h : Blk w b t cs) (hg : w.grownBy w' (some g)) (hne : b ≠ g) : Blk w' b t cs := h.grown hg (by intro e; injection e with e; exact hne e)
def opi1 : List Int := [-1, 0, 100000, 100001]
def opi2 : List Int := [0, 4]

set_option maxRecDepth 100000 in
set_option maxHeartbeats 8000000 in
theorem l25Op_any (g : Nat) (A : Option Addr) (n cp : Nat) (bs : List UInt8) (hn : n ≤ 9223372036854775806) (w : World) (h : Curs w g A n cp bs) :
  Calls Tryz.prog 24 #[.pointer (some ⟨g, 0, none⟩)] w fun e w' => ∃ (k : Int) (s : ByteArray) (i : Int), e = .returned (.agg #[.int .i64 k, .string s, .int .i64 i]) ∧ s.size ≤ 25 ∧ Curs w' g A n cp bs ∧ w.grownBy w' (some g) := by
 have Hb := Lib.hid (fun m hm W hW => l1Below_any g A n cp bs hn m hm W hW)
 have Ho := Lib.hid (fun m hm W hW => l1Once_any g A n cp bs hn m hm W hW)
 have Hn := Lib.hid (fun W hW => l4Name_any g A n cp bs hn W hW)
 have hlt := h.lt
 obtain ⟨W1, hW1⟩ : ∃ W, w.alloc (.cells #[.int .i64 0, .string ⟨#[]⟩, .int .i64 0] 32) = W := ⟨_, rfl⟩
 have R1 : Blk W1 w.heap.size 32 #[.int .i64 0, .string ⟨#[]⟩, .int .i64 0] := by rw [← hW1]; exact Blk.new' _ _ _ _ rfl
 have hc1 : Curs W1 g A n cp bs := by rw [← hW1]; exact h.alloc _
 have G1 : w.grownBy W1 (some g) := by rw [← hW1]; exact gb_al (grown_refl _ _)
 have HW1 := Lib.hid hW1
 clear hW1
 go_enter Tryz.func24, Tryz.ntmps24
 go_wp2_with fail
 rw [HW1.out]
 refine (Hb.out 3 (by omega) W1 hc1).mono ?_
 rintro e w2 ⟨x, rfl, _, hx, hc2, hg2⟩
 obtain ⟨hx0, hx1⟩ := hx (by omega)
 have R2 := blk_g R1 hg2 (by omega)
 have G2 := G1.trans hg2
 go_wp2_with fail
 refine (Hn.out w2 hc2).mono ?_
 rintro e w3 ⟨s, rfl, hs, hc3, hg3⟩
 have R3 := blk_g R2 hg3 (by omega)
 have G3 := G2.trans hg3
 go_wp2_with fail
 refine (Hb.out 9 (by omega) w3 hc3).mono ?_
 rintro e w4 ⟨y, rfl, _, hy, hc4, hg4⟩
 obtain ⟨hy0, hy1⟩ := hy (by omega)
 have R4 := blk_g R3 hg4 (by omega)
 have G4 := G3.trans hg4
 have l4 := R4.lt
 obtain ⟨K, hK⟩ : ∃ K, 1 + x = K := ⟨_, rfl⟩
 obtain ⟨I, hI⟩ : ∃ I, 1 + y = I := ⟨_, rfl⟩
 obtain ⟨W5, hW5⟩ : ∃ W, w4.alloc (.cells #[.int .i64 K, .string s, .int .i64 I] 32) = W := ⟨_, rfl⟩
 have O5 : Blk W5 w4.heap.size 32 #[.int .i64 K, .string s, .int .i64 I] := by rw [← hW5]; exact Blk.new' _ _ _ _ rfl
 have hc5 : Curs W5 g A n cp bs := by rw [← hW5]; exact hc4.alloc _
 have G5 : w.grownBy W5 (some g) := by rw [← hW5]; exact gb_below G4 (belA (bel0 _) _)
 have R5 : Blk W5 w.heap.size 32 #[.int .i64 0, .string ⟨#[]⟩, .int .i64 0] := by rw [← hW5]; exact R4.alloc _
 have gG : g < w4.heap.size := by omega
 go_upto_region 2 with fail
 try rw [hK]
 try rw [hI]
 try rw [hW5]
 clear hW5 R1 R2 R3 R4 hc1 hc2 hc3 hc4 G1 G2 G3 G4 hK hI hg2 hg3 hg4
 go_wp2_with fail
 refine (Ho.out 2 (by omega) W5 hc5).mono ?_
 rintro e w6 ⟨b, rfl, hc6, hg6⟩
 have O6 := blk_g O5 hg6 (by omega)
 have R6 := blk_g R5 hg6 (by omega)
 have G6 := G5.trans hg6
 clear O5 R5 hc5 G5 hg6
 cases b
 case true =>
  have x0 := O6.get (x := .int .i64 K) 0 rfl
  have x2 := O6.get (x := .int .i64 I) 2 rfl
  have y0 := O6.frozen 0
  have y2 := O6.frozen 2
  have lx := O6.lt
  obtain ⟨WA, hWA⟩ : ∃ W, w6.setCell ⟨w4.heap.size, 0, none⟩ (.int .i64 1) = W := ⟨_, rfl⟩
  have hbz : Below w.heap.size w6 WA := by rw [← hWA]; exact (Below.refl _ _).setCell (p := ⟨w4.heap.size, 0, none⟩) (by simp only; omega) _
  have OWA : Blk WA w4.heap.size 32 #[.int .i64 1, .string s, .int .i64 I] := by rw [← hWA]; exact O6.put 0 (.int .i64 1) _ rfl
  have RWA : Blk WA w.heap.size 32 #[.int .i64 0, .string ⟨#[]⟩, .int .i64 0] := by rw [← hWA]; exact R6.far (p := ⟨w4.heap.size, 0, none⟩) (by simp only; omega) _
  have hcWA := hc6.bel hbz hlt
  have GWA := gb_bel0 G6 hbz
  go_upto_region 4 with fail
  try rw [hWA]
  clear x0 x2 y0 y2 lx hWA O6 R6 hc6 G6 hbz
  have x0 := OWA.get (x := .int .i64 1) 0 rfl
  have lx := OWA.lt
  go_upto_region 6 with fail
  clear x0 lx
  go_wp2_with fail
  refine (Ho.out 12 (by omega) WA hcWA).mono ?_
  rintro e w8 ⟨b, rfl, hc8, hg8⟩
  have O8 := blk_g OWA hg8 (by omega)
  have R8 := blk_g RWA hg8 (by omega)
  have G8 := GWA.trans hg8
  clear OWA RWA hcWA GWA hg8
  cases b
  case false =>
   go_wp2_with fail
   refine (Ho.out 20 (by omega) w8 hc8).mono ?_
   rintro e w10 ⟨b, rfl, hc10, hg10⟩
   have O10 := blk_g O8 hg10 (by omega)
   have R10 := blk_g R8 hg10 (by omega)
   have G10 := G8.trans hg10
   clear O8 R8 hc8 G8 hg10
   cases b
   case false =>
    have a0 := O10.get (x := .int .i64 1) 0 rfl
    have a1 := O10.get (x := .string s) 1 rfl
    have a2 := O10.get (x := .int .i64 I) 2 rfl
    obtain ⟨b0, b1, b2⟩ := R10.g3
    obtain ⟨f0, f1, f2⟩ := R10.f3
    have lO := O10.lt
    have lR := R10.lt
    have HR := Lib.hid (((R10.put 0 (.int .i64 1) #[.int .i64 1, .string ⟨#[]⟩, .int .i64 0] rfl).put 1 (.string s) #[.int .i64 1, .string s, .int .i64 0] rfl).put 2 (.int .i64 I) #[.int .i64 1, .string s, .int .i64 I] rfl)
    have hbz : Below w.heap.size w10 (((w10.setCell ⟨w.heap.size, 0, none⟩ (.int .i64 1)).setCell ⟨w.heap.size, 1, none⟩ (.string s)).setCell ⟨w.heap.size, 2, none⟩ (.int .i64 I)) := (((Below.refl _ _).setCell (p := ⟨w.heap.size, 0, none⟩) (Nat.le_refl _) _).setCell (p := ⟨w.heap.size, 1, none⟩) (Nat.le_refl _) _).setCell (p := ⟨w.heap.size, 2, none⟩) (Nat.le_refl _) _
    go_wp2
    have r0 := HR.out.get (x := .int .i64 1) 0 rfl
    have r1 := HR.out.get (x := .string s) 1 rfl
    have r2 := HR.out.get (x := .int .i64 I) 2 rfl
    refine bodyPost_ret (v := .agg #[.int .i64 1, .string s, .int .i64 I]) (by simp [results, Tryz.results24, go_sem, r0, r1, r2]) rfl ⟨1, s, I, rfl, hs, hc10.bel hbz hlt, gb_bel0 G10 hbz⟩
   case true =>
    go_wp2_with fail
    refine (l1PickInt_any g A n cp bs hn (some ⟨w10.heap.size, 0, none⟩) 2 2 opi2 (by omega) (by omega) _ (hc10.alloc _) (show Reads _ _ 1 _ _ _ from reads_lit w10 _ _ _ rfl) (fun ad e => by injection e with e; rw [← e]; simp only; have := hc10.lt; omega)).mono ?_
    rintro e w11 ⟨z11, rfl, _, hc11, hg11⟩
    have O11 := blk_g (O10.alloc _) hg11 (by omega)
    have R11 := blk_g (R10.alloc _) hg11 (by omega)
    have G11 := G10.trans (gb_al hg11)
    have x0 := O11.get (x := .int .i64 1) 0 rfl
    have x2 := O11.get (x := .int .i64 I) 2 rfl
    have y0 := O11.frozen 0
    have y2 := O11.frozen 2
    have lx := O11.lt
    obtain ⟨WC, hWC⟩ : ∃ W, w11.setCell ⟨w4.heap.size, 0, none⟩ (.int .i64 z11) = W := ⟨_, rfl⟩
    have hbz : Below w.heap.size w11 WC := by rw [← hWC]; exact (Below.refl _ _).setCell (p := ⟨w4.heap.size, 0, none⟩) (by simp only; omega) _
    have OWC : Blk WC w4.heap.size 32 #[.int .i64 z11, .string s, .int .i64 I] := by rw [← hWC]; exact O11.put 0 (.int .i64 z11) _ rfl
    have RWC : Blk WC w.heap.size 32 #[.int .i64 0, .string ⟨#[]⟩, .int .i64 0] := by rw [← hWC]; exact R11.far (p := ⟨w4.heap.size, 0, none⟩) (by simp only; omega) _
    have hcWC := hc11.bel hbz hlt
    have GWC := gb_bel0 G11 hbz
    go_upto_region 10 with fail
    try rw [hWC]
    clear x0 x2 y0 y2 lx hWC O11 R11 hc11 G11 hbz hg11
    have a0 := OWC.get (x := .int .i64 z11) 0 rfl
    have a1 := OWC.get (x := .string s) 1 rfl
    have a2 := OWC.get (x := .int .i64 I) 2 rfl
    obtain ⟨b0, b1, b2⟩ := RWC.g3
    obtain ⟨f0, f1, f2⟩ := RWC.f3
    have lO := OWC.lt
    have lR := RWC.lt
    have HR := Lib.hid (((RWC.put 0 (.int .i64 z11) #[.int .i64 z11, .string ⟨#[]⟩, .int .i64 0] rfl).put 1 (.string s) #[.int .i64 z11, .string s, .int .i64 0] rfl).put 2 (.int .i64 I) #[.int .i64 z11, .string s, .int .i64 I] rfl)
    have hbz : Below w.heap.size WC (((WC.setCell ⟨w.heap.size, 0, none⟩ (.int .i64 z11)).setCell ⟨w.heap.size, 1, none⟩ (.string s)).setCell ⟨w.heap.size, 2, none⟩ (.int .i64 I)) := (((Below.refl _ _).setCell (p := ⟨w.heap.size, 0, none⟩) (Nat.le_refl _) _).setCell (p := ⟨w.heap.size, 1, none⟩) (Nat.le_refl _) _).setCell (p := ⟨w.heap.size, 2, none⟩) (Nat.le_refl _) _
    go_wp2
    have r0 := HR.out.get (x := .int .i64 z11) 0 rfl
    have r1 := HR.out.get (x := .string s) 1 rfl
    have r2 := HR.out.get (x := .int .i64 I) 2 rfl
    refine bodyPost_ret (v := .agg #[.int .i64 z11, .string s, .int .i64 I]) (by simp [results, Tryz.results24, go_sem, r0, r1, r2]) rfl ⟨z11, s, I, rfl, hs, hcWC.bel hbz hlt, gb_bel0 GWC hbz⟩
  case true =>
   go_wp2_with fail
   refine (l1PickInt_any g A n cp bs hn (some ⟨w8.heap.size, 0, none⟩) 4 4 opi1 (by omega) (by omega) _ (hc8.alloc _) (show Reads _ _ 1 _ _ _ from reads_lit w8 _ _ _ rfl) (fun ad e => by injection e with e; rw [← e]; simp only; have := hc8.lt; omega)).mono ?_
   rintro e w9 ⟨z9, rfl, _, hc9, hg9⟩
   have O9 := blk_g (O8.alloc _) hg9 (by omega)
   have R9 := blk_g (R8.alloc _) hg9 (by omega)
   have G9 := G8.trans (gb_al hg9)
   have x0 := O9.get (x := .int .i64 1) 0 rfl
   have x2 := O9.get (x := .int .i64 I) 2 rfl
   have y0 := O9.frozen 0
   have y2 := O9.frozen 2
   have lx := O9.lt
   obtain ⟨WB, hWB⟩ : ∃ W, w9.setCell ⟨w4.heap.size, 2, none⟩ (.int .i64 z9) = W := ⟨_, rfl⟩
   have hbz : Below w.heap.size w9 WB := by rw [← hWB]; exact (Below.refl _ _).setCell (p := ⟨w4.heap.size, 2, none⟩) (by simp only; omega) _
   have OWB : Blk WB w4.heap.size 32 #[.int .i64 1, .string s, .int .i64 z9] := by rw [← hWB]; exact O9.put 2 (.int .i64 z9) _ rfl
   have RWB : Blk WB w.heap.size 32 #[.int .i64 0, .string ⟨#[]⟩, .int .i64 0] := by rw [← hWB]; exact R9.far (p := ⟨w4.heap.size, 2, none⟩) (by simp only; omega) _
   have hcWB := hc9.bel hbz hlt
   have GWB := gb_bel0 G9 hbz
   go_upto_region 8 with fail
   try rw [hWB]
   clear x0 x2 y0 y2 lx hWB O9 R9 hc9 G9 hbz hg9
   go_wp2_with fail
   refine (Ho.out 20 (by omega) WB hcWB).mono ?_
   rintro e w10 ⟨b, rfl, hc10, hg10⟩
   have O10 := blk_g OWB hg10 (by omega)
   have R10 := blk_g RWB hg10 (by omega)
   have G10 := GWB.trans hg10
   clear OWB RWB hcWB GWB hg10
   cases b
   case false =>
    have a0 := O10.get (x := .int .i64 1) 0 rfl
    have a1 := O10.get (x := .string s) 1 rfl
    have a2 := O10.get (x := .int .i64 z9) 2 rfl
    obtain ⟨b0, b1, b2⟩ := R10.g3
    obtain ⟨f0, f1, f2⟩ := R10.f3
    have lO := O10.lt
    have lR := R10.lt
    have HR := Lib.hid (((R10.put 0 (.int .i64 1) #[.int .i64 1, .string ⟨#[]⟩, .int .i64 0] rfl).put 1 (.string s) #[.int .i64 1, .string s, .int .i64 0] rfl).put 2 (.int .i64 z9) #[.int .i64 1, .string s, .int .i64 z9] rfl)
    have hbz : Below w.heap.size w10 (((w10.setCell ⟨w.heap.size, 0, none⟩ (.int .i64 1)).setCell ⟨w.heap.size, 1, none⟩ (.string s)).setCell ⟨w.heap.size, 2, none⟩ (.int .i64 z9)) := (((Below.refl _ _).setCell (p := ⟨w.heap.size, 0, none⟩) (Nat.le_refl _) _).setCell (p := ⟨w.heap.size, 1, none⟩) (Nat.le_refl _) _).setCell (p := ⟨w.heap.size, 2, none⟩) (Nat.le_refl _) _
    go_wp2
    have r0 := HR.out.get (x := .int .i64 1) 0 rfl
    have r1 := HR.out.get (x := .string s) 1 rfl
    have r2 := HR.out.get (x := .int .i64 z9) 2 rfl
    refine bodyPost_ret (v := .agg #[.int .i64 1, .string s, .int .i64 z9]) (by simp [results, Tryz.results24, go_sem, r0, r1, r2]) rfl ⟨1, s, z9, rfl, hs, hc10.bel hbz hlt, gb_bel0 G10 hbz⟩
   case true =>
    go_wp2_with fail
    refine (l1PickInt_any g A n cp bs hn (some ⟨w10.heap.size, 0, none⟩) 2 2 opi2 (by omega) (by omega) _ (hc10.alloc _) (show Reads _ _ 1 _ _ _ from reads_lit w10 _ _ _ rfl) (fun ad e => by injection e with e; rw [← e]; simp only; have := hc10.lt; omega)).mono ?_
    rintro e w11 ⟨z11, rfl, _, hc11, hg11⟩
    have O11 := blk_g (O10.alloc _) hg11 (by omega)
    have R11 := blk_g (R10.alloc _) hg11 (by omega)
    have G11 := G10.trans (gb_al hg11)
    have x0 := O11.get (x := .int .i64 1) 0 rfl
    have x2 := O11.get (x := .int .i64 z9) 2 rfl
    have y0 := O11.frozen 0
    have y2 := O11.frozen 2
    have lx := O11.lt
    obtain ⟨WC, hWC⟩ : ∃ W, w11.setCell ⟨w4.heap.size, 0, none⟩ (.int .i64 z11) = W := ⟨_, rfl⟩
    have hbz : Below w.heap.size w11 WC := by rw [← hWC]; exact (Below.refl _ _).setCell (p := ⟨w4.heap.size, 0, none⟩) (by simp only; omega) _
    have OWC : Blk WC w4.heap.size 32 #[.int .i64 z11, .string s, .int .i64 z9] := by rw [← hWC]; exact O11.put 0 (.int .i64 z11) _ rfl
    have RWC : Blk WC w.heap.size 32 #[.int .i64 0, .string ⟨#[]⟩, .int .i64 0] := by rw [← hWC]; exact R11.far (p := ⟨w4.heap.size, 0, none⟩) (by simp only; omega) _
    have hcWC := hc11.bel hbz hlt
    have GWC := gb_bel0 G11 hbz
    go_upto_region 10 with fail
    try rw [hWC]
    clear x0 x2 y0 y2 lx hWC O11 R11 hc11 G11 hbz hg11
    have a0 := OWC.get (x := .int .i64 z11) 0 rfl
    have a1 := OWC.get (x := .string s) 1 rfl
    have a2 := OWC.get (x := .int .i64 z9) 2 rfl
    obtain ⟨b0, b1, b2⟩ := RWC.g3
    obtain ⟨f0, f1, f2⟩ := RWC.f3
    have lO := OWC.lt
    have lR := RWC.lt
    have HR := Lib.hid (((RWC.put 0 (.int .i64 z11) #[.int .i64 z11, .string ⟨#[]⟩, .int .i64 0] rfl).put 1 (.string s) #[.int .i64 z11, .string s, .int .i64 0] rfl).put 2 (.int .i64 z9) #[.int .i64 z11, .string s, .int .i64 z9] rfl)
    have hbz : Below w.heap.size WC (((WC.setCell ⟨w.heap.size, 0, none⟩ (.int .i64 z11)).setCell ⟨w.heap.size, 1, none⟩ (.string s)).setCell ⟨w.heap.size, 2, none⟩ (.int .i64 z9)) := (((Below.refl _ _).setCell (p := ⟨w.heap.size, 0, none⟩) (Nat.le_refl _) _).setCell (p := ⟨w.heap.size, 1, none⟩) (Nat.le_refl _) _).setCell (p := ⟨w.heap.size, 2, none⟩) (Nat.le_refl _) _
    go_wp2
    have r0 := HR.out.get (x := .int .i64 z11) 0 rfl
    have r1 := HR.out.get (x := .string s) 1 rfl
    have r2 := HR.out.get (x := .int .i64 z9) 2 rfl
    refine bodyPost_ret (v := .agg #[.int .i64 z11, .string s, .int .i64 z9]) (by simp [results, Tryz.results24, go_sem, r0, r1, r2]) rfl ⟨z11, s, z9, rfl, hs, hcWC.bel hbz hlt, gb_bel0 GWC hbz⟩
 case false =>
  have x0 := O6.get (x := .int .i64 K) 0 rfl
  have x2 := O6.get (x := .int .i64 I) 2 rfl
  have y0 := O6.frozen 0
  have y2 := O6.frozen 2
  have lx := O6.lt
  by_cases hk2 : K = 2
  ·subst hk2
   obtain ⟨WA, hWA⟩ : ∃ W, w6.setCell ⟨w4.heap.size, 2, none⟩ (.int .i64 0) = W := ⟨_, rfl⟩
   have hbz : Below w.heap.size w6 WA := by rw [← hWA]; exact (Below.refl _ _).setCell (p := ⟨w4.heap.size, 2, none⟩) (by simp only; omega) _
   have OWA : Blk WA w4.heap.size 32 #[.int .i64 2, .string s, .int .i64 0] := by rw [← hWA]; exact O6.put 2 (.int .i64 0) _ rfl
   have RWA : Blk WA w.heap.size 32 #[.int .i64 0, .string ⟨#[]⟩, .int .i64 0] := by rw [← hWA]; exact R6.far (p := ⟨w4.heap.size, 2, none⟩) (by simp only; omega) _
   have hcWA := hc6.bel hbz hlt
   have GWA := gb_bel0 G6 hbz
   go_upto_region 6 with fail
   try rw [hWA]
   clear x0 x2 y0 y2 lx hWA O6 R6 hc6 G6 hbz
   go_wp2_with fail
   refine (Ho.out 12 (by omega) WA hcWA).mono ?_
   rintro e w8 ⟨b, rfl, hc8, hg8⟩
   have O8 := blk_g OWA hg8 (by omega)
   have R8 := blk_g RWA hg8 (by omega)
   have G8 := GWA.trans hg8
   clear OWA RWA hcWA GWA hg8
   cases b
   case false =>
    go_wp2_with fail
    refine (Ho.out 20 (by omega) w8 hc8).mono ?_
    rintro e w10 ⟨b, rfl, hc10, hg10⟩
    have O10 := blk_g O8 hg10 (by omega)
    have R10 := blk_g R8 hg10 (by omega)
    have G10 := G8.trans hg10
    clear O8 R8 hc8 G8 hg10
    cases b
    case false =>
     have a0 := O10.get (x := .int .i64 2) 0 rfl
     have a1 := O10.get (x := .string s) 1 rfl
     have a2 := O10.get (x := .int .i64 0) 2 rfl
     obtain ⟨b0, b1, b2⟩ := R10.g3
     obtain ⟨f0, f1, f2⟩ := R10.f3
     have lO := O10.lt
     have lR := R10.lt
     have HR := Lib.hid (((R10.put 0 (.int .i64 2) #[.int .i64 2, .string ⟨#[]⟩, .int .i64 0] rfl).put 1 (.string s) #[.int .i64 2, .string s, .int .i64 0] rfl).put 2 (.int .i64 0) #[.int .i64 2, .string s, .int .i64 0] rfl)
     have hbz : Below w.heap.size w10 (((w10.setCell ⟨w.heap.size, 0, none⟩ (.int .i64 2)).setCell ⟨w.heap.size, 1, none⟩ (.string s)).setCell ⟨w.heap.size, 2, none⟩ (.int .i64 0)) := (((Below.refl _ _).setCell (p := ⟨w.heap.size, 0, none⟩) (Nat.le_refl _) _).setCell (p := ⟨w.heap.size, 1, none⟩) (Nat.le_refl _) _).setCell (p := ⟨w.heap.size, 2, none⟩) (Nat.le_refl _) _
     go_wp2
     have r0 := HR.out.get (x := .int .i64 2) 0 rfl
     have r1 := HR.out.get (x := .string s) 1 rfl
     have r2 := HR.out.get (x := .int .i64 0) 2 rfl
     refine bodyPost_ret (v := .agg #[.int .i64 2, .string s, .int .i64 0]) (by simp [results, Tryz.results24, go_sem, r0, r1, r2]) rfl ⟨2, s, 0, rfl, hs, hc10.bel hbz hlt, gb_bel0 G10 hbz⟩
    case true =>
     go_wp2_with fail
     refine (l1PickInt_any g A n cp bs hn (some ⟨w10.heap.size, 0, none⟩) 2 2 opi2 (by omega) (by omega) _ (hc10.alloc _) (show Reads _ _ 1 _ _ _ from reads_lit w10 _ _ _ rfl) (fun ad e => by injection e with e; rw [← e]; simp only; have := hc10.lt; omega)).mono ?_
     rintro e w11 ⟨z11, rfl, _, hc11, hg11⟩
     have O11 := blk_g (O10.alloc _) hg11 (by omega)
     have R11 := blk_g (R10.alloc _) hg11 (by omega)
     have G11 := G10.trans (gb_al hg11)
     have x0 := O11.get (x := .int .i64 2) 0 rfl
     have x2 := O11.get (x := .int .i64 0) 2 rfl
     have y0 := O11.frozen 0
     have y2 := O11.frozen 2
     have lx := O11.lt
     obtain ⟨WC, hWC⟩ : ∃ W, w11.setCell ⟨w4.heap.size, 0, none⟩ (.int .i64 z11) = W := ⟨_, rfl⟩
     have hbz : Below w.heap.size w11 WC := by rw [← hWC]; exact (Below.refl _ _).setCell (p := ⟨w4.heap.size, 0, none⟩) (by simp only; omega) _
     have OWC : Blk WC w4.heap.size 32 #[.int .i64 z11, .string s, .int .i64 0] := by rw [← hWC]; exact O11.put 0 (.int .i64 z11) _ rfl
     have RWC : Blk WC w.heap.size 32 #[.int .i64 0, .string ⟨#[]⟩, .int .i64 0] := by rw [← hWC]; exact R11.far (p := ⟨w4.heap.size, 0, none⟩) (by simp only; omega) _
     have hcWC := hc11.bel hbz hlt
     have GWC := gb_bel0 G11 hbz
     go_upto_region 10 with fail
     try rw [hWC]
     clear x0 x2 y0 y2 lx hWC O11 R11 hc11 G11 hbz hg11
     have a0 := OWC.get (x := .int .i64 z11) 0 rfl
     have a1 := OWC.get (x := .string s) 1 rfl
     have a2 := OWC.get (x := .int .i64 0) 2 rfl
     obtain ⟨b0, b1, b2⟩ := RWC.g3
     obtain ⟨f0, f1, f2⟩ := RWC.f3
     have lO := OWC.lt
     have lR := RWC.lt
     have HR := Lib.hid (((RWC.put 0 (.int .i64 z11) #[.int .i64 z11, .string ⟨#[]⟩, .int .i64 0] rfl).put 1 (.string s) #[.int .i64 z11, .string s, .int .i64 0] rfl).put 2 (.int .i64 0) #[.int .i64 z11, .string s, .int .i64 0] rfl)
     have hbz : Below w.heap.size WC (((WC.setCell ⟨w.heap.size, 0, none⟩ (.int .i64 z11)).setCell ⟨w.heap.size, 1, none⟩ (.string s)).setCell ⟨w.heap.size, 2, none⟩ (.int .i64 0)) := (((Below.refl _ _).setCell (p := ⟨w.heap.size, 0, none⟩) (Nat.le_refl _) _).setCell (p := ⟨w.heap.size, 1, none⟩) (Nat.le_refl _) _).setCell (p := ⟨w.heap.size, 2, none⟩) (Nat.le_refl _) _
     go_wp2
     have r0 := HR.out.get (x := .int .i64 z11) 0 rfl
     have r1 := HR.out.get (x := .string s) 1 rfl
     have r2 := HR.out.get (x := .int .i64 0) 2 rfl
     refine bodyPost_ret (v := .agg #[.int .i64 z11, .string s, .int .i64 0]) (by simp [results, Tryz.results24, go_sem, r0, r1, r2]) rfl ⟨z11, s, 0, rfl, hs, hcWC.bel hbz hlt, gb_bel0 GWC hbz⟩
   case true =>
    go_wp2_with fail
    refine (l1PickInt_any g A n cp bs hn (some ⟨w8.heap.size, 0, none⟩) 4 4 opi1 (by omega) (by omega) _ (hc8.alloc _) (show Reads _ _ 1 _ _ _ from reads_lit w8 _ _ _ rfl) (fun ad e => by injection e with e; rw [← e]; simp only; have := hc8.lt; omega)).mono ?_
    rintro e w9 ⟨z9, rfl, _, hc9, hg9⟩
    have O9 := blk_g (O8.alloc _) hg9 (by omega)
    have R9 := blk_g (R8.alloc _) hg9 (by omega)
    have G9 := G8.trans (gb_al hg9)
    have x0 := O9.get (x := .int .i64 2) 0 rfl
    have x2 := O9.get (x := .int .i64 0) 2 rfl
    have y0 := O9.frozen 0
    have y2 := O9.frozen 2
    have lx := O9.lt
    obtain ⟨WB, hWB⟩ : ∃ W, w9.setCell ⟨w4.heap.size, 2, none⟩ (.int .i64 z9) = W := ⟨_, rfl⟩
    have hbz : Below w.heap.size w9 WB := by rw [← hWB]; exact (Below.refl _ _).setCell (p := ⟨w4.heap.size, 2, none⟩) (by simp only; omega) _
    have OWB : Blk WB w4.heap.size 32 #[.int .i64 2, .string s, .int .i64 z9] := by rw [← hWB]; exact O9.put 2 (.int .i64 z9) _ rfl
    have RWB : Blk WB w.heap.size 32 #[.int .i64 0, .string ⟨#[]⟩, .int .i64 0] := by rw [← hWB]; exact R9.far (p := ⟨w4.heap.size, 2, none⟩) (by simp only; omega) _
    have hcWB := hc9.bel hbz hlt
    have GWB := gb_bel0 G9 hbz
    go_upto_region 8 with fail
    try rw [hWB]
    clear x0 x2 y0 y2 lx hWB O9 R9 hc9 G9 hbz hg9
    go_wp2_with fail
    refine (Ho.out 20 (by omega) WB hcWB).mono ?_
    rintro e w10 ⟨b, rfl, hc10, hg10⟩
    have O10 := blk_g OWB hg10 (by omega)
    have R10 := blk_g RWB hg10 (by omega)
    have G10 := GWB.trans hg10
    clear OWB RWB hcWB GWB hg10
    cases b
    case false =>
     have a0 := O10.get (x := .int .i64 2) 0 rfl
     have a1 := O10.get (x := .string s) 1 rfl
     have a2 := O10.get (x := .int .i64 z9) 2 rfl
     obtain ⟨b0, b1, b2⟩ := R10.g3
     obtain ⟨f0, f1, f2⟩ := R10.f3
     have lO := O10.lt
     have lR := R10.lt
     have HR := Lib.hid (((R10.put 0 (.int .i64 2) #[.int .i64 2, .string ⟨#[]⟩, .int .i64 0] rfl).put 1 (.string s) #[.int .i64 2, .string s, .int .i64 0] rfl).put 2 (.int .i64 z9) #[.int .i64 2, .string s, .int .i64 z9] rfl)
     have hbz : Below w.heap.size w10 (((w10.setCell ⟨w.heap.size, 0, none⟩ (.int .i64 2)).setCell ⟨w.heap.size, 1, none⟩ (.string s)).setCell ⟨w.heap.size, 2, none⟩ (.int .i64 z9)) := (((Below.refl _ _).setCell (p := ⟨w.heap.size, 0, none⟩) (Nat.le_refl _) _).setCell (p := ⟨w.heap.size, 1, none⟩) (Nat.le_refl _) _).setCell (p := ⟨w.heap.size, 2, none⟩) (Nat.le_refl _) _
     go_wp2
     have r0 := HR.out.get (x := .int .i64 2) 0 rfl
     have r1 := HR.out.get (x := .string s) 1 rfl
     have r2 := HR.out.get (x := .int .i64 z9) 2 rfl
     refine bodyPost_ret (v := .agg #[.int .i64 2, .string s, .int .i64 z9]) (by simp [results, Tryz.results24, go_sem, r0, r1, r2]) rfl ⟨2, s, z9, rfl, hs, hc10.bel hbz hlt, gb_bel0 G10 hbz⟩
    case true =>
     go_wp2_with fail
     refine (l1PickInt_any g A n cp bs hn (some ⟨w10.heap.size, 0, none⟩) 2 2 opi2 (by omega) (by omega) _ (hc10.alloc _) (show Reads _ _ 1 _ _ _ from reads_lit w10 _ _ _ rfl) (fun ad e => by injection e with e; rw [← e]; simp only; have := hc10.lt; omega)).mono ?_
     rintro e w11 ⟨z11, rfl, _, hc11, hg11⟩
     have O11 := blk_g (O10.alloc _) hg11 (by omega)
     have R11 := blk_g (R10.alloc _) hg11 (by omega)
     have G11 := G10.trans (gb_al hg11)
     have x0 := O11.get (x := .int .i64 2) 0 rfl
     have x2 := O11.get (x := .int .i64 z9) 2 rfl
     have y0 := O11.frozen 0
     have y2 := O11.frozen 2
     have lx := O11.lt
     obtain ⟨WC, hWC⟩ : ∃ W, w11.setCell ⟨w4.heap.size, 0, none⟩ (.int .i64 z11) = W := ⟨_, rfl⟩
     have hbz : Below w.heap.size w11 WC := by rw [← hWC]; exact (Below.refl _ _).setCell (p := ⟨w4.heap.size, 0, none⟩) (by simp only; omega) _
     have OWC : Blk WC w4.heap.size 32 #[.int .i64 z11, .string s, .int .i64 z9] := by rw [← hWC]; exact O11.put 0 (.int .i64 z11) _ rfl
     have RWC : Blk WC w.heap.size 32 #[.int .i64 0, .string ⟨#[]⟩, .int .i64 0] := by rw [← hWC]; exact R11.far (p := ⟨w4.heap.size, 0, none⟩) (by simp only; omega) _
     have hcWC := hc11.bel hbz hlt
     have GWC := gb_bel0 G11 hbz
     go_upto_region 10 with fail
     try rw [hWC]
     clear x0 x2 y0 y2 lx hWC O11 R11 hc11 G11 hbz hg11
     have a0 := OWC.get (x := .int .i64 z11) 0 rfl
     have a1 := OWC.get (x := .string s) 1 rfl
     have a2 := OWC.get (x := .int .i64 z9) 2 rfl
     obtain ⟨b0, b1, b2⟩ := RWC.g3
     obtain ⟨f0, f1, f2⟩ := RWC.f3
     have lO := OWC.lt
     have lR := RWC.lt
     have HR := Lib.hid (((RWC.put 0 (.int .i64 z11) #[.int .i64 z11, .string ⟨#[]⟩, .int .i64 0] rfl).put 1 (.string s) #[.int .i64 z11, .string s, .int .i64 0] rfl).put 2 (.int .i64 z9) #[.int .i64 z11, .string s, .int .i64 z9] rfl)
     have hbz : Below w.heap.size WC (((WC.setCell ⟨w.heap.size, 0, none⟩ (.int .i64 z11)).setCell ⟨w.heap.size, 1, none⟩ (.string s)).setCell ⟨w.heap.size, 2, none⟩ (.int .i64 z9)) := (((Below.refl _ _).setCell (p := ⟨w.heap.size, 0, none⟩) (Nat.le_refl _) _).setCell (p := ⟨w.heap.size, 1, none⟩) (Nat.le_refl _) _).setCell (p := ⟨w.heap.size, 2, none⟩) (Nat.le_refl _) _
     go_wp2
     have r0 := HR.out.get (x := .int .i64 z11) 0 rfl
     have r1 := HR.out.get (x := .string s) 1 rfl
     have r2 := HR.out.get (x := .int .i64 z9) 2 rfl
     refine bodyPost_ret (v := .agg #[.int .i64 z11, .string s, .int .i64 z9]) (by simp [results, Tryz.results24, go_sem, r0, r1, r2]) rfl ⟨z11, s, z9, rfl, hs, hcWC.bel hbz hlt, gb_bel0 GWC hbz⟩
  ·have hk3 : (K == 2) = false := by simpa using hk2
   go_upto_region 6 with fail
   clear x0 x2 y0 y2 lx
   go_wp2_with fail
   refine (Ho.out 12 (by omega) w6 hc6).mono ?_
   rintro e w8 ⟨b, rfl, hc8, hg8⟩
   have O8 := blk_g O6 hg8 (by omega)
   have R8 := blk_g R6 hg8 (by omega)
   have G8 := G6.trans hg8
   clear O6 R6 hc6 G6 hg8
   cases b
   case false =>
    go_wp2_with fail
    refine (Ho.out 20 (by omega) w8 hc8).mono ?_
    rintro e w10 ⟨b, rfl, hc10, hg10⟩
    have O10 := blk_g O8 hg10 (by omega)
    have R10 := blk_g R8 hg10 (by omega)
    have G10 := G8.trans hg10
    clear O8 R8 hc8 G8 hg10
    cases b
    case false =>
     have a0 := O10.get (x := .int .i64 K) 0 rfl
     have a1 := O10.get (x := .string s) 1 rfl
     have a2 := O10.get (x := .int .i64 I) 2 rfl
     obtain ⟨b0, b1, b2⟩ := R10.g3
     obtain ⟨f0, f1, f2⟩ := R10.f3
     have lO := O10.lt
     have lR := R10.lt
     have HR := Lib.hid (((R10.put 0 (.int .i64 K) #[.int .i64 K, .string ⟨#[]⟩, .int .i64 0] rfl).put 1 (.string s) #[.int .i64 K, .string s, .int .i64 0] rfl).put 2 (.int .i64 I) #[.int .i64 K, .string s, .int .i64 I] rfl)
     have hbz : Below w.heap.size w10 (((w10.setCell ⟨w.heap.size, 0, none⟩ (.int .i64 K)).setCell ⟨w.heap.size, 1, none⟩ (.string s)).setCell ⟨w.heap.size, 2, none⟩ (.int .i64 I)) := (((Below.refl _ _).setCell (p := ⟨w.heap.size, 0, none⟩) (Nat.le_refl _) _).setCell (p := ⟨w.heap.size, 1, none⟩) (Nat.le_refl _) _).setCell (p := ⟨w.heap.size, 2, none⟩) (Nat.le_refl _) _
     go_wp2
     have r0 := HR.out.get (x := .int .i64 K) 0 rfl
     have r1 := HR.out.get (x := .string s) 1 rfl
     have r2 := HR.out.get (x := .int .i64 I) 2 rfl
     refine bodyPost_ret (v := .agg #[.int .i64 K, .string s, .int .i64 I]) (by simp [results, Tryz.results24, go_sem, r0, r1, r2]) rfl ⟨K, s, I, rfl, hs, hc10.bel hbz hlt, gb_bel0 G10 hbz⟩
    case true =>
     go_wp2_with fail
     refine (l1PickInt_any g A n cp bs hn (some ⟨w10.heap.size, 0, none⟩) 2 2 opi2 (by omega) (by omega) _ (hc10.alloc _) (show Reads _ _ 1 _ _ _ from reads_lit w10 _ _ _ rfl) (fun ad e => by injection e with e; rw [← e]; simp only; have := hc10.lt; omega)).mono ?_
     rintro e w11 ⟨z11, rfl, _, hc11, hg11⟩
     have O11 := blk_g (O10.alloc _) hg11 (by omega)
     have R11 := blk_g (R10.alloc _) hg11 (by omega)
     have G11 := G10.trans (gb_al hg11)
     have x0 := O11.get (x := .int .i64 K) 0 rfl
     have x2 := O11.get (x := .int .i64 I) 2 rfl
     have y0 := O11.frozen 0
     have y2 := O11.frozen 2
     have lx := O11.lt
     obtain ⟨WC, hWC⟩ : ∃ W, w11.setCell ⟨w4.heap.size, 0, none⟩ (.int .i64 z11) = W := ⟨_, rfl⟩
     have hbz : Below w.heap.size w11 WC := by rw [← hWC]; exact (Below.refl _ _).setCell (p := ⟨w4.heap.size, 0, none⟩) (by simp only; omega) _
     have OWC : Blk WC w4.heap.size 32 #[.int .i64 z11, .string s, .int .i64 I] := by rw [← hWC]; exact O11.put 0 (.int .i64 z11) _ rfl
     have RWC : Blk WC w.heap.size 32 #[.int .i64 0, .string ⟨#[]⟩, .int .i64 0] := by rw [← hWC]; exact R11.far (p := ⟨w4.heap.size, 0, none⟩) (by simp only; omega) _
     have hcWC := hc11.bel hbz hlt
     have GWC := gb_bel0 G11 hbz
     go_upto_region 10 with fail
     try rw [hWC]
     clear x0 x2 y0 y2 lx hWC O11 R11 hc11 G11 hbz hg11
     have a0 := OWC.get (x := .int .i64 z11) 0 rfl
     have a1 := OWC.get (x := .string s) 1 rfl
     have a2 := OWC.get (x := .int .i64 I) 2 rfl
     obtain ⟨b0, b1, b2⟩ := RWC.g3
     obtain ⟨f0, f1, f2⟩ := RWC.f3
     have lO := OWC.lt
     have lR := RWC.lt
     have HR := Lib.hid (((RWC.put 0 (.int .i64 z11) #[.int .i64 z11, .string ⟨#[]⟩, .int .i64 0] rfl).put 1 (.string s) #[.int .i64 z11, .string s, .int .i64 0] rfl).put 2 (.int .i64 I) #[.int .i64 z11, .string s, .int .i64 I] rfl)
     have hbz : Below w.heap.size WC (((WC.setCell ⟨w.heap.size, 0, none⟩ (.int .i64 z11)).setCell ⟨w.heap.size, 1, none⟩ (.string s)).setCell ⟨w.heap.size, 2, none⟩ (.int .i64 I)) := (((Below.refl _ _).setCell (p := ⟨w.heap.size, 0, none⟩) (Nat.le_refl _) _).setCell (p := ⟨w.heap.size, 1, none⟩) (Nat.le_refl _) _).setCell (p := ⟨w.heap.size, 2, none⟩) (Nat.le_refl _) _
     go_wp2
     have r0 := HR.out.get (x := .int .i64 z11) 0 rfl
     have r1 := HR.out.get (x := .string s) 1 rfl
     have r2 := HR.out.get (x := .int .i64 I) 2 rfl
     refine bodyPost_ret (v := .agg #[.int .i64 z11, .string s, .int .i64 I]) (by simp [results, Tryz.results24, go_sem, r0, r1, r2]) rfl ⟨z11, s, I, rfl, hs, hcWC.bel hbz hlt, gb_bel0 GWC hbz⟩
   case true =>
    go_wp2_with fail
    refine (l1PickInt_any g A n cp bs hn (some ⟨w8.heap.size, 0, none⟩) 4 4 opi1 (by omega) (by omega) _ (hc8.alloc _) (show Reads _ _ 1 _ _ _ from reads_lit w8 _ _ _ rfl) (fun ad e => by injection e with e; rw [← e]; simp only; have := hc8.lt; omega)).mono ?_
    rintro e w9 ⟨z9, rfl, _, hc9, hg9⟩
    have O9 := blk_g (O8.alloc _) hg9 (by omega)
    have R9 := blk_g (R8.alloc _) hg9 (by omega)
    have G9 := G8.trans (gb_al hg9)
    have x0 := O9.get (x := .int .i64 K) 0 rfl
    have x2 := O9.get (x := .int .i64 I) 2 rfl
    have y0 := O9.frozen 0
    have y2 := O9.frozen 2
    have lx := O9.lt
    obtain ⟨WB, hWB⟩ : ∃ W, w9.setCell ⟨w4.heap.size, 2, none⟩ (.int .i64 z9) = W := ⟨_, rfl⟩
    have hbz : Below w.heap.size w9 WB := by rw [← hWB]; exact (Below.refl _ _).setCell (p := ⟨w4.heap.size, 2, none⟩) (by simp only; omega) _
    have OWB : Blk WB w4.heap.size 32 #[.int .i64 K, .string s, .int .i64 z9] := by rw [← hWB]; exact O9.put 2 (.int .i64 z9) _ rfl
    have RWB : Blk WB w.heap.size 32 #[.int .i64 0, .string ⟨#[]⟩, .int .i64 0] := by rw [← hWB]; exact R9.far (p := ⟨w4.heap.size, 2, none⟩) (by simp only; omega) _
    have hcWB := hc9.bel hbz hlt
    have GWB := gb_bel0 G9 hbz
    go_upto_region 8 with fail
    try rw [hWB]
    clear x0 x2 y0 y2 lx hWB O9 R9 hc9 G9 hbz hg9
    go_wp2_with fail
    refine (Ho.out 20 (by omega) WB hcWB).mono ?_
    rintro e w10 ⟨b, rfl, hc10, hg10⟩
    have O10 := blk_g OWB hg10 (by omega)
    have R10 := blk_g RWB hg10 (by omega)
    have G10 := GWB.trans hg10
    clear OWB RWB hcWB GWB hg10
    cases b
    case false =>
     have a0 := O10.get (x := .int .i64 K) 0 rfl
     have a1 := O10.get (x := .string s) 1 rfl
     have a2 := O10.get (x := .int .i64 z9) 2 rfl
     obtain ⟨b0, b1, b2⟩ := R10.g3
     obtain ⟨f0, f1, f2⟩ := R10.f3
     have lO := O10.lt
     have lR := R10.lt
     have HR := Lib.hid (((R10.put 0 (.int .i64 K) #[.int .i64 K, .string ⟨#[]⟩, .int .i64 0] rfl).put 1 (.string s) #[.int .i64 K, .string s, .int .i64 0] rfl).put 2 (.int .i64 z9) #[.int .i64 K, .string s, .int .i64 z9] rfl)
     have hbz : Below w.heap.size w10 (((w10.setCell ⟨w.heap.size, 0, none⟩ (.int .i64 K)).setCell ⟨w.heap.size, 1, none⟩ (.string s)).setCell ⟨w.heap.size, 2, none⟩ (.int .i64 z9)) := (((Below.refl _ _).setCell (p := ⟨w.heap.size, 0, none⟩) (Nat.le_refl _) _).setCell (p := ⟨w.heap.size, 1, none⟩) (Nat.le_refl _) _).setCell (p := ⟨w.heap.size, 2, none⟩) (Nat.le_refl _) _
     go_wp2
     have r0 := HR.out.get (x := .int .i64 K) 0 rfl
     have r1 := HR.out.get (x := .string s) 1 rfl
     have r2 := HR.out.get (x := .int .i64 z9) 2 rfl
     refine bodyPost_ret (v := .agg #[.int .i64 K, .string s, .int .i64 z9]) (by simp [results, Tryz.results24, go_sem, r0, r1, r2]) rfl ⟨K, s, z9, rfl, hs, hc10.bel hbz hlt, gb_bel0 G10 hbz⟩
    case true =>
     go_wp2_with fail
     refine (l1PickInt_any g A n cp bs hn (some ⟨w10.heap.size, 0, none⟩) 2 2 opi2 (by omega) (by omega) _ (hc10.alloc _) (show Reads _ _ 1 _ _ _ from reads_lit w10 _ _ _ rfl) (fun ad e => by injection e with e; rw [← e]; simp only; have := hc10.lt; omega)).mono ?_
     rintro e w11 ⟨z11, rfl, _, hc11, hg11⟩
     have O11 := blk_g (O10.alloc _) hg11 (by omega)
     have R11 := blk_g (R10.alloc _) hg11 (by omega)
     have G11 := G10.trans (gb_al hg11)
     have x0 := O11.get (x := .int .i64 K) 0 rfl
     have x2 := O11.get (x := .int .i64 z9) 2 rfl
     have y0 := O11.frozen 0
     have y2 := O11.frozen 2
     have lx := O11.lt
     obtain ⟨WC, hWC⟩ : ∃ W, w11.setCell ⟨w4.heap.size, 0, none⟩ (.int .i64 z11) = W := ⟨_, rfl⟩
     have hbz : Below w.heap.size w11 WC := by rw [← hWC]; exact (Below.refl _ _).setCell (p := ⟨w4.heap.size, 0, none⟩) (by simp only; omega) _
     have OWC : Blk WC w4.heap.size 32 #[.int .i64 z11, .string s, .int .i64 z9] := by rw [← hWC]; exact O11.put 0 (.int .i64 z11) _ rfl
     have RWC : Blk WC w.heap.size 32 #[.int .i64 0, .string ⟨#[]⟩, .int .i64 0] := by rw [← hWC]; exact R11.far (p := ⟨w4.heap.size, 0, none⟩) (by simp only; omega) _
     have hcWC := hc11.bel hbz hlt
     have GWC := gb_bel0 G11 hbz
     go_upto_region 10 with fail
     try rw [hWC]
     clear x0 x2 y0 y2 lx hWC O11 R11 hc11 G11 hbz hg11
     have a0 := OWC.get (x := .int .i64 z11) 0 rfl
     have a1 := OWC.get (x := .string s) 1 rfl
     have a2 := OWC.get (x := .int .i64 z9) 2 rfl
     obtain ⟨b0, b1, b2⟩ := RWC.g3
     obtain ⟨f0, f1, f2⟩ := RWC.f3
     have lO := OWC.lt
     have lR := RWC.lt
     have HR := Lib.hid (((RWC.put 0 (.int .i64 z11) #[.int .i64 z11, .string ⟨#[]⟩, .int .i64 0] rfl).put 1 (.string s) #[.int .i64 z11, .string s, .int .i64 0] rfl).put 2 (.int .i64 z9) #[.int .i64 z11, .string s, .int .i64 z9] rfl)
     have hbz : Below w.heap.size WC (((WC.setCell ⟨w.heap.size, 0, none⟩ (.int .i64 z11)).setCell ⟨w.heap.size, 1, none⟩ (.string s)).setCell ⟨w.heap.size, 2, none⟩ (.int .i64 z9)) := (((Below.refl _ _).setCell (p := ⟨w.heap.size, 0, none⟩) (Nat.le_refl _) _).setCell (p := ⟨w.heap.size, 1, none⟩) (Nat.le_refl _) _).setCell (p := ⟨w.heap.size, 2, none⟩) (Nat.le_refl _) _
     go_wp2
     have r0 := HR.out.get (x := .int .i64 z11) 0 rfl
     have r1 := HR.out.get (x := .string s) 1 rfl
     have r2 := HR.out.get (x := .int .i64 z9) 2 rfl
     refine bodyPost_ret (v := .agg #[.int .i64 z11, .string s, .int .i64 z9]) (by simp [results, Tryz.results24, go_sem, r0, r1, r2]) rfl ⟨z11, s, z9, rfl, hs, hcWC.bel hbz hlt, gb_bel0 GWC hbz⟩

end Go.Proofs.YtghgafbfpejinaaGreatDoor
