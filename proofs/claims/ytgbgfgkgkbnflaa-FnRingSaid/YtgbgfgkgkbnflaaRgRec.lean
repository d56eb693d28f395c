/- What is drawn: records, their texts. -/
import Derived.Test.YtgbgfgkgkbnflaaRgPut
import Derived.Test.YtgbgfgkgkbnflaaRgDraw
namespace Go.Proofs.Ytgbgfgkgkbnflaa
open Go Go.RowKit

theorem blk_g {w w' : World} {b g : Nat} {t : TypeId} {cs : Array Value} (h : Blk w b t cs) (hg : w.grownBy w' (some g)) (hne : b ≠ g) : Blk w' b t cs := h.grown hg (by intro e; injection e with e; exact hne e)
def lenV : Value → Nat
  | .slice _ n _ => n
  | _ => 0
def sq1 : List Int := [-1, 0, 1000000, 1000001]

set_option maxRecDepth 100000 in
set_option maxHeartbeats 8000000 in
theorem l24Rec_any (g : Nat) (A : Option Addr) (n cp : Nat) (bs : List UInt8) (hn : n ≤ 9223372036854775806) (w : World) (h : Curs w g A n cp bs) :
    Calls Try.prog 15 #[.pointer (some ⟨g, 0, none⟩)] w fun e w' => ∃ (q : Int) (s : ByteArray), e = .returned (.agg #[.int .i64 q, .string s]) ∧ s.size ≤ 81 ∧ Curs w' g A n cp bs ∧ w.grownBy w' (some g) := by
  have Hb := Lib.hid (fun m hm W hW => l1Below_any g A n cp bs hn m hm W hW)
  have Ho := Lib.hid (fun m hm W hW => l1Once_any g A n cp bs hn m hm W hW)
  have Ht := Lib.hid (fun W hW => l1Text_any g A n cp bs hn 6 (by omega) W hW)
  have hlt := h.lt
  obtain ⟨W1, hW1⟩ : ∃ W, w.alloc (.cells #[.int .i64 0, .string ⟨#[]⟩] 26) = W := ⟨_, rfl⟩
  have R1 : Blk W1 w.heap.size 26 #[.int .i64 0, .string ⟨#[]⟩] := by rw [← hW1]; exact Blk.new' _ _ _ _ rfl
  have hc1 : Curs W1 g A n cp bs := by rw [← hW1]; exact h.alloc _
  have G1 : w.grownBy W1 (some g) := by rw [← hW1]; exact gb_al (grown_refl _ _)
  have HW1 := Lib.hid hW1
  clear hW1
  go_enter Try.func15, Try.ntmps15
  go_wp2_with fail
  rw [HW1.out]
  refine (Hb.out 20 (by omega) W1 hc1).mono ?_
  rintro e w2 ⟨x, rfl, _, hx, hc2, hg2⟩
  obtain ⟨hx0, hx1⟩ := hx (by omega)
  have R2 := blk_g R1 hg2 (by omega)
  have G2 := G1.trans hg2
  go_wp2_with fail
  refine (Ht.out w2 hc2).mono ?_
  rintro e w3 ⟨s, rfl, hs, hc3, hg3⟩
  have R3 := blk_g R2 hg3 (by omega)
  have G3 := G2.trans hg3
  have l3 := R3.lt
  obtain ⟨K, hK⟩ : ∃ K, 1 + x = K := ⟨_, rfl⟩
  obtain ⟨W5, hW5⟩ : ∃ W, w3.alloc (.cells #[.int .i64 K, .string s] 26) = W := ⟨_, rfl⟩
  have O5 : Blk W5 w3.heap.size 26 #[.int .i64 K, .string s] := by rw [← hW5]; exact Blk.new' _ _ _ _ rfl
  have hc5 : Curs W5 g A n cp bs := by rw [← hW5]; exact hc3.alloc _
  have G5 : w.grownBy W5 (some g) := by rw [← hW5]; exact gb_below G3 (belA (bel0 _) _)
  have R5 : Blk W5 w.heap.size 26 #[.int .i64 0, .string ⟨#[]⟩] := by rw [← hW5]; exact R3.alloc _
  have gG : g < w3.heap.size := by omega
  go_upto_region 2 with fail
  try rw [hK]
  try rw [hW5]
  clear hW5 R1 R2 R3 hc1 hc2 hc3 G1 G2 G3 hK hg2 hg3
  go_wp2_with fail
  refine (Ho.out 12 (by omega) W5 hc5).mono ?_
  rintro e w4 ⟨b, rfl, hc4, hg4⟩
  have O4 := blk_g O5 hg4 (by omega)
  have R4 := blk_g R5 hg4 (by omega)
  have G4 := G5.trans hg4
  clear O5 R5 hc5 G5 hg4
  cases b
  case false =>
    go_wp2_with fail
    refine (Ho.out 20 (by omega) w4 hc4).mono ?_
    rintro e w6 ⟨b, rfl, hc6, hg6⟩
    have O6 := blk_g O4 hg6 (by omega)
    have R6 := blk_g R4 hg6 (by omega)
    have G6 := G4.trans hg6
    clear O4 R4 hc4 G4 hg6
    cases b
    case false =>
      have a0 := O6.get (x := .int .i64 K) 0 rfl
      have a1 := O6.get (x := .string s) 1 rfl
      have b0 := R6.get 0 rfl
      have b1 := R6.get 1 rfl
      have f0 := R6.frozen 0
      have f1 := R6.frozen 1
      have lO := O6.lt
      have lR := R6.lt
      have HR := Lib.hid ((R6.put 0 (.int .i64 K) #[.int .i64 K, .string ⟨#[]⟩] rfl).put 1 (.string s) #[.int .i64 K, .string s] rfl)
      have hbz : Below w.heap.size w6 ((w6.setCell ⟨w.heap.size, 0, none⟩ (.int .i64 K)).setCell ⟨w.heap.size, 1, none⟩ (.string s)) := ((Below.refl _ _).setCell (p := ⟨w.heap.size, 0, none⟩) (Nat.le_refl _) _).setCell (p := ⟨w.heap.size, 1, none⟩) (Nat.le_refl _) _
      go_wp2
      have r0 := HR.out.get (x := .int .i64 K) 0 rfl
      have r1 := HR.out.get (x := .string s) 1 rfl
      refine bodyPost_ret (v := .agg #[.int .i64 K, .string s]) (by simp [results, Try.results15, go_sem, r0, r1]) rfl ⟨K, s, rfl, by omega, hc6.bel hbz hlt, gb_bel0 G6 hbz⟩
    case true =>
      have own0 := World.ownsRow_lit (e := 5) (size := 1) w6 #[] 0 (Nat.le_refl _) (by unfold maxLen; omega) rfl
      have O7 := O6.alloc (.cells #[] 5)
      have R7 := R6.alloc (.cells #[] 5)
      have G7 := gb_bel0 G6 (belA (bel0 w6) (.cells #[] 5) |>.mono (by have := R6.lt; omega))
      have hc7 := hc6.alloc (.cells #[] 5)
      have hl6 := R6.lt
      have hl7 := O6.lt
      clear O6 R6 G6
      go_wp2_with fail
      refine (Hb.out 2 (by omega) _ hc7).mono ?_
      rintro e w8 ⟨y, rfl, _, hy, hc8, hg8⟩
      obtain ⟨hy0, hy1⟩ := hy (by omega)
      have O8 := blk_g O7 hg8 (by omega)
      have R8 := blk_g R7 hg8 (by omega)
      have G8 := G7.trans hg8
      have own8 := own_g own0 hg8 (by have := hc6.lt; omega)
      obtain ⟨N, hN⟩ : ∃ N : Nat, 80 + y = (N : Int) := ⟨(80 + y).toNat, by omega⟩
      have hN1 : N ≤ 81 := by omega
      have hN2 : 1 ≤ N := by omega
      clear O7 R7 G7 hc7 own0 hy
      have O8h := Lib.hid O8
      have R8h := Lib.hid R8
      have G8h := Lib.hid G8
      have c8h := Lib.hid hc8
      have own8h := Lib.hid own8
      have sz8 : w6.heap.size ≤ w8.heap.size := by have := hg8.size; simp at this; omega
      clear O8 R8 G8 own8 hc8 hg8
      go_wp2
      go_loopw [4] (fun v wr => ∃ l : List UInt8, l.length ≤ N ∧ w6.heap.size ≤ wr.heap.size ∧ Hid (wr.ownsRow w6.heap.size 5 1 v l.length (B8 l)) ∧ Blk wr w3.heap.size 26 #[.int .i64 K, .string s] ∧ Blk wr w.heap.size 26 #[.int .i64 0, .string ⟨#[]⟩] ∧ Curs wr g A n cp bs ∧ w.grownBy wr (some g))
        (fun v _ => N - lenV v)
      case atStart => exact ⟨[], Nat.zero_le _, sz8, own8h, O8h.out, R8h.out, c8h.out, G8h.out⟩
      case round =>
        clear own8h O8h R8h c8h G8h
        obtain ⟨l, hl, sz, Own, O, R, hc, G⟩ := hrel
        obtain ⟨A2, c2, rfl, _, _, _⟩ := own_vals Own.out
        by_cases hlN : l.length < N
        · have hI : (l.length : Int) < (N : Int) := by omega
          go_wp2_with (at_builtin; go_must (refine wpList_app _ rfl _ _ _ rfl Try.el_u8 (Own.out.alloc _) rfl (reads_new _ _ _ _ 1 (by rfl)) rfl (B8_cells [65]) (max_small (by omega)) (by omega) (by simp; omega) ?_); intro v3 w9 own3 hg3 _ hb3)
          have own4 : w9.ownsRow w6.heap.size 5 1 v3 (l ++ [65]).length (B8 (l ++ [65])) := by rw [B8_append, List.length_append]; exact own3
          have hb4 : Below w6.heap.size wr w9 := ((Below.refl w6.heap.size wr).alloc sz (.cells #[.int .u8 65] 5)).trans hb3
          have hc4 := hc.bel hb4 (by omega)
          have G4 := gb_bel0 G (hb4.mono (by omega))
          have O4 := O.below hb4 (by omega)
          have R4 := R.below hb4 (by omega)
          have sz4 := hb4.size
          have Own4 := Lib.hid own4
          have hl4 : lenV v3 = l.length + 1 := by obtain ⟨A3, c3, rfl, _, _, _⟩ := own_vals own4; simp [lenV]
          clear own3 own4 hg3
          go_wp2
          first
            | exact ⟨⟨l ++ [65], by simp; omega, by omega, Own4, O4, R4, hc4, G4⟩, by rw [hl4]; simp only [lenV]; omega⟩
            | (go_roundw; case rel => exact ⟨l ++ [65], by simp; omega, by omega, Own4, O4, R4, hc4, G4⟩; case measure => (rw [hl4]; simp only [lenV]; omega))
        · have hI : ¬ ((l.length : Int) < (N : Int)) := by omega
          have hcv := run_convert_own Try.underlying22 Try.underlying5 Try.underlying9 Own.out
          have x1 := O.get (x := .string s) 1 rfl
          have y1 := O.frozen 1
          have lx := O.lt
          obtain ⟨WB, hWB⟩ : ∃ W, wr.setCell ⟨w3.heap.size, 1, none⟩ (.string (str l)) = W := ⟨_, rfl⟩
          have hbw : Below w.heap.size wr WB := by rw [← hWB]; exact (Below.refl _ _).setCell (p := ⟨w3.heap.size, 1, none⟩) (by simp only; omega) _
          have OB : Blk WB w3.heap.size 26 #[.int .i64 K, .string (str l)] := by rw [← hWB]; exact O.put 1 (.string (str l)) _ rfl
          have RB : Blk WB w.heap.size 26 #[.int .i64 0, .string ⟨#[]⟩] := by rw [← hWB]; exact R.far (p := ⟨w3.heap.size, 1, none⟩) (by simp only; omega) _
          have hcB := hc.bel hbw hlt
          have GB := gb_bel0 G hbw
          have a0 := OB.get (x := .int .i64 K) 0 rfl
          have a1 := OB.get (x := .string (str l)) 1 rfl
          have b0 := RB.get 0 rfl
          have b1 := RB.get 1 rfl
          have f0 := RB.frozen 0
          have f1 := RB.frozen 1
          have lO := OB.lt
          have lR := RB.lt
          have HR := Lib.hid ((RB.put 0 (.int .i64 K) #[.int .i64 K, .string ⟨#[]⟩] rfl).put 1 (.string (str l)) #[.int .i64 K, .string (str l)] rfl)
          have hbz : Below w.heap.size WB ((WB.setCell ⟨w.heap.size, 0, none⟩ (.int .i64 K)).setCell ⟨w.heap.size, 1, none⟩ (.string (str l))) := ((Below.refl _ _).setCell (p := ⟨w.heap.size, 0, none⟩) (Nat.le_refl _) _).setCell (p := ⟨w.heap.size, 1, none⟩) (Nat.le_refl _) _
          go_wp2
          have r0 := HR.out.get (x := .int .i64 K) 0 rfl
          have r1 := HR.out.get (x := .string (str l)) 1 rfl
          refine bodyPost_ret (v := .agg #[.int .i64 K, .string (str l)]) (by simp [results, Try.results15, go_sem, r0, r1]) rfl ⟨K, (str l), rfl, by rw [str_size]; omega, hcB.bel hbz hlt, gb_bel0 GB hbz⟩
  case true =>
    go_wp2_with fail
    refine (l1PickInt_any g A n cp bs hn (some ⟨w4.heap.size, 0, none⟩) 4 4 sq1 (by omega) (by omega) _ (hc4.alloc _) (show Reads _ _ 1 _ _ _ from reads_lit w4 _ _ _ rfl) (fun ad e => by injection e with e; rw [← e]; simp only; have := hc4.lt; omega)).mono ?_
    rintro e w5 ⟨z, rfl, _, hc5, hg5⟩
    have O5 := blk_g (O4.alloc _) hg5 (by omega)
    have R5 := blk_g (R4.alloc _) hg5 (by omega)
    have G5 := G4.trans (gb_al hg5)
    clear O4 R4 hc4 G4 hg5
    have a0 := O5.get (x := .int .i64 K) 0 rfl
    have f0 := O5.frozen 0
    have lO := O5.lt
    have lR := R5.lt
    obtain ⟨WA, hWA⟩ : ∃ W, w5.setCell ⟨w3.heap.size, 0, none⟩ (.int .i64 z) = W := ⟨_, rfl⟩
    have hbz : Below w.heap.size w5 WA := by rw [← hWA]; exact (Below.refl _ _).setCell (p := ⟨w3.heap.size, 0, none⟩) (by simp only; omega) _
    have OA : Blk WA w3.heap.size 26 #[.int .i64 z, .string s] := by rw [← hWA]; exact O5.put 0 (.int .i64 z) _ rfl
    have RA : Blk WA w.heap.size 26 #[.int .i64 0, .string ⟨#[]⟩] := by rw [← hWA]; exact R5.far (p := ⟨w3.heap.size, 0, none⟩) (by simp only; omega) _
    have hcA := hc5.bel hbz hlt
    have GA := gb_bel0 G5 hbz
    clear O5 R5 hc5 G5 hbz
    go_wp2_with fail
    refine (Ho.out 20 (by omega) WA hcA).mono ?_
    rintro e w6 ⟨b, rfl, hc6, hg6⟩
    have O6 := blk_g OA hg6 (by omega)
    have R6 := blk_g RA hg6 (by omega)
    have G6 := GA.trans hg6
    clear OA RA hcA GA hg6
    cases b
    case false =>
      have a0 := O6.get (x := .int .i64 z) 0 rfl
      have a1 := O6.get (x := .string s) 1 rfl
      have b0 := R6.get 0 rfl
      have b1 := R6.get 1 rfl
      have f0 := R6.frozen 0
      have f1 := R6.frozen 1
      have lO := O6.lt
      have lR := R6.lt
      have HR := Lib.hid ((R6.put 0 (.int .i64 z) #[.int .i64 z, .string ⟨#[]⟩] rfl).put 1 (.string s) #[.int .i64 z, .string s] rfl)
      have hbz : Below w.heap.size w6 ((w6.setCell ⟨w.heap.size, 0, none⟩ (.int .i64 z)).setCell ⟨w.heap.size, 1, none⟩ (.string s)) := ((Below.refl _ _).setCell (p := ⟨w.heap.size, 0, none⟩) (Nat.le_refl _) _).setCell (p := ⟨w.heap.size, 1, none⟩) (Nat.le_refl _) _
      go_wp2
      have r0 := HR.out.get (x := .int .i64 z) 0 rfl
      have r1 := HR.out.get (x := .string s) 1 rfl
      refine bodyPost_ret (v := .agg #[.int .i64 z, .string s]) (by simp [results, Try.results15, go_sem, r0, r1]) rfl ⟨z, s, rfl, by omega, hc6.bel hbz hlt, gb_bel0 G6 hbz⟩
    case true =>
      have own0 := World.ownsRow_lit (e := 5) (size := 1) w6 #[] 0 (Nat.le_refl _) (by unfold maxLen; omega) rfl
      have O7 := O6.alloc (.cells #[] 5)
      have R7 := R6.alloc (.cells #[] 5)
      have G7 := gb_bel0 G6 (belA (bel0 w6) (.cells #[] 5) |>.mono (by have := R6.lt; omega))
      have hc7 := hc6.alloc (.cells #[] 5)
      have hl6 := R6.lt
      have hl7 := O6.lt
      clear O6 R6 G6
      go_wp2_with fail
      refine (Hb.out 2 (by omega) _ hc7).mono ?_
      rintro e w8 ⟨y, rfl, _, hy, hc8, hg8⟩
      obtain ⟨hy0, hy1⟩ := hy (by omega)
      have O8 := blk_g O7 hg8 (by omega)
      have R8 := blk_g R7 hg8 (by omega)
      have G8 := G7.trans hg8
      have own8 := own_g own0 hg8 (by have := hc6.lt; omega)
      obtain ⟨N, hN⟩ : ∃ N : Nat, 80 + y = (N : Int) := ⟨(80 + y).toNat, by omega⟩
      have hN1 : N ≤ 81 := by omega
      have hN2 : 1 ≤ N := by omega
      clear O7 R7 G7 hc7 own0 hy
      have O8h := Lib.hid O8
      have R8h := Lib.hid R8
      have G8h := Lib.hid G8
      have c8h := Lib.hid hc8
      have own8h := Lib.hid own8
      have sz8 : w6.heap.size ≤ w8.heap.size := by have := hg8.size; simp at this; omega
      clear O8 R8 G8 own8 hc8 hg8
      go_wp2
      go_loopw [4] (fun v wr => ∃ l : List UInt8, l.length ≤ N ∧ w6.heap.size ≤ wr.heap.size ∧ Hid (wr.ownsRow w6.heap.size 5 1 v l.length (B8 l)) ∧ Blk wr w3.heap.size 26 #[.int .i64 z, .string s] ∧ Blk wr w.heap.size 26 #[.int .i64 0, .string ⟨#[]⟩] ∧ Curs wr g A n cp bs ∧ w.grownBy wr (some g))
        (fun v _ => N - lenV v)
      case atStart => exact ⟨[], Nat.zero_le _, sz8, own8h, O8h.out, R8h.out, c8h.out, G8h.out⟩
      case round =>
        clear own8h O8h R8h c8h G8h
        obtain ⟨l, hl, sz, Own, O, R, hc, G⟩ := hrel
        obtain ⟨A2, c2, rfl, _, _, _⟩ := own_vals Own.out
        by_cases hlN : l.length < N
        · have hI : (l.length : Int) < (N : Int) := by omega
          go_wp2_with (at_builtin; go_must (refine wpList_app _ rfl _ _ _ rfl Try.el_u8 (Own.out.alloc _) rfl (reads_new _ _ _ _ 1 (by rfl)) rfl (B8_cells [65]) (max_small (by omega)) (by omega) (by simp; omega) ?_); intro v3 w9 own3 hg3 _ hb3)
          have own4 : w9.ownsRow w6.heap.size 5 1 v3 (l ++ [65]).length (B8 (l ++ [65])) := by rw [B8_append, List.length_append]; exact own3
          have hb4 : Below w6.heap.size wr w9 := ((Below.refl w6.heap.size wr).alloc sz (.cells #[.int .u8 65] 5)).trans hb3
          have hc4 := hc.bel hb4 (by omega)
          have G4 := gb_bel0 G (hb4.mono (by omega))
          have O4 := O.below hb4 (by omega)
          have R4 := R.below hb4 (by omega)
          have sz4 := hb4.size
          have Own4 := Lib.hid own4
          have hl4 : lenV v3 = l.length + 1 := by obtain ⟨A3, c3, rfl, _, _, _⟩ := own_vals own4; simp [lenV]
          clear own3 own4 hg3
          go_wp2
          first
            | exact ⟨⟨l ++ [65], by simp; omega, by omega, Own4, O4, R4, hc4, G4⟩, by rw [hl4]; simp only [lenV]; omega⟩
            | (go_roundw; case rel => exact ⟨l ++ [65], by simp; omega, by omega, Own4, O4, R4, hc4, G4⟩; case measure => (rw [hl4]; simp only [lenV]; omega))
        · have hI : ¬ ((l.length : Int) < (N : Int)) := by omega
          have hcv := run_convert_own Try.underlying22 Try.underlying5 Try.underlying9 Own.out
          have x1 := O.get (x := .string s) 1 rfl
          have y1 := O.frozen 1
          have lx := O.lt
          obtain ⟨WB, hWB⟩ : ∃ W, wr.setCell ⟨w3.heap.size, 1, none⟩ (.string (str l)) = W := ⟨_, rfl⟩
          have hbw : Below w.heap.size wr WB := by rw [← hWB]; exact (Below.refl _ _).setCell (p := ⟨w3.heap.size, 1, none⟩) (by simp only; omega) _
          have OB : Blk WB w3.heap.size 26 #[.int .i64 z, .string (str l)] := by rw [← hWB]; exact O.put 1 (.string (str l)) _ rfl
          have RB : Blk WB w.heap.size 26 #[.int .i64 0, .string ⟨#[]⟩] := by rw [← hWB]; exact R.far (p := ⟨w3.heap.size, 1, none⟩) (by simp only; omega) _
          have hcB := hc.bel hbw hlt
          have GB := gb_bel0 G hbw
          have a0 := OB.get (x := .int .i64 z) 0 rfl
          have a1 := OB.get (x := .string (str l)) 1 rfl
          have b0 := RB.get 0 rfl
          have b1 := RB.get 1 rfl
          have f0 := RB.frozen 0
          have f1 := RB.frozen 1
          have lO := OB.lt
          have lR := RB.lt
          have HR := Lib.hid ((RB.put 0 (.int .i64 z) #[.int .i64 z, .string ⟨#[]⟩] rfl).put 1 (.string (str l)) #[.int .i64 z, .string (str l)] rfl)
          have hbz : Below w.heap.size WB ((WB.setCell ⟨w.heap.size, 0, none⟩ (.int .i64 z)).setCell ⟨w.heap.size, 1, none⟩ (.string (str l))) := ((Below.refl _ _).setCell (p := ⟨w.heap.size, 0, none⟩) (Nat.le_refl _) _).setCell (p := ⟨w.heap.size, 1, none⟩) (Nat.le_refl _) _
          go_wp2
          have r0 := HR.out.get (x := .int .i64 z) 0 rfl
          have r1 := HR.out.get (x := .string (str l)) 1 rfl
          refine bodyPost_ret (v := .agg #[.int .i64 z, .string (str l)]) (by simp [results, Try.results15, go_sem, r0, r1]) rfl ⟨z, (str l), rfl, by rw [str_size]; omega, hcB.bel hbz hlt, gb_bel0 GB hbz⟩

end Go.Proofs.Ytgbgfgkgkbnflaa
