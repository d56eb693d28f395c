/- Walk of both sides. -/
import Derived.Test.YthdbomkddpnhaaaGreatDoorPWkT
import Derived.Test.YthdbomkddpnhaaaGreatDoorPCpV
import Derived.Test.YthdbomkddpnhaaaGreatDoorPPath
import Derived.Test.YthdbomkddpnhaaaGreatDoorPVolOk
import Derived.Test.YthdbomkddpnhaaaGreatDoorPRegH
namespace Go.Proofs.YthdbomkddpnhaaaGreatDoor
open Go Go.RowKit

set_option maxRecDepth 100000 in
set_option maxHeartbeats 8000000 in
theorem l6Do_look (v : Value) (V : VolD) (sm : szV V ≤ 1048576) (hv : VolP V.nx V.xs) (a : Int) (ha : 0 ≤ plc V.xs a) (s : ByteArray) (hname : nameOkB s = true) (w : World) (hC : IsVolC w v V) :
  Calls Tryz.prog 196 #[v, .agg #[.int .i64 8, .int .i64 a, .string s, .int .i64 0, .string ⟨#[]⟩, .string ⟨#[]⟩]] w fun e w' => e = .returned (.tuple #[v, (lkP V.xs a s).val]) ∧ Below w.heap.size w w' := by
 have hs := name_size hname
 have hid := id_small hv ha
 have hn := v_len sm
 obtain ⟨k, hk, hpl, _⟩ := plc_lt ha
 have Hck := Lib.hid (fun W => callOk_look a s (by omega) hs W)
 have Hat := Lib.hid (fun W hW => l6At_any v V hn a W hW)
 have Hdir := Lib.hid (fun W hW => l6Dir_any v V hn a W hW)
 have Hnm := Lib.hid (fun W => nameOk_spec s (by omega) W)
 have Hon := Lib.hid (fun hd W hW => l6On_look v V sm hv a s hs k hk hpl hd W hW)
 have Hfile := Lib.hid (fun hd => lk_file (s := s) hk hpl hd)
 have Hbg := bg_at hk hpl
 simp only [hpl] at Hat
 simp only [Hbg] at Hdir
 simp only [hname] at Hnm
 have hvv := Lib.hid hC
 have h := hC.is
 obtain ⟨A, c, rfl, h⟩ := h
 obtain ⟨nx, xs⟩ := V
 simp only at Hat Hdir Hon Hfile h hn hk ⊢
 clear h hC hpl hv sm ha Hbg hname
 obtain ⟨y, hy⟩ : ∃ y, xs[k].kd = y := ⟨_, rfl⟩
 simp only [hy] at Hdir Hon Hfile
 clear hy
 obtain ⟨n, hn'⟩ : ∃ n, xs.length = n := ⟨_, rfl⟩
 simp only [hn'] at Hat Hdir Hon hvv hn ⊢
 clear hn'
 have q0 : (0 : Int) ≤ ↑k := by omega
 obtain ⟨W1, hW1⟩ : ∃ W1, (((w.alloc (.cells #[.int .i64 nx, .slice A n c] 30)).alloc (.cells #[.int .i64 8, .int .i64 a, .string s, .int .i64 0, .string ⟨#[]⟩, .string ⟨#[]⟩] 151)).alloc (.cells #[.int .i64 0, .slice none 0 0] 30)).alloc (.cells #[.int .i64 0, .int .i64 0, .string ⟨#[]⟩, .string ⟨#[]⟩] 147) = W1 := ⟨_, rfl⟩
 have B1 : Below w.heap.size w W1 := by rw [← hW1]; exact belA (belA (belA (belA (bel0 w) _) _) _) _
 have hVV : Blk W1 w.heap.size 30 #[.int .i64 nx, .slice A n c] := by rw [← hW1]; exact (((Blk.new' _ _ _ _ rfl).alloc _).alloc _).alloc _
 have hKK : Blk W1 (w.heap.size + 1) 151 #[.int .i64 8, .int .i64 a, .string s, .int .i64 0, .string ⟨#[]⟩, .string ⟨#[]⟩] := by rw [← hW1]; exact ((Blk.new' _ _ _ _ (by simp)).alloc _).alloc _
 have hXX : Blk W1 (w.heap.size + 2) 30 #[.int .i64 0, .slice none 0 0] := by rw [← hW1]; exact (Blk.new' _ _ _ _ (by simp)).alloc _
 have hRR : Blk W1 (w.heap.size + 3) 147 #[.int .i64 0, .int .i64 0, .string ⟨#[]⟩, .string ⟨#[]⟩] := by rw [← hW1]; exact Blk.new' _ _ _ _ (by simp)
 have HW1 := Lib.hid hW1
 have VV := Lib.hid hVV
 have KK := Lib.hid hKK
 have XX := Lib.hid hXX
 have RR := Lib.hid hRR
 clear hW1 hVV hKK hXX hRR
 have v0 := VV.out.get (x := .int .i64 nx) 0 rfl
 have v1 := VV.out.get (x := .slice A n c) 1 rfl
 have k0 := KK.out.get (x := .int .i64 8) 0 rfl
 have k1 := KK.out.get (x := .int .i64 a) 1 rfl
 have k2 := KK.out.get (x := .string s) 2 rfl
 have k3 := KK.out.get (x := .int .i64 0) 3 rfl
 have k4 := KK.out.get (x := .string ⟨#[]⟩) 4 rfl
 have k5 := KK.out.get (x := .string ⟨#[]⟩) 5 rfl
 go_enter Tryz.func196, Tryz.ntmps196
 go_wp2_with fail
 rw [HW1.out]
 refine (Hck.out W1).mono ?_
 rintro e w2 ⟨rfl, hb2⟩
 have B2 := belN B1 hb2
 have VV2 := Lib.hid (VV.out.below hb2 VV.out.lt)
 have KK2 := Lib.hid (KK.out.below hb2 KK.out.lt)
 have XX2 := Lib.hid (XX.out.below hb2 XX.out.lt)
 have RR2 := Lib.hid (RR.out.below hb2 RR.out.lt)
 clear VV KK XX RR
 clear v0 v1 k0 k1 k2 k3 k4 k5
 have v0 := VV2.out.get (x := .int .i64 nx) 0 rfl
 have v1 := VV2.out.get (x := .slice A n c) 1 rfl
 have k0 := KK2.out.get (x := .int .i64 8) 0 rfl
 have k1 := KK2.out.get (x := .int .i64 a) 1 rfl
 go_wp2_with fail
 refine (Hat.out w2 (hvv.out.next B2).is).mono ?_
 rintro e w3 ⟨rfl, hb3⟩
 have B3 := belN B2 hb3
 have VV3 := Lib.hid (VV2.out.below hb3 VV2.out.lt)
 have KK3 := Lib.hid (KK2.out.below hb3 KK2.out.lt)
 have XX3 := Lib.hid (XX2.out.below hb3 XX2.out.lt)
 have RR3 := Lib.hid (RR2.out.below hb3 RR2.out.lt)
 clear VV2 KK2 XX2 RR2
 clear v0 v1 k0 k1
 have v0 := VV3.out.get (x := .int .i64 nx) 0 rfl
 have v1 := VV3.out.get (x := .slice A n c) 1 rfl
 have k0 := KK3.out.get (x := .int .i64 8) 0 rfl
 have k1 := KK3.out.get (x := .int .i64 a) 1 rfl
 go_wp2_with fail
 refine (Hdir.out w3 (hvv.out.next B3)).mono ?_
 rintro e w4 ⟨rfl, hb4⟩
 have B4 := belN B3 hb4
 have VV4 := Lib.hid (VV3.out.below hb4 VV3.out.lt)
 have KK4 := Lib.hid (KK3.out.below hb4 KK3.out.lt)
 have XX4 := Lib.hid (XX3.out.below hb4 XX3.out.lt)
 have RR4 := Lib.hid (RR3.out.below hb4 RR3.out.lt)
 clear VV3 KK3 XX3 RR3
 clear v0 v1 k0 k1
 have v0 := VV4.out.get (x := .int .i64 nx) 0 rfl
 have v1 := VV4.out.get (x := .slice A n c) 1 rfl
 have k0 := KK4.out.get (x := .int .i64 8) 0 rfl
 by_cases hd : y = 2
 ·subst hd
  have Hon2 := Lib.hid (Hon.out rfl)
  have k2 := KK4.out.get (x := .string s) 2 rfl
  go_wp2_with (simp only [if_pos])
  refine (Hnm.out w4).mono ?_
  rintro e w5 ⟨rfl, hb5⟩
  have B5 := belN B4 hb5
  have VV5 := Lib.hid (VV4.out.below hb5 VV4.out.lt)
  have KK5 := Lib.hid (KK4.out.below hb5 KK4.out.lt)
  have XX5 := Lib.hid (XX4.out.below hb5 XX4.out.lt)
  have RR5 := Lib.hid (RR4.out.below hb5 RR4.out.lt)
  clear VV4 KK4 XX4 RR4
  clear v0 v1 k0 k2
  have v0 := VV5.out.get (x := .int .i64 nx) 0 rfl
  have v1 := VV5.out.get (x := .slice A n c) 1 rfl
  have k0 := KK5.out.get (x := .int .i64 8) 0 rfl
  have k1 := KK5.out.get (x := .int .i64 a) 1 rfl
  have k2 := KK5.out.get (x := .string s) 2 rfl
  have k3 := KK5.out.get (x := .int .i64 0) 3 rfl
  have k4 := KK5.out.get (x := .string ⟨#[]⟩) 4 rfl
  have k5 := KK5.out.get (x := .string ⟨#[]⟩) 5 rfl
  go_wp2_with fail
  refine (Hon2.out w5 (hvv.out.next B5)).mono ?_
  rintro e w6 ⟨rfl, hb6⟩
  have B6 := belN B5 hb6
  have VV6 := Lib.hid (VV5.out.below hb6 VV5.out.lt)
  have KK6 := Lib.hid (KK5.out.below hb6 KK5.out.lt)
  have XX6 := Lib.hid (XX5.out.below hb6 XX5.out.lt)
  have RR6 := Lib.hid (RR5.out.below hb6 RR5.out.lt)
  clear VV5 KK5 XX5 RR5
  clear v0 v1 k0 k1 k2 k3 k4 k5
  obtain ⟨L, hL⟩ : ∃ L, lkP xs a s = L := ⟨_, rfl⟩
  have HL9 := Lib.hid hL
  rw [hL]
  clear hL
  obtain ⟨lc, li, ls, ld⟩ := L
  simp only [LkD.val]
  have hX9 := XX6.out
  have hR9 := RR6.out
  have x0 := hX9.get (x := .int .i64 0) 0 rfl
  have y0 := hX9.frozen 0
  have x1 := hX9.get (x := .slice none 0 0) 1 rfl
  have y1 := hX9.frozen 1
  have r0 := hR9.get (x := .int .i64 0) 0 rfl
  have g0 := hR9.frozen 0
  have r1 := hR9.get (x := .int .i64 0) 1 rfl
  have g1 := hR9.frozen 1
  have r2 := hR9.get (x := .string ⟨#[]⟩) 2 rfl
  have g2 := hR9.frozen 2
  have r3 := hR9.get (x := .string ⟨#[]⟩) 3 rfl
  have g3 := hR9.frozen 3
  have lX := hX9.lt
  have lR := hR9.lt
  clear hX9 hR9
  go_wp2
  refine bodyPost_ret (v := .tuple #[.agg #[.int .i64 nx, .slice A n c], .agg #[.int .i64 lc, .int .i64 li, .string ls, .string ld]]) (by simp [results, Tryz.results196, go_sem, x0, x1, r0, r1, r2, r3]) rfl ⟨by rw [HL9.out]; rfl, ?_⟩
  repeat (first | exact B6 | apply Below.drew | refine belC ?_ _ _ (by omega) _)
 ·have Hlk := Lib.hid (Hfile.out hd)
  have hX9 := XX4.out
  have hR9 := RR4.out
  have x0 := hX9.get (x := .int .i64 0) 0 rfl
  have y0 := hX9.frozen 0
  have x1 := hX9.get (x := .slice none 0 0) 1 rfl
  have y1 := hX9.frozen 1
  have r0 := hR9.get (x := .int .i64 0) 0 rfl
  have g0 := hR9.frozen 0
  have r1 := hR9.get (x := .int .i64 0) 1 rfl
  have g1 := hR9.frozen 1
  have r2 := hR9.get (x := .string ⟨#[]⟩) 2 rfl
  have g2 := hR9.frozen 2
  have r3 := hR9.get (x := .string ⟨#[]⟩) 3 rfl
  have g3 := hR9.frozen 3
  have lX := hX9.lt
  have lR := hR9.lt
  clear hX9 hR9
  have hd4 : ((if y = 2 then (0 : Int) else 4) == 0) = false := by rw [if_neg hd]; rfl
  go_wp2
  refine bodyPost_ret (v := .tuple #[.agg #[.int .i64 nx, .slice A n c], (LkD.bad 4).val]) (by simp [results, Tryz.results196, go_sem, LkD.val, LkD.bad, x0, x1, r0, r1, r2, r3]) rfl ⟨by rw [Hlk.out]; try rfl, ?_⟩
  repeat (first | exact B4 | apply Below.drew | refine belC ?_ _ _ (by omega) _)

set_option maxRecDepth 100000 in
set_option maxHeartbeats 8000000 in
theorem volDo_look (v : Value) (V : VolD) (sm : szV V ≤ 1048576) (hv : VolP V.nx V.xs) (a : Int) (ha : 0 ≤ plc V.xs a) (s : ByteArray) (hname : nameOkB s = true) (w : World) (hC : IsVolC w v V) :
  Calls Tryz.prog 127 #[v, .agg #[.int .i64 8, .int .i64 a, .string s, .int .i64 0, .string ⟨#[]⟩, .string ⟨#[]⟩]] w fun e w' => ∃ A' c', e = .returned (.tuple #[.agg #[.int .i64 V.nx, .slice A' V.xs.length c'], (lkP V.xs a s).val]) ∧ Below w.heap.size w w' := by
 have Hok := Lib.hid (fun W hW => volOk_spec v V sm W hW)
 have hok := volOkB_iff.2 hv
 simp only [hok] at Hok
 have Hcp := Lib.hid (fun W (hW : IsVolC W v V) => l6Copy_any v V (v_len16 hv) (fun x hx => by have := es_len hv hx; omega) W hW.is)
 have Hdo := Lib.hid (fun v W hW => l6Do_look v V sm hv a ha s hname W hW)
 have hvv := Lib.hid hC
 obtain ⟨A, c, rfl, _⟩ := hC
 obtain ⟨nx, xs⟩ := V
 simp only at Hok Hcp Hdo ⊢
 clear hv sm ha hname hok
 obtain ⟨L, hL⟩ : ∃ L, lkP xs a s = L := ⟨_, rfl⟩
 simp only [hL] at Hdo
 rw [hL]
 clear hL
 obtain ⟨lc, li, ls, ld⟩ := L
 simp only [LkD.val] at Hdo ⊢
 obtain ⟨n, hn'⟩ : ∃ n, xs.length = n := ⟨_, rfl⟩
 have HL := Lib.hid hn'
 simp only [hn'] at Hok Hcp hvv ⊢
 clear hn'
 obtain ⟨W1, hW1⟩ : ∃ W1, (((w.alloc (.cells #[.int .i64 nx, .slice A n c] 30)).alloc (.cells #[.int .i64 8, .int .i64 a, .string s, .int .i64 0, .string ⟨#[]⟩, .string ⟨#[]⟩] 151)).alloc (.cells #[.int .i64 0, .slice none 0 0] 30)).alloc (.cells #[.int .i64 0, .int .i64 0, .string ⟨#[]⟩, .string ⟨#[]⟩] 147) = W1 := ⟨_, rfl⟩
 have B1 : Below w.heap.size w W1 := by rw [← hW1]; exact belA (belA (belA (belA (bel0 w) _) _) _) _
 have hVV : Blk W1 w.heap.size 30 #[.int .i64 nx, .slice A n c] := by rw [← hW1]; exact (((Blk.new' _ _ _ _ rfl).alloc _).alloc _).alloc _
 have hKK : Blk W1 (w.heap.size + 1) 151 #[.int .i64 8, .int .i64 a, .string s, .int .i64 0, .string ⟨#[]⟩, .string ⟨#[]⟩] := by rw [← hW1]; exact ((Blk.new' _ _ _ _ (by simp)).alloc _).alloc _
 have hXX : Blk W1 (w.heap.size + 2) 30 #[.int .i64 0, .slice none 0 0] := by rw [← hW1]; exact (Blk.new' _ _ _ _ (by simp)).alloc _
 have hRR : Blk W1 (w.heap.size + 3) 147 #[.int .i64 0, .int .i64 0, .string ⟨#[]⟩, .string ⟨#[]⟩] := by rw [← hW1]; exact Blk.new' _ _ _ _ (by simp)
 have HW1 := Lib.hid hW1
 have VV := Lib.hid hVV
 have KK := Lib.hid hKK
 have XX := Lib.hid hXX
 have RR := Lib.hid hRR
 clear hW1 hVV hKK hXX hRR
 have v0 := VV.out.get (x := .int .i64 nx) 0 rfl
 have v1 := VV.out.get (x := .slice A n c) 1 rfl
 go_enter Tryz.func127, Tryz.ntmps127
 go_wp2_with fail
 rw [HW1.out]
 refine (Hok.out W1 (hvv.out.next B1)).mono ?_
 rintro e w2 ⟨rfl, hb2⟩
 have B2 := belN B1 hb2
 have VV2 := Lib.hid (VV.out.below hb2 VV.out.lt)
 have KK2 := Lib.hid (KK.out.below hb2 KK.out.lt)
 have XX2 := Lib.hid (XX.out.below hb2 XX.out.lt)
 have RR2 := Lib.hid (RR.out.below hb2 RR.out.lt)
 clear VV KK XX RR
 clear v0 v1
 have v0 := VV2.out.get (x := .int .i64 nx) 0 rfl
 have v1 := VV2.out.get (x := .slice A n c) 1 rfl
 have k0 := KK2.out.get (x := .int .i64 8) 0 rfl
 have k1 := KK2.out.get (x := .int .i64 a) 1 rfl
 have k2 := KK2.out.get (x := .string s) 2 rfl
 have k3 := KK2.out.get (x := .int .i64 0) 3 rfl
 have k4 := KK2.out.get (x := .string ⟨#[]⟩) 4 rfl
 have k5 := KK2.out.get (x := .string ⟨#[]⟩) 5 rfl
 go_wp2_with fail
 go_cut [6, 7] from 13 (fun p q wx => ∃ (g h : Nat) (A9 : Option Addr) (c9 : Nat), p = .pointer (some ⟨g, 0, none⟩) ∧ q = .pointer (some ⟨h, 0, none⟩) ∧ Hid (Blk wx g 30 #[.int .i64 nx, .slice A9 n c9]) ∧ Hid (Blk wx h 147 #[.int .i64 lc, .int .i64 li, .string ls, .string ld]) ∧ w2.heap.size ≤ g ∧ w2.heap.size ≤ h ∧ Below w2.heap.size w2 wx)
 case first =>
  refine wp_region_held_drew (S := fun w' => w'.cell? ⟨w.heap.size, 0, none⟩ = some (.int .i64 nx) ∧ w'.cell? ⟨w.heap.size, 1, none⟩ = some (.slice A n c) ∧ w'.cell? ⟨w.heap.size + 1, 0, none⟩ = some (.int .i64 8) ∧ w'.cell? ⟨w.heap.size + 1, 1, none⟩ = some (.int .i64 a) ∧ w'.cell? ⟨w.heap.size + 1, 2, none⟩ = some (.string s) ∧ w'.cell? ⟨w.heap.size + 1, 3, none⟩ = some (.int .i64 0) ∧ w'.cell? ⟨w.heap.size + 1, 4, none⟩ = some (.string ⟨#[]⟩) ∧ w'.cell? ⟨w.heap.size + 1, 5, none⟩ = some (.string ⟨#[]⟩)) (by kernel_rfl) (by exact ⟨v0, v1, k0, k1, k2, k3, k4, k5⟩) (fun hHeld => ?_)
  refine foldH ?_
  intro r0 hr0
  have bw0 : Below w2.heap.size w2 r0 := by rw [hr0]; exact (bel0 w2).drew
  clear hr0 hHeld
  refine wpAnyH_take (i := 0) (oi := ?oi1) (v := ?v1) ?hi1 ?hs1 ?hf1 ?hr1 ?hQ1 ?hy1 ?hS1 ?hrest1
  case hi1 => (conv => lhs; simp only [List.getElem?_toArray, List.getElem?_cons_zero]); try exact rfl
  case hs1 => kernel_rfl
  case hf1 => kernel_rfl
  case hr1 => kernel_rfl
  case hQ1 => exact fun _ _ _ h => h
  case hS1 => exact ⟨keep1 (bw0) v0 (Nat.le_refl _), keep1 (bw0) v1 (Nat.le_refl _), keep1 (bw0) k0 (Nat.le_refl _), keep1 (bw0) k1 (Nat.le_refl _), keep1 (bw0) k2 (Nat.le_refl _), keep1 (bw0) k3 (Nat.le_refl _), keep1 (bw0) k4 (Nat.le_refl _), keep1 (bw0) k5 (Nat.le_refl _)⟩
  case hy1 => refine Or.inl ⟨by rfl, ?_⟩; intro w hSw; (try dsimp only at hSw); go_simp; (try with_reducible rfl)
  simp only [Act.put, List.setIfInBounds_toArray, List.set_cons_zero, List.set_cons_succ]
  refine wpAnyH_take (i := 2) (oi := ?oi2) (v := ?v2) ?hi2 ?hs2 ?hf2 ?hr2 ?hQ2 ?hy2 ?hS2 ?hrest2
  case hi2 => (conv => lhs; simp only [List.getElem?_toArray, List.getElem?_cons_zero, List.getElem?_cons_succ]); try exact rfl
  case hs2 => kernel_rfl
  case hf2 => kernel_rfl
  case hr2 => kernel_rfl
  case hQ2 => exact fun _ _ _ h => h
  case hS2 => exact ⟨keep1 (bw0) v0 (Nat.le_refl _), keep1 (bw0) v1 (Nat.le_refl _), keep1 (bw0) k0 (Nat.le_refl _), keep1 (bw0) k1 (Nat.le_refl _), keep1 (bw0) k2 (Nat.le_refl _), keep1 (bw0) k3 (Nat.le_refl _), keep1 (bw0) k4 (Nat.le_refl _), keep1 (bw0) k5 (Nat.le_refl _)⟩
  case hy2 => refine Or.inl ⟨by rfl, ?_⟩; intro w hSw; (try dsimp only at hSw); go_simp; (try with_reducible rfl)
  simp only [Act.put, List.setIfInBounds_toArray, List.set_cons_zero, List.set_cons_succ]
  refine wpAnyH_ready (rs := [1, 7, 8]) (by kernel_rfl) (by simp) ?_
  refine AllReadyH.cons (o := ?oi3) ?hi3 (fun K hK => ?br3) (AllReadyH.cons (o := ?oi4) ?hi4 (fun K hK => ?br4) (AllReadyH.cons (o := ?oi5) ?hi5 (fun K hK => ?br5) AllReadyH.nil))
  case hi3 => (conv => lhs; simp only [List.getElem?_toArray, List.getElem?_cons_zero, List.getElem?_cons_succ]); try exact rfl
  case hi4 => (conv => lhs; simp only [List.getElem?_toArray, List.getElem?_cons_zero, List.getElem?_cons_succ]); try exact rfl
  case hi5 => (conv => lhs; simp only [List.getElem?_toArray, List.getElem?_cons_zero, List.getElem?_cons_succ]); try exact rfl
  case br3 =>
   go_simp
   go_at_call 197
   refine (Hcp.out _ (hvv.out.next (belN B2 bw0))).mono ?_
   rintro e r1 ⟨vc1, rfl, hv1, hb1r⟩
   have bw1 : Below w2.heap.size w2 r1 := bw0.trans (hb1r.mono bw0.size)
   refine hK.out _ _ (by exact ⟨keep1 (bw1) v0 (Nat.le_refl _), keep1 (bw1) v1 (Nat.le_refl _), keep1 (bw1) k0 (Nat.le_refl _), keep1 (bw1) k1 (Nat.le_refl _), keep1 (bw1) k2 (Nat.le_refl _), keep1 (bw1) k3 (Nat.le_refl _), keep1 (bw1) k4 (Nat.le_refl _), keep1 (bw1) k5 (Nat.le_refl _)⟩) (fun _ => ?_)
   clear hK K
   have Hv1 := Lib.hid hv1
   obtain ⟨A1, c1, he1, _, _⟩ := hv1
   simp only [HL.out] at he1
   subst he1
   refine wpAnyH_ready (rs := [3, 7, 8]) (by kernel_rfl) (by simp) ?_
   refine AllReadyH.cons (o := ?oi6) ?hi6 (fun K hK => ?br6) (AllReadyH.cons (o := ?oi7) ?hi7 (fun K hK => ?br7) (AllReadyH.cons (o := ?oi8) ?hi8 (fun K hK => ?br8) AllReadyH.nil))
   case hi6 => (conv => lhs; simp only [List.getElem?_toArray, List.getElem?_cons_zero, List.getElem?_cons_succ]); try exact rfl
   case hi7 => (conv => lhs; simp only [List.getElem?_toArray, List.getElem?_cons_zero, List.getElem?_cons_succ]); try exact rfl
   case hi8 => (conv => lhs; simp only [List.getElem?_toArray, List.getElem?_cons_zero, List.getElem?_cons_succ]); try exact rfl
   case br6 =>
    go_simp
    go_at_call 196
    refine (Hdo.out _ _ Hv1.out).mono ?_
    rintro e r2 ⟨rfl, hb2r⟩
    have bw2 : Below w2.heap.size w2 r2 := bw1.trans (hb2r.mono bw1.size)
    refine hK.out _ _ (by exact ⟨keep1 (bw2) v0 (Nat.le_refl _), keep1 (bw2) v1 (Nat.le_refl _), keep1 (bw2) k0 (Nat.le_refl _), keep1 (bw2) k1 (Nat.le_refl _), keep1 (bw2) k2 (Nat.le_refl _), keep1 (bw2) k3 (Nat.le_refl _), keep1 (bw2) k4 (Nat.le_refl _), keep1 (bw2) k5 (Nat.le_refl _)⟩) (fun _ => ?_)
    clear hK K
    have CV2 := Lib.hid (show IsVolC r2 (.agg #[.int .i64 nx, .slice A1 n c1]) ⟨nx, xs⟩ from Hv1.out.next hb2r)
    refine wpAnyH_take (i := 4) (oi := ?oi9) (v := ?v9) ?hi9 ?hs9 ?hf9 ?hr9 ?hQ9 ?hy9 ?hS9 ?hrest9
    case hi9 => (conv => lhs; simp only [List.getElem?_toArray, List.getElem?_cons_zero, List.getElem?_cons_succ]); try exact rfl
    case hs9 => kernel_rfl
    case hf9 => kernel_rfl
    case hr9 => kernel_rfl
    case hQ9 => exact fun _ _ _ h => h
    case hS9 => exact ⟨keep1 (bw2) v0 (Nat.le_refl _), keep1 (bw2) v1 (Nat.le_refl _), keep1 (bw2) k0 (Nat.le_refl _), keep1 (bw2) k1 (Nat.le_refl _), keep1 (bw2) k2 (Nat.le_refl _), keep1 (bw2) k3 (Nat.le_refl _), keep1 (bw2) k4 (Nat.le_refl _), keep1 (bw2) k5 (Nat.le_refl _)⟩
    case hy9 => refine Or.inl ⟨by rfl, ?_⟩; intro w hSw; (try dsimp only at hSw); go_simp; (try with_reducible rfl)
    simp only [Act.put, List.setIfInBounds_toArray, List.set_cons_zero, List.set_cons_succ]
    refine wpAnyH_take (i := 5) (oi := ?oi10) (v := ?v10) ?hi10 ?hs10 ?hf10 ?hr10 ?hQ10 ?hy10 ?hS10 ?hrest10
    case hi10 => (conv => lhs; simp only [List.getElem?_toArray, List.getElem?_cons_zero, List.getElem?_cons_succ]); try exact rfl
    case hs10 => kernel_rfl
    case hf10 => kernel_rfl
    case hr10 => kernel_rfl
    case hQ10 => exact fun _ _ _ h => h
    case hS10 => exact ⟨keep1 (bw2) v0 (Nat.le_refl _), keep1 (bw2) v1 (Nat.le_refl _), keep1 (bw2) k0 (Nat.le_refl _), keep1 (bw2) k1 (Nat.le_refl _), keep1 (bw2) k2 (Nat.le_refl _), keep1 (bw2) k3 (Nat.le_refl _), keep1 (bw2) k4 (Nat.le_refl _), keep1 (bw2) k5 (Nat.le_refl _)⟩
    case hy10 => refine Or.inl ⟨by rfl, ?_⟩; intro w hSw; (try dsimp only at hSw); go_simp; (try with_reducible rfl)
    simp only [Act.put, List.setIfInBounds_toArray, List.set_cons_zero, List.set_cons_succ]
    refine wpAnyH_take (i := 6) (oi := ?oi11) (v := ?v11) ?hi11 ?hs11 ?hf11 ?hr11 ?hQ11 ?hy11 ?hS11 ?hrest11
    case hi11 => (conv => lhs; simp only [List.getElem?_toArray, List.getElem?_cons_zero, List.getElem?_cons_succ]); try exact rfl
    case hs11 => kernel_rfl
    case hf11 => kernel_rfl
    case hr11 => kernel_rfl
    case hQ11 => exact fun _ _ _ h => h
    case hS11 => exact ⟨keep1 (bw2) v0 (Nat.le_refl _), keep1 (bw2) v1 (Nat.le_refl _), keep1 (bw2) k0 (Nat.le_refl _), keep1 (bw2) k1 (Nat.le_refl _), keep1 (bw2) k2 (Nat.le_refl _), keep1 (bw2) k3 (Nat.le_refl _), keep1 (bw2) k4 (Nat.le_refl _), keep1 (bw2) k5 (Nat.le_refl _)⟩
    case hy11 => refine Or.inl ⟨by rfl, ?_⟩; intro w hSw; (try dsimp only at hSw); go_simp; (try with_reducible rfl)
    simp only [Act.put, List.setIfInBounds_toArray, List.set_cons_zero, List.set_cons_succ]
    refine wpAnyH_ready (rs := [7, 8]) (by kernel_rfl) (by simp) ?_
    refine AllReadyH.cons (o := ?oi12) ?hi12 (fun K hK => ?br12) (AllReadyH.cons (o := ?oi13) ?hi13 (fun K hK => ?br13) AllReadyH.nil)
    case hi12 => (conv => lhs; simp only [List.getElem?_toArray, List.getElem?_cons_zero, List.getElem?_cons_succ]); try exact rfl
    case hi13 => (conv => lhs; simp only [List.getElem?_toArray, List.getElem?_cons_zero, List.getElem?_cons_succ]); try exact rfl
    case br12 =>
     go_simp
     refine hK.out _ _ (by exact ⟨keep1 (belA bw2 (.cells #[.int .i64 0, .slice none 0 0] 30)) v0 (Nat.le_refl _), keep1 (belA bw2 (.cells #[.int .i64 0, .slice none 0 0] 30)) v1 (Nat.le_refl _), keep1 (belA bw2 (.cells #[.int .i64 0, .slice none 0 0] 30)) k0 (Nat.le_refl _), keep1 (belA bw2 (.cells #[.int .i64 0, .slice none 0 0] 30)) k1 (Nat.le_refl _), keep1 (belA bw2 (.cells #[.int .i64 0, .slice none 0 0] 30)) k2 (Nat.le_refl _), keep1 (belA bw2 (.cells #[.int .i64 0, .slice none 0 0] 30)) k3 (Nat.le_refl _), keep1 (belA bw2 (.cells #[.int .i64 0, .slice none 0 0] 30)) k4 (Nat.le_refl _), keep1 (belA bw2 (.cells #[.int .i64 0, .slice none 0 0] 30)) k5 (Nat.le_refl _)⟩) (fun _ => ?_)
     clear hK K
     refine foldH ?_
     intro r3 hr3
     have bw3 : Below w2.heap.size w2 r3 := by rw [hr3]; exact belA bw2 _
     have kX3 : Blk r3 r2.heap.size 30 #[.int .i64 0, .slice none 0 0] := by rw [hr3]; exact Blk.new' _ _ _ _ rfl
     have CV3 : Hid (IsVolC r3 (.agg #[.int .i64 nx, .slice A1 n c1]) ⟨nx, xs⟩) := Lib.hid (by rw [hr3]; exact CV2.out.next (belA (bel0 _) _))
     have laX3 : w2.heap.size ≤ r2.heap.size := bw2.size
     clear hr3
     refine wpAnyH_ready (rs := [8]) (by kernel_rfl) (by simp) ?_
     refine AllReadyH.cons (o := ?oi14) ?hi14 (fun K hK => ?br14) AllReadyH.nil
     case hi14 => (conv => lhs; simp only [List.getElem?_toArray, List.getElem?_cons_zero, List.getElem?_cons_succ]); try exact rfl
     case br14 =>
      go_simp
      refine hK.out _ _ (by exact ⟨keep1 (belA bw3 (.cells #[.int .i64 0, .int .i64 0, .string ⟨#[]⟩, .string ⟨#[]⟩] 147)) v0 (Nat.le_refl _), keep1 (belA bw3 (.cells #[.int .i64 0, .int .i64 0, .string ⟨#[]⟩, .string ⟨#[]⟩] 147)) v1 (Nat.le_refl _), keep1 (belA bw3 (.cells #[.int .i64 0, .int .i64 0, .string ⟨#[]⟩, .string ⟨#[]⟩] 147)) k0 (Nat.le_refl _), keep1 (belA bw3 (.cells #[.int .i64 0, .int .i64 0, .string ⟨#[]⟩, .string ⟨#[]⟩] 147)) k1 (Nat.le_refl _), keep1 (belA bw3 (.cells #[.int .i64 0, .int .i64 0, .string ⟨#[]⟩, .string ⟨#[]⟩] 147)) k2 (Nat.le_refl _), keep1 (belA bw3 (.cells #[.int .i64 0, .int .i64 0, .string ⟨#[]⟩, .string ⟨#[]⟩] 147)) k3 (Nat.le_refl _), keep1 (belA bw3 (.cells #[.int .i64 0, .int .i64 0, .string ⟨#[]⟩, .string ⟨#[]⟩] 147)) k4 (Nat.le_refl _), keep1 (belA bw3 (.cells #[.int .i64 0, .int .i64 0, .string ⟨#[]⟩, .string ⟨#[]⟩] 147)) k5 (Nat.le_refl _)⟩) (fun _ => ?_)
      clear hK K
      refine foldH ?_
      intro r4 hr4
      have bw4 : Below w2.heap.size w2 r4 := by rw [hr4]; exact belA bw3 _
      have kR4 : Blk r4 r3.heap.size 147 #[.int .i64 0, .int .i64 0, .string ⟨#[]⟩, .string ⟨#[]⟩] := by rw [hr4]; exact Blk.new' _ _ _ _ rfl
      have kX4 : Blk r4 r2.heap.size 30 #[.int .i64 0, .slice none 0 0] := by rw [hr4]; exact kX3.alloc _
      have CV4 : Hid (IsVolC r4 (.agg #[.int .i64 nx, .slice A1 n c1]) ⟨nx, xs⟩) := Lib.hid (by rw [hr4]; exact CV3.out.next (belA (bel0 _) _))
      have laR4 : w2.heap.size ≤ r3.heap.size := bw3.size
      clear hr4
      refine wpAnyH_ready (rs := [9]) (by kernel_rfl) (by simp) ?_
      refine AllReadyH.cons (o := ?oi15) ?hi15 (fun K hK => ?br15) AllReadyH.nil
      case hi15 => (conv => lhs; simp only [List.getElem?_toArray, List.getElem?_cons_zero, List.getElem?_cons_succ]); try exact rfl
      case br15 =>
       have x0 := kX4.get (x := .int .i64 0) 0 rfl
       have f0 := kX4.frozen 0
       have x1 := kX4.get (x := .slice none 0 0) 1 rfl
       have f1 := kX4.frozen 1
       have lE := kX4.lt
       go_simp
       refine hK.out _ _ (by exact ⟨keep1 (belC (belC (bw4) _ _ laX3 _) _ _ laX3 _) v0 (Nat.le_refl _), keep1 (belC (belC (bw4) _ _ laX3 _) _ _ laX3 _) v1 (Nat.le_refl _), keep1 (belC (belC (bw4) _ _ laX3 _) _ _ laX3 _) k0 (Nat.le_refl _), keep1 (belC (belC (bw4) _ _ laX3 _) _ _ laX3 _) k1 (Nat.le_refl _), keep1 (belC (belC (bw4) _ _ laX3 _) _ _ laX3 _) k2 (Nat.le_refl _), keep1 (belC (belC (bw4) _ _ laX3 _) _ _ laX3 _) k3 (Nat.le_refl _), keep1 (belC (belC (bw4) _ _ laX3 _) _ _ laX3 _) k4 (Nat.le_refl _), keep1 (belC (belC (bw4) _ _ laX3 _) _ _ laX3 _) k5 (Nat.le_refl _)⟩) (fun _ => ?_)
       clear hK K x0 f0 x1 f1 lE
       refine foldH ?_
       intro r5 hr5
       have bw5 : Below w2.heap.size w2 r5 := by rw [hr5]; exact belC (belC (bw4) _ _ laX3 _) _ _ laX3 _
       have kX5 : Blk r5 r2.heap.size 30 #[.int .i64 nx, .slice A1 n c1] := by rw [hr5]; exact ((kX4).put 0 _ _ rfl).put 1 _ _ rfl
       have neR5 : r3.heap.size ≠ r2.heap.size := by have := kX4.lt; have := kR4.lt; exact Blk.ne_ kR4 kX4 (by decide)
       have kR5 : Blk r5 r3.heap.size 147 #[.int .i64 0, .int .i64 0, .string ⟨#[]⟩, .string ⟨#[]⟩] := by rw [hr5]; exact ((kR4).far neR5 _).far neR5 _
       clear hr5
       refine wpAnyH_ready (rs := [10]) (by kernel_rfl) (by simp) ?_
       refine AllReadyH.cons (o := ?oi16) ?hi16 (fun K hK => ?br16) AllReadyH.nil
       case hi16 => (conv => lhs; simp only [List.getElem?_toArray, List.getElem?_cons_zero, List.getElem?_cons_succ]); try exact rfl
       case br16 =>
        have x0 := kR5.get (x := .int .i64 0) 0 rfl
        have f0 := kR5.frozen 0
        have x1 := kR5.get (x := .int .i64 0) 1 rfl
        have f1 := kR5.frozen 1
        have x2 := kR5.get (x := .string ⟨#[]⟩) 2 rfl
        have f2 := kR5.frozen 2
        have x3 := kR5.get (x := .string ⟨#[]⟩) 3 rfl
        have f3 := kR5.frozen 3
        have lE := kR5.lt
        go_simp
        refine hK.out _ _ (by exact ⟨keep1 (belC (belC (belC (belC (bw5) _ _ laR4 _) _ _ laR4 _) _ _ laR4 _) _ _ laR4 _) v0 (Nat.le_refl _), keep1 (belC (belC (belC (belC (bw5) _ _ laR4 _) _ _ laR4 _) _ _ laR4 _) _ _ laR4 _) v1 (Nat.le_refl _), keep1 (belC (belC (belC (belC (bw5) _ _ laR4 _) _ _ laR4 _) _ _ laR4 _) _ _ laR4 _) k0 (Nat.le_refl _), keep1 (belC (belC (belC (belC (bw5) _ _ laR4 _) _ _ laR4 _) _ _ laR4 _) _ _ laR4 _) k1 (Nat.le_refl _), keep1 (belC (belC (belC (belC (bw5) _ _ laR4 _) _ _ laR4 _) _ _ laR4 _) _ _ laR4 _) k2 (Nat.le_refl _), keep1 (belC (belC (belC (belC (bw5) _ _ laR4 _) _ _ laR4 _) _ _ laR4 _) _ _ laR4 _) k3 (Nat.le_refl _), keep1 (belC (belC (belC (belC (bw5) _ _ laR4 _) _ _ laR4 _) _ _ laR4 _) _ _ laR4 _) k4 (Nat.le_refl _), keep1 (belC (belC (belC (belC (bw5) _ _ laR4 _) _ _ laR4 _) _ _ laR4 _) _ _ laR4 _) k5 (Nat.le_refl _)⟩) (fun _ => ?_)
        clear hK K x0 f0 x1 f1 x2 f2 x3 f3 lE
        refine foldH ?_
        intro r6 hr6
        have bw6 : Below w2.heap.size w2 r6 := by rw [hr6]; exact belC (belC (belC (belC (bw5) _ _ laR4 _) _ _ laR4 _) _ _ laR4 _) _ _ laR4 _
        have kR6 : Blk r6 r3.heap.size 147 #[.int .i64 lc, .int .i64 li, .string ls, .string ld] := by rw [hr6]; exact ((((kR5).put 0 _ _ rfl).put 1 _ _ rfl).put 2 _ _ rfl).put 3 _ _ rfl
        have neX6 : r2.heap.size ≠ r3.heap.size := by have := kR5.lt; have := kX5.lt; exact Blk.ne_ kX5 kR5 (by decide)
        have kX6 : Blk r6 r2.heap.size 30 #[.int .i64 nx, .slice A1 n c1] := by rw [hr6]; exact ((((kX5).far neX6 _).far neX6 _).far neX6 _).far neX6 _
        clear hr6
        refine wpAnyH_done (by kernel_rfl) ?_ _
        go_wp2_with fail
        go_meet
        case rel => exact ⟨_, _, _, _, rfl, rfl, kX6, kR6, laX3, laR4, bw6⟩
    case br13 =>
     go_simp
     refine hK.out _ _ (by exact ⟨keep1 (belA bw2 (.cells #[.int .i64 0, .int .i64 0, .string ⟨#[]⟩, .string ⟨#[]⟩] 147)) v0 (Nat.le_refl _), keep1 (belA bw2 (.cells #[.int .i64 0, .int .i64 0, .string ⟨#[]⟩, .string ⟨#[]⟩] 147)) v1 (Nat.le_refl _), keep1 (belA bw2 (.cells #[.int .i64 0, .int .i64 0, .string ⟨#[]⟩, .string ⟨#[]⟩] 147)) k0 (Nat.le_refl _), keep1 (belA bw2 (.cells #[.int .i64 0, .int .i64 0, .string ⟨#[]⟩, .string ⟨#[]⟩] 147)) k1 (Nat.le_refl _), keep1 (belA bw2 (.cells #[.int .i64 0, .int .i64 0, .string ⟨#[]⟩, .string ⟨#[]⟩] 147)) k2 (Nat.le_refl _), keep1 (belA bw2 (.cells #[.int .i64 0, .int .i64 0, .string ⟨#[]⟩, .string ⟨#[]⟩] 147)) k3 (Nat.le_refl _), keep1 (belA bw2 (.cells #[.int .i64 0, .int .i64 0, .string ⟨#[]⟩, .string ⟨#[]⟩] 147)) k4 (Nat.le_refl _), keep1 (belA bw2 (.cells #[.int .i64 0, .int .i64 0, .string ⟨#[]⟩, .string ⟨#[]⟩] 147)) k5 (Nat.le_refl _)⟩) (fun _ => ?_)
     clear hK K
     refine foldH ?_
     intro r3 hr3
     have bw3 : Below w2.heap.size w2 r3 := by rw [hr3]; exact belA bw2 _
     have kR3 : Blk r3 r2.heap.size 147 #[.int .i64 0, .int .i64 0, .string ⟨#[]⟩, .string ⟨#[]⟩] := by rw [hr3]; exact Blk.new' _ _ _ _ rfl
     have CV3 : Hid (IsVolC r3 (.agg #[.int .i64 nx, .slice A1 n c1]) ⟨nx, xs⟩) := Lib.hid (by rw [hr3]; exact CV2.out.next (belA (bel0 _) _))
     have laR3 : w2.heap.size ≤ r2.heap.size := bw2.size
     clear hr3
     refine wpAnyH_ready (rs := [7]) (by kernel_rfl) (by simp) ?_
     refine AllReadyH.cons (o := ?oi17) ?hi17 (fun K hK => ?br17) AllReadyH.nil
     case hi17 => (conv => lhs; simp only [List.getElem?_toArray, List.getElem?_cons_zero, List.getElem?_cons_succ]); try exact rfl
     case br17 =>
      go_simp
      refine hK.out _ _ (by exact ⟨keep1 (belA bw3 (.cells #[.int .i64 0, .slice none 0 0] 30)) v0 (Nat.le_refl _), keep1 (belA bw3 (.cells #[.int .i64 0, .slice none 0 0] 30)) v1 (Nat.le_refl _), keep1 (belA bw3 (.cells #[.int .i64 0, .slice none 0 0] 30)) k0 (Nat.le_refl _), keep1 (belA bw3 (.cells #[.int .i64 0, .slice none 0 0] 30)) k1 (Nat.le_refl _), keep1 (belA bw3 (.cells #[.int .i64 0, .slice none 0 0] 30)) k2 (Nat.le_refl _), keep1 (belA bw3 (.cells #[.int .i64 0, .slice none 0 0] 30)) k3 (Nat.le_refl _), keep1 (belA bw3 (.cells #[.int .i64 0, .slice none 0 0] 30)) k4 (Nat.le_refl _), keep1 (belA bw3 (.cells #[.int .i64 0, .slice none 0 0] 30)) k5 (Nat.le_refl _)⟩) (fun _ => ?_)
      clear hK K
      refine foldH ?_
      intro r4 hr4
      have bw4 : Below w2.heap.size w2 r4 := by rw [hr4]; exact belA bw3 _
      have kX4 : Blk r4 r3.heap.size 30 #[.int .i64 0, .slice none 0 0] := by rw [hr4]; exact Blk.new' _ _ _ _ rfl
      have kR4 : Blk r4 r2.heap.size 147 #[.int .i64 0, .int .i64 0, .string ⟨#[]⟩, .string ⟨#[]⟩] := by rw [hr4]; exact kR3.alloc _
      have CV4 : Hid (IsVolC r4 (.agg #[.int .i64 nx, .slice A1 n c1]) ⟨nx, xs⟩) := Lib.hid (by rw [hr4]; exact CV3.out.next (belA (bel0 _) _))
      have laX4 : w2.heap.size ≤ r3.heap.size := bw3.size
      clear hr4
      refine wpAnyH_ready (rs := [9]) (by kernel_rfl) (by simp) ?_
      refine AllReadyH.cons (o := ?oi18) ?hi18 (fun K hK => ?br18) AllReadyH.nil
      case hi18 => (conv => lhs; simp only [List.getElem?_toArray, List.getElem?_cons_zero, List.getElem?_cons_succ]); try exact rfl
      case br18 =>
       have x0 := kX4.get (x := .int .i64 0) 0 rfl
       have f0 := kX4.frozen 0
       have x1 := kX4.get (x := .slice none 0 0) 1 rfl
       have f1 := kX4.frozen 1
       have lE := kX4.lt
       go_simp
       refine hK.out _ _ (by exact ⟨keep1 (belC (belC (bw4) _ _ laX4 _) _ _ laX4 _) v0 (Nat.le_refl _), keep1 (belC (belC (bw4) _ _ laX4 _) _ _ laX4 _) v1 (Nat.le_refl _), keep1 (belC (belC (bw4) _ _ laX4 _) _ _ laX4 _) k0 (Nat.le_refl _), keep1 (belC (belC (bw4) _ _ laX4 _) _ _ laX4 _) k1 (Nat.le_refl _), keep1 (belC (belC (bw4) _ _ laX4 _) _ _ laX4 _) k2 (Nat.le_refl _), keep1 (belC (belC (bw4) _ _ laX4 _) _ _ laX4 _) k3 (Nat.le_refl _), keep1 (belC (belC (bw4) _ _ laX4 _) _ _ laX4 _) k4 (Nat.le_refl _), keep1 (belC (belC (bw4) _ _ laX4 _) _ _ laX4 _) k5 (Nat.le_refl _)⟩) (fun _ => ?_)
       clear hK K x0 f0 x1 f1 lE
       refine foldH ?_
       intro r5 hr5
       have bw5 : Below w2.heap.size w2 r5 := by rw [hr5]; exact belC (belC (bw4) _ _ laX4 _) _ _ laX4 _
       have kX5 : Blk r5 r3.heap.size 30 #[.int .i64 nx, .slice A1 n c1] := by rw [hr5]; exact ((kX4).put 0 _ _ rfl).put 1 _ _ rfl
       have neR5 : r2.heap.size ≠ r3.heap.size := by have := kX4.lt; have := kR4.lt; exact Blk.ne_ kR4 kX4 (by decide)
       have kR5 : Blk r5 r2.heap.size 147 #[.int .i64 0, .int .i64 0, .string ⟨#[]⟩, .string ⟨#[]⟩] := by rw [hr5]; exact ((kR4).far neR5 _).far neR5 _
       clear hr5
       refine wpAnyH_ready (rs := [10]) (by kernel_rfl) (by simp) ?_
       refine AllReadyH.cons (o := ?oi19) ?hi19 (fun K hK => ?br19) AllReadyH.nil
       case hi19 => (conv => lhs; simp only [List.getElem?_toArray, List.getElem?_cons_zero, List.getElem?_cons_succ]); try exact rfl
       case br19 =>
        have x0 := kR5.get (x := .int .i64 0) 0 rfl
        have f0 := kR5.frozen 0
        have x1 := kR5.get (x := .int .i64 0) 1 rfl
        have f1 := kR5.frozen 1
        have x2 := kR5.get (x := .string ⟨#[]⟩) 2 rfl
        have f2 := kR5.frozen 2
        have x3 := kR5.get (x := .string ⟨#[]⟩) 3 rfl
        have f3 := kR5.frozen 3
        have lE := kR5.lt
        go_simp
        refine hK.out _ _ (by exact ⟨keep1 (belC (belC (belC (belC (bw5) _ _ laR3 _) _ _ laR3 _) _ _ laR3 _) _ _ laR3 _) v0 (Nat.le_refl _), keep1 (belC (belC (belC (belC (bw5) _ _ laR3 _) _ _ laR3 _) _ _ laR3 _) _ _ laR3 _) v1 (Nat.le_refl _), keep1 (belC (belC (belC (belC (bw5) _ _ laR3 _) _ _ laR3 _) _ _ laR3 _) _ _ laR3 _) k0 (Nat.le_refl _), keep1 (belC (belC (belC (belC (bw5) _ _ laR3 _) _ _ laR3 _) _ _ laR3 _) _ _ laR3 _) k1 (Nat.le_refl _), keep1 (belC (belC (belC (belC (bw5) _ _ laR3 _) _ _ laR3 _) _ _ laR3 _) _ _ laR3 _) k2 (Nat.le_refl _), keep1 (belC (belC (belC (belC (bw5) _ _ laR3 _) _ _ laR3 _) _ _ laR3 _) _ _ laR3 _) k3 (Nat.le_refl _), keep1 (belC (belC (belC (belC (bw5) _ _ laR3 _) _ _ laR3 _) _ _ laR3 _) _ _ laR3 _) k4 (Nat.le_refl _), keep1 (belC (belC (belC (belC (bw5) _ _ laR3 _) _ _ laR3 _) _ _ laR3 _) _ _ laR3 _) k5 (Nat.le_refl _)⟩) (fun _ => ?_)
        clear hK K x0 f0 x1 f1 x2 f2 x3 f3 lE
        refine foldH ?_
        intro r6 hr6
        have bw6 : Below w2.heap.size w2 r6 := by rw [hr6]; exact belC (belC (belC (belC (bw5) _ _ laR3 _) _ _ laR3 _) _ _ laR3 _) _ _ laR3 _
        have kR6 : Blk r6 r2.heap.size 147 #[.int .i64 lc, .int .i64 li, .string ls, .string ld] := by rw [hr6]; exact ((((kR5).put 0 _ _ rfl).put 1 _ _ rfl).put 2 _ _ rfl).put 3 _ _ rfl
        have neX6 : r3.heap.size ≠ r2.heap.size := by have := kR5.lt; have := kX5.lt; exact Blk.ne_ kX5 kR5 (by decide)
        have kX6 : Blk r6 r3.heap.size 30 #[.int .i64 nx, .slice A1 n c1] := by rw [hr6]; exact ((((kX5).far neX6 _).far neX6 _).far neX6 _).far neX6 _
        clear hr6
        refine wpAnyH_done (by kernel_rfl) ?_ _
        go_wp2_with fail
        go_meet
        case rel => exact ⟨_, _, _, _, rfl, rfl, kX6, kR6, laX4, laR3, bw6⟩
   case br7 =>
    go_simp
    refine hK.out _ _ (by exact ⟨keep1 (belA bw1 (.cells #[.int .i64 0, .slice none 0 0] 30)) v0 (Nat.le_refl _), keep1 (belA bw1 (.cells #[.int .i64 0, .slice none 0 0] 30)) v1 (Nat.le_refl _), keep1 (belA bw1 (.cells #[.int .i64 0, .slice none 0 0] 30)) k0 (Nat.le_refl _), keep1 (belA bw1 (.cells #[.int .i64 0, .slice none 0 0] 30)) k1 (Nat.le_refl _), keep1 (belA bw1 (.cells #[.int .i64 0, .slice none 0 0] 30)) k2 (Nat.le_refl _), keep1 (belA bw1 (.cells #[.int .i64 0, .slice none 0 0] 30)) k3 (Nat.le_refl _), keep1 (belA bw1 (.cells #[.int .i64 0, .slice none 0 0] 30)) k4 (Nat.le_refl _), keep1 (belA bw1 (.cells #[.int .i64 0, .slice none 0 0] 30)) k5 (Nat.le_refl _)⟩) (fun _ => ?_)
    clear hK K
    refine foldH ?_
    intro r2 hr2
    have bw2 : Below w2.heap.size w2 r2 := by rw [hr2]; exact belA bw1 _
    have kX2 : Blk r2 r1.heap.size 30 #[.int .i64 0, .slice none 0 0] := by rw [hr2]; exact Blk.new' _ _ _ _ rfl
    have CV2 : Hid (IsVolC r2 (.agg #[.int .i64 nx, .slice A1 n c1]) ⟨nx, xs⟩) := Lib.hid (by rw [hr2]; exact Hv1.out.next (belA (bel0 _) _))
    have laX2 : w2.heap.size ≤ r1.heap.size := bw1.size
    clear hr2
    refine wpAnyH_ready (rs := [3, 8]) (by kernel_rfl) (by simp) ?_
    refine AllReadyH.cons (o := ?oi20) ?hi20 (fun K hK => ?br20) (AllReadyH.cons (o := ?oi21) ?hi21 (fun K hK => ?br21) AllReadyH.nil)
    case hi20 => (conv => lhs; simp only [List.getElem?_toArray, List.getElem?_cons_zero, List.getElem?_cons_succ]); try exact rfl
    case hi21 => (conv => lhs; simp only [List.getElem?_toArray, List.getElem?_cons_zero, List.getElem?_cons_succ]); try exact rfl
    case br20 =>
     go_simp
     go_at_call 196
     refine (Hdo.out _ _ CV2.out).mono ?_
     rintro e r3 ⟨rfl, hb3r⟩
     have bw3 : Below w2.heap.size w2 r3 := bw2.trans (hb3r.mono bw2.size)
     refine hK.out _ _ (by exact ⟨keep1 (bw3) v0 (Nat.le_refl _), keep1 (bw3) v1 (Nat.le_refl _), keep1 (bw3) k0 (Nat.le_refl _), keep1 (bw3) k1 (Nat.le_refl _), keep1 (bw3) k2 (Nat.le_refl _), keep1 (bw3) k3 (Nat.le_refl _), keep1 (bw3) k4 (Nat.le_refl _), keep1 (bw3) k5 (Nat.le_refl _)⟩) (fun _ => ?_)
     clear hK K
     have kX3 := kX2.below hb3r kX2.lt
     have CV3 := Lib.hid (show IsVolC r3 (.agg #[.int .i64 nx, .slice A1 n c1]) ⟨nx, xs⟩ from CV2.out.next hb3r)
     refine wpAnyH_take (i := 4) (oi := ?oi22) (v := ?v22) ?hi22 ?hs22 ?hf22 ?hr22 ?hQ22 ?hy22 ?hS22 ?hrest22
     case hi22 => (conv => lhs; simp only [List.getElem?_toArray, List.getElem?_cons_zero, List.getElem?_cons_succ]); try exact rfl
     case hs22 => kernel_rfl
     case hf22 => kernel_rfl
     case hr22 => kernel_rfl
     case hQ22 => exact fun _ _ _ h => h
     case hS22 => exact ⟨keep1 (bw3) v0 (Nat.le_refl _), keep1 (bw3) v1 (Nat.le_refl _), keep1 (bw3) k0 (Nat.le_refl _), keep1 (bw3) k1 (Nat.le_refl _), keep1 (bw3) k2 (Nat.le_refl _), keep1 (bw3) k3 (Nat.le_refl _), keep1 (bw3) k4 (Nat.le_refl _), keep1 (bw3) k5 (Nat.le_refl _)⟩
     case hy22 => refine Or.inl ⟨by rfl, ?_⟩; intro w hSw; (try dsimp only at hSw); go_simp; (try with_reducible rfl)
     simp only [Act.put, List.setIfInBounds_toArray, List.set_cons_zero, List.set_cons_succ]
     refine wpAnyH_take (i := 5) (oi := ?oi23) (v := ?v23) ?hi23 ?hs23 ?hf23 ?hr23 ?hQ23 ?hy23 ?hS23 ?hrest23
     case hi23 => (conv => lhs; simp only [List.getElem?_toArray, List.getElem?_cons_zero, List.getElem?_cons_succ]); try exact rfl
     case hs23 => kernel_rfl
     case hf23 => kernel_rfl
     case hr23 => kernel_rfl
     case hQ23 => exact fun _ _ _ h => h
     case hS23 => exact ⟨keep1 (bw3) v0 (Nat.le_refl _), keep1 (bw3) v1 (Nat.le_refl _), keep1 (bw3) k0 (Nat.le_refl _), keep1 (bw3) k1 (Nat.le_refl _), keep1 (bw3) k2 (Nat.le_refl _), keep1 (bw3) k3 (Nat.le_refl _), keep1 (bw3) k4 (Nat.le_refl _), keep1 (bw3) k5 (Nat.le_refl _)⟩
     case hy23 => refine Or.inl ⟨by rfl, ?_⟩; intro w hSw; (try dsimp only at hSw); go_simp; (try with_reducible rfl)
     simp only [Act.put, List.setIfInBounds_toArray, List.set_cons_zero, List.set_cons_succ]
     refine wpAnyH_take (i := 6) (oi := ?oi24) (v := ?v24) ?hi24 ?hs24 ?hf24 ?hr24 ?hQ24 ?hy24 ?hS24 ?hrest24
     case hi24 => (conv => lhs; simp only [List.getElem?_toArray, List.getElem?_cons_zero, List.getElem?_cons_succ]); try exact rfl
     case hs24 => kernel_rfl
     case hf24 => kernel_rfl
     case hr24 => kernel_rfl
     case hQ24 => exact fun _ _ _ h => h
     case hS24 => exact ⟨keep1 (bw3) v0 (Nat.le_refl _), keep1 (bw3) v1 (Nat.le_refl _), keep1 (bw3) k0 (Nat.le_refl _), keep1 (bw3) k1 (Nat.le_refl _), keep1 (bw3) k2 (Nat.le_refl _), keep1 (bw3) k3 (Nat.le_refl _), keep1 (bw3) k4 (Nat.le_refl _), keep1 (bw3) k5 (Nat.le_refl _)⟩
     case hy24 => refine Or.inl ⟨by rfl, ?_⟩; intro w hSw; (try dsimp only at hSw); go_simp; (try with_reducible rfl)
     simp only [Act.put, List.setIfInBounds_toArray, List.set_cons_zero, List.set_cons_succ]
     refine wpAnyH_ready (rs := [8]) (by kernel_rfl) (by simp) ?_
     refine AllReadyH.cons (o := ?oi25) ?hi25 (fun K hK => ?br25) AllReadyH.nil
     case hi25 => (conv => lhs; simp only [List.getElem?_toArray, List.getElem?_cons_zero, List.getElem?_cons_succ]); try exact rfl
     case br25 =>
      go_simp
      refine hK.out _ _ (by exact ⟨keep1 (belA bw3 (.cells #[.int .i64 0, .int .i64 0, .string ⟨#[]⟩, .string ⟨#[]⟩] 147)) v0 (Nat.le_refl _), keep1 (belA bw3 (.cells #[.int .i64 0, .int .i64 0, .string ⟨#[]⟩, .string ⟨#[]⟩] 147)) v1 (Nat.le_refl _), keep1 (belA bw3 (.cells #[.int .i64 0, .int .i64 0, .string ⟨#[]⟩, .string ⟨#[]⟩] 147)) k0 (Nat.le_refl _), keep1 (belA bw3 (.cells #[.int .i64 0, .int .i64 0, .string ⟨#[]⟩, .string ⟨#[]⟩] 147)) k1 (Nat.le_refl _), keep1 (belA bw3 (.cells #[.int .i64 0, .int .i64 0, .string ⟨#[]⟩, .string ⟨#[]⟩] 147)) k2 (Nat.le_refl _), keep1 (belA bw3 (.cells #[.int .i64 0, .int .i64 0, .string ⟨#[]⟩, .string ⟨#[]⟩] 147)) k3 (Nat.le_refl _), keep1 (belA bw3 (.cells #[.int .i64 0, .int .i64 0, .string ⟨#[]⟩, .string ⟨#[]⟩] 147)) k4 (Nat.le_refl _), keep1 (belA bw3 (.cells #[.int .i64 0, .int .i64 0, .string ⟨#[]⟩, .string ⟨#[]⟩] 147)) k5 (Nat.le_refl _)⟩) (fun _ => ?_)
      clear hK K
      refine foldH ?_
      intro r4 hr4
      have bw4 : Below w2.heap.size w2 r4 := by rw [hr4]; exact belA bw3 _
      have kR4 : Blk r4 r3.heap.size 147 #[.int .i64 0, .int .i64 0, .string ⟨#[]⟩, .string ⟨#[]⟩] := by rw [hr4]; exact Blk.new' _ _ _ _ rfl
      have kX4 : Blk r4 r1.heap.size 30 #[.int .i64 0, .slice none 0 0] := by rw [hr4]; exact kX3.alloc _
      have CV4 : Hid (IsVolC r4 (.agg #[.int .i64 nx, .slice A1 n c1]) ⟨nx, xs⟩) := Lib.hid (by rw [hr4]; exact CV3.out.next (belA (bel0 _) _))
      have laR4 : w2.heap.size ≤ r3.heap.size := bw3.size
      clear hr4
      refine wpAnyH_ready (rs := [9]) (by kernel_rfl) (by simp) ?_
      refine AllReadyH.cons (o := ?oi26) ?hi26 (fun K hK => ?br26) AllReadyH.nil
      case hi26 => (conv => lhs; simp only [List.getElem?_toArray, List.getElem?_cons_zero, List.getElem?_cons_succ]); try exact rfl
      case br26 =>
       have x0 := kX4.get (x := .int .i64 0) 0 rfl
       have f0 := kX4.frozen 0
       have x1 := kX4.get (x := .slice none 0 0) 1 rfl
       have f1 := kX4.frozen 1
       have lE := kX4.lt
       go_simp
       refine hK.out _ _ (by exact ⟨keep1 (belC (belC (bw4) _ _ laX2 _) _ _ laX2 _) v0 (Nat.le_refl _), keep1 (belC (belC (bw4) _ _ laX2 _) _ _ laX2 _) v1 (Nat.le_refl _), keep1 (belC (belC (bw4) _ _ laX2 _) _ _ laX2 _) k0 (Nat.le_refl _), keep1 (belC (belC (bw4) _ _ laX2 _) _ _ laX2 _) k1 (Nat.le_refl _), keep1 (belC (belC (bw4) _ _ laX2 _) _ _ laX2 _) k2 (Nat.le_refl _), keep1 (belC (belC (bw4) _ _ laX2 _) _ _ laX2 _) k3 (Nat.le_refl _), keep1 (belC (belC (bw4) _ _ laX2 _) _ _ laX2 _) k4 (Nat.le_refl _), keep1 (belC (belC (bw4) _ _ laX2 _) _ _ laX2 _) k5 (Nat.le_refl _)⟩) (fun _ => ?_)
       clear hK K x0 f0 x1 f1 lE
       refine foldH ?_
       intro r5 hr5
       have bw5 : Below w2.heap.size w2 r5 := by rw [hr5]; exact belC (belC (bw4) _ _ laX2 _) _ _ laX2 _
       have kX5 : Blk r5 r1.heap.size 30 #[.int .i64 nx, .slice A1 n c1] := by rw [hr5]; exact ((kX4).put 0 _ _ rfl).put 1 _ _ rfl
       have neR5 : r3.heap.size ≠ r1.heap.size := by have := kX4.lt; have := kR4.lt; exact Blk.ne_ kR4 kX4 (by decide)
       have kR5 : Blk r5 r3.heap.size 147 #[.int .i64 0, .int .i64 0, .string ⟨#[]⟩, .string ⟨#[]⟩] := by rw [hr5]; exact ((kR4).far neR5 _).far neR5 _
       clear hr5
       refine wpAnyH_ready (rs := [10]) (by kernel_rfl) (by simp) ?_
       refine AllReadyH.cons (o := ?oi27) ?hi27 (fun K hK => ?br27) AllReadyH.nil
       case hi27 => (conv => lhs; simp only [List.getElem?_toArray, List.getElem?_cons_zero, List.getElem?_cons_succ]); try exact rfl
       case br27 =>
        have x0 := kR5.get (x := .int .i64 0) 0 rfl
        have f0 := kR5.frozen 0
        have x1 := kR5.get (x := .int .i64 0) 1 rfl
        have f1 := kR5.frozen 1
        have x2 := kR5.get (x := .string ⟨#[]⟩) 2 rfl
        have f2 := kR5.frozen 2
        have x3 := kR5.get (x := .string ⟨#[]⟩) 3 rfl
        have f3 := kR5.frozen 3
        have lE := kR5.lt
        go_simp
        refine hK.out _ _ (by exact ⟨keep1 (belC (belC (belC (belC (bw5) _ _ laR4 _) _ _ laR4 _) _ _ laR4 _) _ _ laR4 _) v0 (Nat.le_refl _), keep1 (belC (belC (belC (belC (bw5) _ _ laR4 _) _ _ laR4 _) _ _ laR4 _) _ _ laR4 _) v1 (Nat.le_refl _), keep1 (belC (belC (belC (belC (bw5) _ _ laR4 _) _ _ laR4 _) _ _ laR4 _) _ _ laR4 _) k0 (Nat.le_refl _), keep1 (belC (belC (belC (belC (bw5) _ _ laR4 _) _ _ laR4 _) _ _ laR4 _) _ _ laR4 _) k1 (Nat.le_refl _), keep1 (belC (belC (belC (belC (bw5) _ _ laR4 _) _ _ laR4 _) _ _ laR4 _) _ _ laR4 _) k2 (Nat.le_refl _), keep1 (belC (belC (belC (belC (bw5) _ _ laR4 _) _ _ laR4 _) _ _ laR4 _) _ _ laR4 _) k3 (Nat.le_refl _), keep1 (belC (belC (belC (belC (bw5) _ _ laR4 _) _ _ laR4 _) _ _ laR4 _) _ _ laR4 _) k4 (Nat.le_refl _), keep1 (belC (belC (belC (belC (bw5) _ _ laR4 _) _ _ laR4 _) _ _ laR4 _) _ _ laR4 _) k5 (Nat.le_refl _)⟩) (fun _ => ?_)
        clear hK K x0 f0 x1 f1 x2 f2 x3 f3 lE
        refine foldH ?_
        intro r6 hr6
        have bw6 : Below w2.heap.size w2 r6 := by rw [hr6]; exact belC (belC (belC (belC (bw5) _ _ laR4 _) _ _ laR4 _) _ _ laR4 _) _ _ laR4 _
        have kR6 : Blk r6 r3.heap.size 147 #[.int .i64 lc, .int .i64 li, .string ls, .string ld] := by rw [hr6]; exact ((((kR5).put 0 _ _ rfl).put 1 _ _ rfl).put 2 _ _ rfl).put 3 _ _ rfl
        have neX6 : r1.heap.size ≠ r3.heap.size := by have := kR5.lt; have := kX5.lt; exact Blk.ne_ kX5 kR5 (by decide)
        have kX6 : Blk r6 r1.heap.size 30 #[.int .i64 nx, .slice A1 n c1] := by rw [hr6]; exact ((((kX5).far neX6 _).far neX6 _).far neX6 _).far neX6 _
        clear hr6
        refine wpAnyH_done (by kernel_rfl) ?_ _
        go_wp2_with fail
        go_meet
        case rel => exact ⟨_, _, _, _, rfl, rfl, kX6, kR6, laX2, laR4, bw6⟩
    case br21 =>
     go_simp
     refine hK.out _ _ (by exact ⟨keep1 (belA bw2 (.cells #[.int .i64 0, .int .i64 0, .string ⟨#[]⟩, .string ⟨#[]⟩] 147)) v0 (Nat.le_refl _), keep1 (belA bw2 (.cells #[.int .i64 0, .int .i64 0, .string ⟨#[]⟩, .string ⟨#[]⟩] 147)) v1 (Nat.le_refl _), keep1 (belA bw2 (.cells #[.int .i64 0, .int .i64 0, .string ⟨#[]⟩, .string ⟨#[]⟩] 147)) k0 (Nat.le_refl _), keep1 (belA bw2 (.cells #[.int .i64 0, .int .i64 0, .string ⟨#[]⟩, .string ⟨#[]⟩] 147)) k1 (Nat.le_refl _), keep1 (belA bw2 (.cells #[.int .i64 0, .int .i64 0, .string ⟨#[]⟩, .string ⟨#[]⟩] 147)) k2 (Nat.le_refl _), keep1 (belA bw2 (.cells #[.int .i64 0, .int .i64 0, .string ⟨#[]⟩, .string ⟨#[]⟩] 147)) k3 (Nat.le_refl _), keep1 (belA bw2 (.cells #[.int .i64 0, .int .i64 0, .string ⟨#[]⟩, .string ⟨#[]⟩] 147)) k4 (Nat.le_refl _), keep1 (belA bw2 (.cells #[.int .i64 0, .int .i64 0, .string ⟨#[]⟩, .string ⟨#[]⟩] 147)) k5 (Nat.le_refl _)⟩) (fun _ => ?_)
     clear hK K
     refine foldH ?_
     intro r3 hr3
     have bw3 : Below w2.heap.size w2 r3 := by rw [hr3]; exact belA bw2 _
     have kR3 : Blk r3 r2.heap.size 147 #[.int .i64 0, .int .i64 0, .string ⟨#[]⟩, .string ⟨#[]⟩] := by rw [hr3]; exact Blk.new' _ _ _ _ rfl
     have kX3 : Blk r3 r1.heap.size 30 #[.int .i64 0, .slice none 0 0] := by rw [hr3]; exact kX2.alloc _
     have CV3 : Hid (IsVolC r3 (.agg #[.int .i64 nx, .slice A1 n c1]) ⟨nx, xs⟩) := Lib.hid (by rw [hr3]; exact CV2.out.next (belA (bel0 _) _))
     have laR3 : w2.heap.size ≤ r2.heap.size := bw2.size
     clear hr3
     refine wpAnyH_ready (rs := [3]) (by kernel_rfl) (by simp) ?_
     refine AllReadyH.cons (o := ?oi28) ?hi28 (fun K hK => ?br28) AllReadyH.nil
     case hi28 => (conv => lhs; simp only [List.getElem?_toArray, List.getElem?_cons_zero, List.getElem?_cons_succ]); try exact rfl
     case br28 =>
      go_simp
      go_at_call 196
      refine (Hdo.out _ _ CV3.out).mono ?_
      rintro e r4 ⟨rfl, hb4r⟩
      have bw4 : Below w2.heap.size w2 r4 := bw3.trans (hb4r.mono bw3.size)
      refine hK.out _ _ (by exact ⟨keep1 (bw4) v0 (Nat.le_refl _), keep1 (bw4) v1 (Nat.le_refl _), keep1 (bw4) k0 (Nat.le_refl _), keep1 (bw4) k1 (Nat.le_refl _), keep1 (bw4) k2 (Nat.le_refl _), keep1 (bw4) k3 (Nat.le_refl _), keep1 (bw4) k4 (Nat.le_refl _), keep1 (bw4) k5 (Nat.le_refl _)⟩) (fun _ => ?_)
      clear hK K
      have kX4 := kX3.below hb4r kX3.lt
      have kR4 := kR3.below hb4r kR3.lt
      have CV4 := Lib.hid (show IsVolC r4 (.agg #[.int .i64 nx, .slice A1 n c1]) ⟨nx, xs⟩ from CV3.out.next hb4r)
      refine wpAnyH_take (i := 4) (oi := ?oi29) (v := ?v29) ?hi29 ?hs29 ?hf29 ?hr29 ?hQ29 ?hy29 ?hS29 ?hrest29
      case hi29 => (conv => lhs; simp only [List.getElem?_toArray, List.getElem?_cons_zero, List.getElem?_cons_succ]); try exact rfl
      case hs29 => kernel_rfl
      case hf29 => kernel_rfl
      case hr29 => kernel_rfl
      case hQ29 => exact fun _ _ _ h => h
      case hS29 => exact ⟨keep1 (bw4) v0 (Nat.le_refl _), keep1 (bw4) v1 (Nat.le_refl _), keep1 (bw4) k0 (Nat.le_refl _), keep1 (bw4) k1 (Nat.le_refl _), keep1 (bw4) k2 (Nat.le_refl _), keep1 (bw4) k3 (Nat.le_refl _), keep1 (bw4) k4 (Nat.le_refl _), keep1 (bw4) k5 (Nat.le_refl _)⟩
      case hy29 => refine Or.inl ⟨by rfl, ?_⟩; intro w hSw; (try dsimp only at hSw); go_simp; (try with_reducible rfl)
      simp only [Act.put, List.setIfInBounds_toArray, List.set_cons_zero, List.set_cons_succ]
      refine wpAnyH_take (i := 5) (oi := ?oi30) (v := ?v30) ?hi30 ?hs30 ?hf30 ?hr30 ?hQ30 ?hy30 ?hS30 ?hrest30
      case hi30 => (conv => lhs; simp only [List.getElem?_toArray, List.getElem?_cons_zero, List.getElem?_cons_succ]); try exact rfl
      case hs30 => kernel_rfl
      case hf30 => kernel_rfl
      case hr30 => kernel_rfl
      case hQ30 => exact fun _ _ _ h => h
      case hS30 => exact ⟨keep1 (bw4) v0 (Nat.le_refl _), keep1 (bw4) v1 (Nat.le_refl _), keep1 (bw4) k0 (Nat.le_refl _), keep1 (bw4) k1 (Nat.le_refl _), keep1 (bw4) k2 (Nat.le_refl _), keep1 (bw4) k3 (Nat.le_refl _), keep1 (bw4) k4 (Nat.le_refl _), keep1 (bw4) k5 (Nat.le_refl _)⟩
      case hy30 => refine Or.inl ⟨by rfl, ?_⟩; intro w hSw; (try dsimp only at hSw); go_simp; (try with_reducible rfl)
      simp only [Act.put, List.setIfInBounds_toArray, List.set_cons_zero, List.set_cons_succ]
      refine wpAnyH_take (i := 6) (oi := ?oi31) (v := ?v31) ?hi31 ?hs31 ?hf31 ?hr31 ?hQ31 ?hy31 ?hS31 ?hrest31
      case hi31 => (conv => lhs; simp only [List.getElem?_toArray, List.getElem?_cons_zero, List.getElem?_cons_succ]); try exact rfl
      case hs31 => kernel_rfl
      case hf31 => kernel_rfl
      case hr31 => kernel_rfl
      case hQ31 => exact fun _ _ _ h => h
      case hS31 => exact ⟨keep1 (bw4) v0 (Nat.le_refl _), keep1 (bw4) v1 (Nat.le_refl _), keep1 (bw4) k0 (Nat.le_refl _), keep1 (bw4) k1 (Nat.le_refl _), keep1 (bw4) k2 (Nat.le_refl _), keep1 (bw4) k3 (Nat.le_refl _), keep1 (bw4) k4 (Nat.le_refl _), keep1 (bw4) k5 (Nat.le_refl _)⟩
      case hy31 => refine Or.inl ⟨by rfl, ?_⟩; intro w hSw; (try dsimp only at hSw); go_simp; (try with_reducible rfl)
      simp only [Act.put, List.setIfInBounds_toArray, List.set_cons_zero, List.set_cons_succ]
      refine wpAnyH_ready (rs := [9]) (by kernel_rfl) (by simp) ?_
      refine AllReadyH.cons (o := ?oi32) ?hi32 (fun K hK => ?br32) AllReadyH.nil
      case hi32 => (conv => lhs; simp only [List.getElem?_toArray, List.getElem?_cons_zero, List.getElem?_cons_succ]); try exact rfl
      case br32 =>
       have x0 := kX4.get (x := .int .i64 0) 0 rfl
       have f0 := kX4.frozen 0
       have x1 := kX4.get (x := .slice none 0 0) 1 rfl
       have f1 := kX4.frozen 1
       have lE := kX4.lt
       go_simp
       refine hK.out _ _ (by exact ⟨keep1 (belC (belC (bw4) _ _ laX2 _) _ _ laX2 _) v0 (Nat.le_refl _), keep1 (belC (belC (bw4) _ _ laX2 _) _ _ laX2 _) v1 (Nat.le_refl _), keep1 (belC (belC (bw4) _ _ laX2 _) _ _ laX2 _) k0 (Nat.le_refl _), keep1 (belC (belC (bw4) _ _ laX2 _) _ _ laX2 _) k1 (Nat.le_refl _), keep1 (belC (belC (bw4) _ _ laX2 _) _ _ laX2 _) k2 (Nat.le_refl _), keep1 (belC (belC (bw4) _ _ laX2 _) _ _ laX2 _) k3 (Nat.le_refl _), keep1 (belC (belC (bw4) _ _ laX2 _) _ _ laX2 _) k4 (Nat.le_refl _), keep1 (belC (belC (bw4) _ _ laX2 _) _ _ laX2 _) k5 (Nat.le_refl _)⟩) (fun _ => ?_)
       clear hK K x0 f0 x1 f1 lE
       refine foldH ?_
       intro r5 hr5
       have bw5 : Below w2.heap.size w2 r5 := by rw [hr5]; exact belC (belC (bw4) _ _ laX2 _) _ _ laX2 _
       have kX5 : Blk r5 r1.heap.size 30 #[.int .i64 nx, .slice A1 n c1] := by rw [hr5]; exact ((kX4).put 0 _ _ rfl).put 1 _ _ rfl
       have neR5 : r2.heap.size ≠ r1.heap.size := by have := kX4.lt; have := kR4.lt; exact Blk.ne_ kR4 kX4 (by decide)
       have kR5 : Blk r5 r2.heap.size 147 #[.int .i64 0, .int .i64 0, .string ⟨#[]⟩, .string ⟨#[]⟩] := by rw [hr5]; exact ((kR4).far neR5 _).far neR5 _
       clear hr5
       refine wpAnyH_ready (rs := [10]) (by kernel_rfl) (by simp) ?_
       refine AllReadyH.cons (o := ?oi33) ?hi33 (fun K hK => ?br33) AllReadyH.nil
       case hi33 => (conv => lhs; simp only [List.getElem?_toArray, List.getElem?_cons_zero, List.getElem?_cons_succ]); try exact rfl
       case br33 =>
        have x0 := kR5.get (x := .int .i64 0) 0 rfl
        have f0 := kR5.frozen 0
        have x1 := kR5.get (x := .int .i64 0) 1 rfl
        have f1 := kR5.frozen 1
        have x2 := kR5.get (x := .string ⟨#[]⟩) 2 rfl
        have f2 := kR5.frozen 2
        have x3 := kR5.get (x := .string ⟨#[]⟩) 3 rfl
        have f3 := kR5.frozen 3
        have lE := kR5.lt
        go_simp
        refine hK.out _ _ (by exact ⟨keep1 (belC (belC (belC (belC (bw5) _ _ laR3 _) _ _ laR3 _) _ _ laR3 _) _ _ laR3 _) v0 (Nat.le_refl _), keep1 (belC (belC (belC (belC (bw5) _ _ laR3 _) _ _ laR3 _) _ _ laR3 _) _ _ laR3 _) v1 (Nat.le_refl _), keep1 (belC (belC (belC (belC (bw5) _ _ laR3 _) _ _ laR3 _) _ _ laR3 _) _ _ laR3 _) k0 (Nat.le_refl _), keep1 (belC (belC (belC (belC (bw5) _ _ laR3 _) _ _ laR3 _) _ _ laR3 _) _ _ laR3 _) k1 (Nat.le_refl _), keep1 (belC (belC (belC (belC (bw5) _ _ laR3 _) _ _ laR3 _) _ _ laR3 _) _ _ laR3 _) k2 (Nat.le_refl _), keep1 (belC (belC (belC (belC (bw5) _ _ laR3 _) _ _ laR3 _) _ _ laR3 _) _ _ laR3 _) k3 (Nat.le_refl _), keep1 (belC (belC (belC (belC (bw5) _ _ laR3 _) _ _ laR3 _) _ _ laR3 _) _ _ laR3 _) k4 (Nat.le_refl _), keep1 (belC (belC (belC (belC (bw5) _ _ laR3 _) _ _ laR3 _) _ _ laR3 _) _ _ laR3 _) k5 (Nat.le_refl _)⟩) (fun _ => ?_)
        clear hK K x0 f0 x1 f1 x2 f2 x3 f3 lE
        refine foldH ?_
        intro r6 hr6
        have bw6 : Below w2.heap.size w2 r6 := by rw [hr6]; exact belC (belC (belC (belC (bw5) _ _ laR3 _) _ _ laR3 _) _ _ laR3 _) _ _ laR3 _
        have kR6 : Blk r6 r2.heap.size 147 #[.int .i64 lc, .int .i64 li, .string ls, .string ld] := by rw [hr6]; exact ((((kR5).put 0 _ _ rfl).put 1 _ _ rfl).put 2 _ _ rfl).put 3 _ _ rfl
        have neX6 : r1.heap.size ≠ r2.heap.size := by have := kR5.lt; have := kX5.lt; exact Blk.ne_ kX5 kR5 (by decide)
        have kX6 : Blk r6 r1.heap.size 30 #[.int .i64 nx, .slice A1 n c1] := by rw [hr6]; exact ((((kX5).far neX6 _).far neX6 _).far neX6 _).far neX6 _
        clear hr6
        refine wpAnyH_done (by kernel_rfl) ?_ _
        go_wp2_with fail
        go_meet
        case rel => exact ⟨_, _, _, _, rfl, rfl, kX6, kR6, laX2, laR3, bw6⟩
   case br8 =>
    go_simp
    refine hK.out _ _ (by exact ⟨keep1 (belA bw1 (.cells #[.int .i64 0, .int .i64 0, .string ⟨#[]⟩, .string ⟨#[]⟩] 147)) v0 (Nat.le_refl _), keep1 (belA bw1 (.cells #[.int .i64 0, .int .i64 0, .string ⟨#[]⟩, .string ⟨#[]⟩] 147)) v1 (Nat.le_refl _), keep1 (belA bw1 (.cells #[.int .i64 0, .int .i64 0, .string ⟨#[]⟩, .string ⟨#[]⟩] 147)) k0 (Nat.le_refl _), keep1 (belA bw1 (.cells #[.int .i64 0, .int .i64 0, .string ⟨#[]⟩, .string ⟨#[]⟩] 147)) k1 (Nat.le_refl _), keep1 (belA bw1 (.cells #[.int .i64 0, .int .i64 0, .string ⟨#[]⟩, .string ⟨#[]⟩] 147)) k2 (Nat.le_refl _), keep1 (belA bw1 (.cells #[.int .i64 0, .int .i64 0, .string ⟨#[]⟩, .string ⟨#[]⟩] 147)) k3 (Nat.le_refl _), keep1 (belA bw1 (.cells #[.int .i64 0, .int .i64 0, .string ⟨#[]⟩, .string ⟨#[]⟩] 147)) k4 (Nat.le_refl _), keep1 (belA bw1 (.cells #[.int .i64 0, .int .i64 0, .string ⟨#[]⟩, .string ⟨#[]⟩] 147)) k5 (Nat.le_refl _)⟩) (fun _ => ?_)
    clear hK K
    refine foldH ?_
    intro r2 hr2
    have bw2 : Below w2.heap.size w2 r2 := by rw [hr2]; exact belA bw1 _
    have kR2 : Blk r2 r1.heap.size 147 #[.int .i64 0, .int .i64 0, .string ⟨#[]⟩, .string ⟨#[]⟩] := by rw [hr2]; exact Blk.new' _ _ _ _ rfl
    have CV2 : Hid (IsVolC r2 (.agg #[.int .i64 nx, .slice A1 n c1]) ⟨nx, xs⟩) := Lib.hid (by rw [hr2]; exact Hv1.out.next (belA (bel0 _) _))
    have laR2 : w2.heap.size ≤ r1.heap.size := bw1.size
    clear hr2
    refine wpAnyH_ready (rs := [3, 7]) (by kernel_rfl) (by simp) ?_
    refine AllReadyH.cons (o := ?oi34) ?hi34 (fun K hK => ?br34) (AllReadyH.cons (o := ?oi35) ?hi35 (fun K hK => ?br35) AllReadyH.nil)
    case hi34 => (conv => lhs; simp only [List.getElem?_toArray, List.getElem?_cons_zero, List.getElem?_cons_succ]); try exact rfl
    case hi35 => (conv => lhs; simp only [List.getElem?_toArray, List.getElem?_cons_zero, List.getElem?_cons_succ]); try exact rfl
    case br34 =>
     go_simp
     go_at_call 196
     refine (Hdo.out _ _ CV2.out).mono ?_
     rintro e r3 ⟨rfl, hb3r⟩
     have bw3 : Below w2.heap.size w2 r3 := bw2.trans (hb3r.mono bw2.size)
     refine hK.out _ _ (by exact ⟨keep1 (bw3) v0 (Nat.le_refl _), keep1 (bw3) v1 (Nat.le_refl _), keep1 (bw3) k0 (Nat.le_refl _), keep1 (bw3) k1 (Nat.le_refl _), keep1 (bw3) k2 (Nat.le_refl _), keep1 (bw3) k3 (Nat.le_refl _), keep1 (bw3) k4 (Nat.le_refl _), keep1 (bw3) k5 (Nat.le_refl _)⟩) (fun _ => ?_)
     clear hK K
     have kR3 := kR2.below hb3r kR2.lt
     have CV3 := Lib.hid (show IsVolC r3 (.agg #[.int .i64 nx, .slice A1 n c1]) ⟨nx, xs⟩ from CV2.out.next hb3r)
     refine wpAnyH_take (i := 4) (oi := ?oi36) (v := ?v36) ?hi36 ?hs36 ?hf36 ?hr36 ?hQ36 ?hy36 ?hS36 ?hrest36
     case hi36 => (conv => lhs; simp only [List.getElem?_toArray, List.getElem?_cons_zero, List.getElem?_cons_succ]); try exact rfl
     case hs36 => kernel_rfl
     case hf36 => kernel_rfl
     case hr36 => kernel_rfl
     case hQ36 => exact fun _ _ _ h => h
     case hS36 => exact ⟨keep1 (bw3) v0 (Nat.le_refl _), keep1 (bw3) v1 (Nat.le_refl _), keep1 (bw3) k0 (Nat.le_refl _), keep1 (bw3) k1 (Nat.le_refl _), keep1 (bw3) k2 (Nat.le_refl _), keep1 (bw3) k3 (Nat.le_refl _), keep1 (bw3) k4 (Nat.le_refl _), keep1 (bw3) k5 (Nat.le_refl _)⟩
     case hy36 => refine Or.inl ⟨by rfl, ?_⟩; intro w hSw; (try dsimp only at hSw); go_simp; (try with_reducible rfl)
     simp only [Act.put, List.setIfInBounds_toArray, List.set_cons_zero, List.set_cons_succ]
     refine wpAnyH_take (i := 5) (oi := ?oi37) (v := ?v37) ?hi37 ?hs37 ?hf37 ?hr37 ?hQ37 ?hy37 ?hS37 ?hrest37
     case hi37 => (conv => lhs; simp only [List.getElem?_toArray, List.getElem?_cons_zero, List.getElem?_cons_succ]); try exact rfl
     case hs37 => kernel_rfl
     case hf37 => kernel_rfl
     case hr37 => kernel_rfl
     case hQ37 => exact fun _ _ _ h => h
     case hS37 => exact ⟨keep1 (bw3) v0 (Nat.le_refl _), keep1 (bw3) v1 (Nat.le_refl _), keep1 (bw3) k0 (Nat.le_refl _), keep1 (bw3) k1 (Nat.le_refl _), keep1 (bw3) k2 (Nat.le_refl _), keep1 (bw3) k3 (Nat.le_refl _), keep1 (bw3) k4 (Nat.le_refl _), keep1 (bw3) k5 (Nat.le_refl _)⟩
     case hy37 => refine Or.inl ⟨by rfl, ?_⟩; intro w hSw; (try dsimp only at hSw); go_simp; (try with_reducible rfl)
     simp only [Act.put, List.setIfInBounds_toArray, List.set_cons_zero, List.set_cons_succ]
     refine wpAnyH_take (i := 6) (oi := ?oi38) (v := ?v38) ?hi38 ?hs38 ?hf38 ?hr38 ?hQ38 ?hy38 ?hS38 ?hrest38
     case hi38 => (conv => lhs; simp only [List.getElem?_toArray, List.getElem?_cons_zero, List.getElem?_cons_succ]); try exact rfl
     case hs38 => kernel_rfl
     case hf38 => kernel_rfl
     case hr38 => kernel_rfl
     case hQ38 => exact fun _ _ _ h => h
     case hS38 => exact ⟨keep1 (bw3) v0 (Nat.le_refl _), keep1 (bw3) v1 (Nat.le_refl _), keep1 (bw3) k0 (Nat.le_refl _), keep1 (bw3) k1 (Nat.le_refl _), keep1 (bw3) k2 (Nat.le_refl _), keep1 (bw3) k3 (Nat.le_refl _), keep1 (bw3) k4 (Nat.le_refl _), keep1 (bw3) k5 (Nat.le_refl _)⟩
     case hy38 => refine Or.inl ⟨by rfl, ?_⟩; intro w hSw; (try dsimp only at hSw); go_simp; (try with_reducible rfl)
     simp only [Act.put, List.setIfInBounds_toArray, List.set_cons_zero, List.set_cons_succ]
     refine wpAnyH_ready (rs := [7]) (by kernel_rfl) (by simp) ?_
     refine AllReadyH.cons (o := ?oi39) ?hi39 (fun K hK => ?br39) AllReadyH.nil
     case hi39 => (conv => lhs; simp only [List.getElem?_toArray, List.getElem?_cons_zero, List.getElem?_cons_succ]); try exact rfl
     case br39 =>
      go_simp
      refine hK.out _ _ (by exact ⟨keep1 (belA bw3 (.cells #[.int .i64 0, .slice none 0 0] 30)) v0 (Nat.le_refl _), keep1 (belA bw3 (.cells #[.int .i64 0, .slice none 0 0] 30)) v1 (Nat.le_refl _), keep1 (belA bw3 (.cells #[.int .i64 0, .slice none 0 0] 30)) k0 (Nat.le_refl _), keep1 (belA bw3 (.cells #[.int .i64 0, .slice none 0 0] 30)) k1 (Nat.le_refl _), keep1 (belA bw3 (.cells #[.int .i64 0, .slice none 0 0] 30)) k2 (Nat.le_refl _), keep1 (belA bw3 (.cells #[.int .i64 0, .slice none 0 0] 30)) k3 (Nat.le_refl _), keep1 (belA bw3 (.cells #[.int .i64 0, .slice none 0 0] 30)) k4 (Nat.le_refl _), keep1 (belA bw3 (.cells #[.int .i64 0, .slice none 0 0] 30)) k5 (Nat.le_refl _)⟩) (fun _ => ?_)
      clear hK K
      refine foldH ?_
      intro r4 hr4
      have bw4 : Below w2.heap.size w2 r4 := by rw [hr4]; exact belA bw3 _
      have kX4 : Blk r4 r3.heap.size 30 #[.int .i64 0, .slice none 0 0] := by rw [hr4]; exact Blk.new' _ _ _ _ rfl
      have kR4 : Blk r4 r1.heap.size 147 #[.int .i64 0, .int .i64 0, .string ⟨#[]⟩, .string ⟨#[]⟩] := by rw [hr4]; exact kR3.alloc _
      have CV4 : Hid (IsVolC r4 (.agg #[.int .i64 nx, .slice A1 n c1]) ⟨nx, xs⟩) := Lib.hid (by rw [hr4]; exact CV3.out.next (belA (bel0 _) _))
      have laX4 : w2.heap.size ≤ r3.heap.size := bw3.size
      clear hr4
      refine wpAnyH_ready (rs := [9]) (by kernel_rfl) (by simp) ?_
      refine AllReadyH.cons (o := ?oi40) ?hi40 (fun K hK => ?br40) AllReadyH.nil
      case hi40 => (conv => lhs; simp only [List.getElem?_toArray, List.getElem?_cons_zero, List.getElem?_cons_succ]); try exact rfl
      case br40 =>
       have x0 := kX4.get (x := .int .i64 0) 0 rfl
       have f0 := kX4.frozen 0
       have x1 := kX4.get (x := .slice none 0 0) 1 rfl
       have f1 := kX4.frozen 1
       have lE := kX4.lt
       go_simp
       refine hK.out _ _ (by exact ⟨keep1 (belC (belC (bw4) _ _ laX4 _) _ _ laX4 _) v0 (Nat.le_refl _), keep1 (belC (belC (bw4) _ _ laX4 _) _ _ laX4 _) v1 (Nat.le_refl _), keep1 (belC (belC (bw4) _ _ laX4 _) _ _ laX4 _) k0 (Nat.le_refl _), keep1 (belC (belC (bw4) _ _ laX4 _) _ _ laX4 _) k1 (Nat.le_refl _), keep1 (belC (belC (bw4) _ _ laX4 _) _ _ laX4 _) k2 (Nat.le_refl _), keep1 (belC (belC (bw4) _ _ laX4 _) _ _ laX4 _) k3 (Nat.le_refl _), keep1 (belC (belC (bw4) _ _ laX4 _) _ _ laX4 _) k4 (Nat.le_refl _), keep1 (belC (belC (bw4) _ _ laX4 _) _ _ laX4 _) k5 (Nat.le_refl _)⟩) (fun _ => ?_)
       clear hK K x0 f0 x1 f1 lE
       refine foldH ?_
       intro r5 hr5
       have bw5 : Below w2.heap.size w2 r5 := by rw [hr5]; exact belC (belC (bw4) _ _ laX4 _) _ _ laX4 _
       have kX5 : Blk r5 r3.heap.size 30 #[.int .i64 nx, .slice A1 n c1] := by rw [hr5]; exact ((kX4).put 0 _ _ rfl).put 1 _ _ rfl
       have neR5 : r1.heap.size ≠ r3.heap.size := by have := kX4.lt; have := kR4.lt; exact Blk.ne_ kR4 kX4 (by decide)
       have kR5 : Blk r5 r1.heap.size 147 #[.int .i64 0, .int .i64 0, .string ⟨#[]⟩, .string ⟨#[]⟩] := by rw [hr5]; exact ((kR4).far neR5 _).far neR5 _
       clear hr5
       refine wpAnyH_ready (rs := [10]) (by kernel_rfl) (by simp) ?_
       refine AllReadyH.cons (o := ?oi41) ?hi41 (fun K hK => ?br41) AllReadyH.nil
       case hi41 => (conv => lhs; simp only [List.getElem?_toArray, List.getElem?_cons_zero, List.getElem?_cons_succ]); try exact rfl
       case br41 =>
        have x0 := kR5.get (x := .int .i64 0) 0 rfl
        have f0 := kR5.frozen 0
        have x1 := kR5.get (x := .int .i64 0) 1 rfl
        have f1 := kR5.frozen 1
        have x2 := kR5.get (x := .string ⟨#[]⟩) 2 rfl
        have f2 := kR5.frozen 2
        have x3 := kR5.get (x := .string ⟨#[]⟩) 3 rfl
        have f3 := kR5.frozen 3
        have lE := kR5.lt
        go_simp
        refine hK.out _ _ (by exact ⟨keep1 (belC (belC (belC (belC (bw5) _ _ laR2 _) _ _ laR2 _) _ _ laR2 _) _ _ laR2 _) v0 (Nat.le_refl _), keep1 (belC (belC (belC (belC (bw5) _ _ laR2 _) _ _ laR2 _) _ _ laR2 _) _ _ laR2 _) v1 (Nat.le_refl _), keep1 (belC (belC (belC (belC (bw5) _ _ laR2 _) _ _ laR2 _) _ _ laR2 _) _ _ laR2 _) k0 (Nat.le_refl _), keep1 (belC (belC (belC (belC (bw5) _ _ laR2 _) _ _ laR2 _) _ _ laR2 _) _ _ laR2 _) k1 (Nat.le_refl _), keep1 (belC (belC (belC (belC (bw5) _ _ laR2 _) _ _ laR2 _) _ _ laR2 _) _ _ laR2 _) k2 (Nat.le_refl _), keep1 (belC (belC (belC (belC (bw5) _ _ laR2 _) _ _ laR2 _) _ _ laR2 _) _ _ laR2 _) k3 (Nat.le_refl _), keep1 (belC (belC (belC (belC (bw5) _ _ laR2 _) _ _ laR2 _) _ _ laR2 _) _ _ laR2 _) k4 (Nat.le_refl _), keep1 (belC (belC (belC (belC (bw5) _ _ laR2 _) _ _ laR2 _) _ _ laR2 _) _ _ laR2 _) k5 (Nat.le_refl _)⟩) (fun _ => ?_)
        clear hK K x0 f0 x1 f1 x2 f2 x3 f3 lE
        refine foldH ?_
        intro r6 hr6
        have bw6 : Below w2.heap.size w2 r6 := by rw [hr6]; exact belC (belC (belC (belC (bw5) _ _ laR2 _) _ _ laR2 _) _ _ laR2 _) _ _ laR2 _
        have kR6 : Blk r6 r1.heap.size 147 #[.int .i64 lc, .int .i64 li, .string ls, .string ld] := by rw [hr6]; exact ((((kR5).put 0 _ _ rfl).put 1 _ _ rfl).put 2 _ _ rfl).put 3 _ _ rfl
        have neX6 : r3.heap.size ≠ r1.heap.size := by have := kR5.lt; have := kX5.lt; exact Blk.ne_ kX5 kR5 (by decide)
        have kX6 : Blk r6 r3.heap.size 30 #[.int .i64 nx, .slice A1 n c1] := by rw [hr6]; exact ((((kX5).far neX6 _).far neX6 _).far neX6 _).far neX6 _
        clear hr6
        refine wpAnyH_done (by kernel_rfl) ?_ _
        go_wp2_with fail
        go_meet
        case rel => exact ⟨_, _, _, _, rfl, rfl, kX6, kR6, laX4, laR2, bw6⟩
    case br35 =>
     go_simp
     refine hK.out _ _ (by exact ⟨keep1 (belA bw2 (.cells #[.int .i64 0, .slice none 0 0] 30)) v0 (Nat.le_refl _), keep1 (belA bw2 (.cells #[.int .i64 0, .slice none 0 0] 30)) v1 (Nat.le_refl _), keep1 (belA bw2 (.cells #[.int .i64 0, .slice none 0 0] 30)) k0 (Nat.le_refl _), keep1 (belA bw2 (.cells #[.int .i64 0, .slice none 0 0] 30)) k1 (Nat.le_refl _), keep1 (belA bw2 (.cells #[.int .i64 0, .slice none 0 0] 30)) k2 (Nat.le_refl _), keep1 (belA bw2 (.cells #[.int .i64 0, .slice none 0 0] 30)) k3 (Nat.le_refl _), keep1 (belA bw2 (.cells #[.int .i64 0, .slice none 0 0] 30)) k4 (Nat.le_refl _), keep1 (belA bw2 (.cells #[.int .i64 0, .slice none 0 0] 30)) k5 (Nat.le_refl _)⟩) (fun _ => ?_)
     clear hK K
     refine foldH ?_
     intro r3 hr3
     have bw3 : Below w2.heap.size w2 r3 := by rw [hr3]; exact belA bw2 _
     have kX3 : Blk r3 r2.heap.size 30 #[.int .i64 0, .slice none 0 0] := by rw [hr3]; exact Blk.new' _ _ _ _ rfl
     have kR3 : Blk r3 r1.heap.size 147 #[.int .i64 0, .int .i64 0, .string ⟨#[]⟩, .string ⟨#[]⟩] := by rw [hr3]; exact kR2.alloc _
     have CV3 : Hid (IsVolC r3 (.agg #[.int .i64 nx, .slice A1 n c1]) ⟨nx, xs⟩) := Lib.hid (by rw [hr3]; exact CV2.out.next (belA (bel0 _) _))
     have laX3 : w2.heap.size ≤ r2.heap.size := bw2.size
     clear hr3
     refine wpAnyH_ready (rs := [3]) (by kernel_rfl) (by simp) ?_
     refine AllReadyH.cons (o := ?oi42) ?hi42 (fun K hK => ?br42) AllReadyH.nil
     case hi42 => (conv => lhs; simp only [List.getElem?_toArray, List.getElem?_cons_zero, List.getElem?_cons_succ]); try exact rfl
     case br42 =>
      go_simp
      go_at_call 196
      refine (Hdo.out _ _ CV3.out).mono ?_
      rintro e r4 ⟨rfl, hb4r⟩
      have bw4 : Below w2.heap.size w2 r4 := bw3.trans (hb4r.mono bw3.size)
      refine hK.out _ _ (by exact ⟨keep1 (bw4) v0 (Nat.le_refl _), keep1 (bw4) v1 (Nat.le_refl _), keep1 (bw4) k0 (Nat.le_refl _), keep1 (bw4) k1 (Nat.le_refl _), keep1 (bw4) k2 (Nat.le_refl _), keep1 (bw4) k3 (Nat.le_refl _), keep1 (bw4) k4 (Nat.le_refl _), keep1 (bw4) k5 (Nat.le_refl _)⟩) (fun _ => ?_)
      clear hK K
      have kR4 := kR3.below hb4r kR3.lt
      have kX4 := kX3.below hb4r kX3.lt
      have CV4 := Lib.hid (show IsVolC r4 (.agg #[.int .i64 nx, .slice A1 n c1]) ⟨nx, xs⟩ from CV3.out.next hb4r)
      refine wpAnyH_take (i := 4) (oi := ?oi43) (v := ?v43) ?hi43 ?hs43 ?hf43 ?hr43 ?hQ43 ?hy43 ?hS43 ?hrest43
      case hi43 => (conv => lhs; simp only [List.getElem?_toArray, List.getElem?_cons_zero, List.getElem?_cons_succ]); try exact rfl
      case hs43 => kernel_rfl
      case hf43 => kernel_rfl
      case hr43 => kernel_rfl
      case hQ43 => exact fun _ _ _ h => h
      case hS43 => exact ⟨keep1 (bw4) v0 (Nat.le_refl _), keep1 (bw4) v1 (Nat.le_refl _), keep1 (bw4) k0 (Nat.le_refl _), keep1 (bw4) k1 (Nat.le_refl _), keep1 (bw4) k2 (Nat.le_refl _), keep1 (bw4) k3 (Nat.le_refl _), keep1 (bw4) k4 (Nat.le_refl _), keep1 (bw4) k5 (Nat.le_refl _)⟩
      case hy43 => refine Or.inl ⟨by rfl, ?_⟩; intro w hSw; (try dsimp only at hSw); go_simp; (try with_reducible rfl)
      simp only [Act.put, List.setIfInBounds_toArray, List.set_cons_zero, List.set_cons_succ]
      refine wpAnyH_take (i := 5) (oi := ?oi44) (v := ?v44) ?hi44 ?hs44 ?hf44 ?hr44 ?hQ44 ?hy44 ?hS44 ?hrest44
      case hi44 => (conv => lhs; simp only [List.getElem?_toArray, List.getElem?_cons_zero, List.getElem?_cons_succ]); try exact rfl
      case hs44 => kernel_rfl
      case hf44 => kernel_rfl
      case hr44 => kernel_rfl
      case hQ44 => exact fun _ _ _ h => h
      case hS44 => exact ⟨keep1 (bw4) v0 (Nat.le_refl _), keep1 (bw4) v1 (Nat.le_refl _), keep1 (bw4) k0 (Nat.le_refl _), keep1 (bw4) k1 (Nat.le_refl _), keep1 (bw4) k2 (Nat.le_refl _), keep1 (bw4) k3 (Nat.le_refl _), keep1 (bw4) k4 (Nat.le_refl _), keep1 (bw4) k5 (Nat.le_refl _)⟩
      case hy44 => refine Or.inl ⟨by rfl, ?_⟩; intro w hSw; (try dsimp only at hSw); go_simp; (try with_reducible rfl)
      simp only [Act.put, List.setIfInBounds_toArray, List.set_cons_zero, List.set_cons_succ]
      refine wpAnyH_take (i := 6) (oi := ?oi45) (v := ?v45) ?hi45 ?hs45 ?hf45 ?hr45 ?hQ45 ?hy45 ?hS45 ?hrest45
      case hi45 => (conv => lhs; simp only [List.getElem?_toArray, List.getElem?_cons_zero, List.getElem?_cons_succ]); try exact rfl
      case hs45 => kernel_rfl
      case hf45 => kernel_rfl
      case hr45 => kernel_rfl
      case hQ45 => exact fun _ _ _ h => h
      case hS45 => exact ⟨keep1 (bw4) v0 (Nat.le_refl _), keep1 (bw4) v1 (Nat.le_refl _), keep1 (bw4) k0 (Nat.le_refl _), keep1 (bw4) k1 (Nat.le_refl _), keep1 (bw4) k2 (Nat.le_refl _), keep1 (bw4) k3 (Nat.le_refl _), keep1 (bw4) k4 (Nat.le_refl _), keep1 (bw4) k5 (Nat.le_refl _)⟩
      case hy45 => refine Or.inl ⟨by rfl, ?_⟩; intro w hSw; (try dsimp only at hSw); go_simp; (try with_reducible rfl)
      simp only [Act.put, List.setIfInBounds_toArray, List.set_cons_zero, List.set_cons_succ]
      refine wpAnyH_ready (rs := [9]) (by kernel_rfl) (by simp) ?_
      refine AllReadyH.cons (o := ?oi46) ?hi46 (fun K hK => ?br46) AllReadyH.nil
      case hi46 => (conv => lhs; simp only [List.getElem?_toArray, List.getElem?_cons_zero, List.getElem?_cons_succ]); try exact rfl
      case br46 =>
       have x0 := kX4.get (x := .int .i64 0) 0 rfl
       have f0 := kX4.frozen 0
       have x1 := kX4.get (x := .slice none 0 0) 1 rfl
       have f1 := kX4.frozen 1
       have lE := kX4.lt
       go_simp
       refine hK.out _ _ (by exact ⟨keep1 (belC (belC (bw4) _ _ laX3 _) _ _ laX3 _) v0 (Nat.le_refl _), keep1 (belC (belC (bw4) _ _ laX3 _) _ _ laX3 _) v1 (Nat.le_refl _), keep1 (belC (belC (bw4) _ _ laX3 _) _ _ laX3 _) k0 (Nat.le_refl _), keep1 (belC (belC (bw4) _ _ laX3 _) _ _ laX3 _) k1 (Nat.le_refl _), keep1 (belC (belC (bw4) _ _ laX3 _) _ _ laX3 _) k2 (Nat.le_refl _), keep1 (belC (belC (bw4) _ _ laX3 _) _ _ laX3 _) k3 (Nat.le_refl _), keep1 (belC (belC (bw4) _ _ laX3 _) _ _ laX3 _) k4 (Nat.le_refl _), keep1 (belC (belC (bw4) _ _ laX3 _) _ _ laX3 _) k5 (Nat.le_refl _)⟩) (fun _ => ?_)
       clear hK K x0 f0 x1 f1 lE
       refine foldH ?_
       intro r5 hr5
       have bw5 : Below w2.heap.size w2 r5 := by rw [hr5]; exact belC (belC (bw4) _ _ laX3 _) _ _ laX3 _
       have kX5 : Blk r5 r2.heap.size 30 #[.int .i64 nx, .slice A1 n c1] := by rw [hr5]; exact ((kX4).put 0 _ _ rfl).put 1 _ _ rfl
       have neR5 : r1.heap.size ≠ r2.heap.size := by have := kX4.lt; have := kR4.lt; exact Blk.ne_ kR4 kX4 (by decide)
       have kR5 : Blk r5 r1.heap.size 147 #[.int .i64 0, .int .i64 0, .string ⟨#[]⟩, .string ⟨#[]⟩] := by rw [hr5]; exact ((kR4).far neR5 _).far neR5 _
       clear hr5
       refine wpAnyH_ready (rs := [10]) (by kernel_rfl) (by simp) ?_
       refine AllReadyH.cons (o := ?oi47) ?hi47 (fun K hK => ?br47) AllReadyH.nil
       case hi47 => (conv => lhs; simp only [List.getElem?_toArray, List.getElem?_cons_zero, List.getElem?_cons_succ]); try exact rfl
       case br47 =>
        have x0 := kR5.get (x := .int .i64 0) 0 rfl
        have f0 := kR5.frozen 0
        have x1 := kR5.get (x := .int .i64 0) 1 rfl
        have f1 := kR5.frozen 1
        have x2 := kR5.get (x := .string ⟨#[]⟩) 2 rfl
        have f2 := kR5.frozen 2
        have x3 := kR5.get (x := .string ⟨#[]⟩) 3 rfl
        have f3 := kR5.frozen 3
        have lE := kR5.lt
        go_simp
        refine hK.out _ _ (by exact ⟨keep1 (belC (belC (belC (belC (bw5) _ _ laR2 _) _ _ laR2 _) _ _ laR2 _) _ _ laR2 _) v0 (Nat.le_refl _), keep1 (belC (belC (belC (belC (bw5) _ _ laR2 _) _ _ laR2 _) _ _ laR2 _) _ _ laR2 _) v1 (Nat.le_refl _), keep1 (belC (belC (belC (belC (bw5) _ _ laR2 _) _ _ laR2 _) _ _ laR2 _) _ _ laR2 _) k0 (Nat.le_refl _), keep1 (belC (belC (belC (belC (bw5) _ _ laR2 _) _ _ laR2 _) _ _ laR2 _) _ _ laR2 _) k1 (Nat.le_refl _), keep1 (belC (belC (belC (belC (bw5) _ _ laR2 _) _ _ laR2 _) _ _ laR2 _) _ _ laR2 _) k2 (Nat.le_refl _), keep1 (belC (belC (belC (belC (bw5) _ _ laR2 _) _ _ laR2 _) _ _ laR2 _) _ _ laR2 _) k3 (Nat.le_refl _), keep1 (belC (belC (belC (belC (bw5) _ _ laR2 _) _ _ laR2 _) _ _ laR2 _) _ _ laR2 _) k4 (Nat.le_refl _), keep1 (belC (belC (belC (belC (bw5) _ _ laR2 _) _ _ laR2 _) _ _ laR2 _) _ _ laR2 _) k5 (Nat.le_refl _)⟩) (fun _ => ?_)
        clear hK K x0 f0 x1 f1 x2 f2 x3 f3 lE
        refine foldH ?_
        intro r6 hr6
        have bw6 : Below w2.heap.size w2 r6 := by rw [hr6]; exact belC (belC (belC (belC (bw5) _ _ laR2 _) _ _ laR2 _) _ _ laR2 _) _ _ laR2 _
        have kR6 : Blk r6 r1.heap.size 147 #[.int .i64 lc, .int .i64 li, .string ls, .string ld] := by rw [hr6]; exact ((((kR5).put 0 _ _ rfl).put 1 _ _ rfl).put 2 _ _ rfl).put 3 _ _ rfl
        have neX6 : r2.heap.size ≠ r1.heap.size := by have := kR5.lt; have := kX5.lt; exact Blk.ne_ kX5 kR5 (by decide)
        have kX6 : Blk r6 r2.heap.size 30 #[.int .i64 nx, .slice A1 n c1] := by rw [hr6]; exact ((((kX5).far neX6 _).far neX6 _).far neX6 _).far neX6 _
        clear hr6
        refine wpAnyH_done (by kernel_rfl) ?_ _
        go_wp2_with fail
        go_meet
        case rel => exact ⟨_, _, _, _, rfl, rfl, kX6, kR6, laX3, laR2, bw6⟩
  case br4 =>
   go_simp
   refine hK.out _ _ (by exact ⟨keep1 (belA bw0 (.cells #[.int .i64 0, .slice none 0 0] 30)) v0 (Nat.le_refl _), keep1 (belA bw0 (.cells #[.int .i64 0, .slice none 0 0] 30)) v1 (Nat.le_refl _), keep1 (belA bw0 (.cells #[.int .i64 0, .slice none 0 0] 30)) k0 (Nat.le_refl _), keep1 (belA bw0 (.cells #[.int .i64 0, .slice none 0 0] 30)) k1 (Nat.le_refl _), keep1 (belA bw0 (.cells #[.int .i64 0, .slice none 0 0] 30)) k2 (Nat.le_refl _), keep1 (belA bw0 (.cells #[.int .i64 0, .slice none 0 0] 30)) k3 (Nat.le_refl _), keep1 (belA bw0 (.cells #[.int .i64 0, .slice none 0 0] 30)) k4 (Nat.le_refl _), keep1 (belA bw0 (.cells #[.int .i64 0, .slice none 0 0] 30)) k5 (Nat.le_refl _)⟩) (fun _ => ?_)
   clear hK K
   refine foldH ?_
   intro r1 hr1
   have bw1 : Below w2.heap.size w2 r1 := by rw [hr1]; exact belA bw0 _
   have kX1 : Blk r1 r0.heap.size 30 #[.int .i64 0, .slice none 0 0] := by rw [hr1]; exact Blk.new' _ _ _ _ rfl
   have laX1 : w2.heap.size ≤ r0.heap.size := bw0.size
   clear hr1
   refine wpAnyH_ready (rs := [1, 8]) (by kernel_rfl) (by simp) ?_
   refine AllReadyH.cons (o := ?oi48) ?hi48 (fun K hK => ?br48) (AllReadyH.cons (o := ?oi49) ?hi49 (fun K hK => ?br49) AllReadyH.nil)
   case hi48 => (conv => lhs; simp only [List.getElem?_toArray, List.getElem?_cons_zero, List.getElem?_cons_succ]); try exact rfl
   case hi49 => (conv => lhs; simp only [List.getElem?_toArray, List.getElem?_cons_zero, List.getElem?_cons_succ]); try exact rfl
   case br48 =>
    go_simp
    go_at_call 197
    refine (Hcp.out _ (hvv.out.next (belN B2 bw1))).mono ?_
    rintro e r2 ⟨vc2, rfl, hv2, hb2r⟩
    have bw2 : Below w2.heap.size w2 r2 := bw1.trans (hb2r.mono bw1.size)
    refine hK.out _ _ (by exact ⟨keep1 (bw2) v0 (Nat.le_refl _), keep1 (bw2) v1 (Nat.le_refl _), keep1 (bw2) k0 (Nat.le_refl _), keep1 (bw2) k1 (Nat.le_refl _), keep1 (bw2) k2 (Nat.le_refl _), keep1 (bw2) k3 (Nat.le_refl _), keep1 (bw2) k4 (Nat.le_refl _), keep1 (bw2) k5 (Nat.le_refl _)⟩) (fun _ => ?_)
    clear hK K
    have kX2 := kX1.below hb2r kX1.lt
    have Hv2 := Lib.hid hv2
    obtain ⟨A2, c2, he2, _, _⟩ := hv2
    simp only [HL.out] at he2
    subst he2
    refine wpAnyH_ready (rs := [3, 8]) (by kernel_rfl) (by simp) ?_
    refine AllReadyH.cons (o := ?oi50) ?hi50 (fun K hK => ?br50) (AllReadyH.cons (o := ?oi51) ?hi51 (fun K hK => ?br51) AllReadyH.nil)
    case hi50 => (conv => lhs; simp only [List.getElem?_toArray, List.getElem?_cons_zero, List.getElem?_cons_succ]); try exact rfl
    case hi51 => (conv => lhs; simp only [List.getElem?_toArray, List.getElem?_cons_zero, List.getElem?_cons_succ]); try exact rfl
    case br50 =>
     go_simp
     go_at_call 196
     refine (Hdo.out _ _ Hv2.out).mono ?_
     rintro e r3 ⟨rfl, hb3r⟩
     have bw3 : Below w2.heap.size w2 r3 := bw2.trans (hb3r.mono bw2.size)
     refine hK.out _ _ (by exact ⟨keep1 (bw3) v0 (Nat.le_refl _), keep1 (bw3) v1 (Nat.le_refl _), keep1 (bw3) k0 (Nat.le_refl _), keep1 (bw3) k1 (Nat.le_refl _), keep1 (bw3) k2 (Nat.le_refl _), keep1 (bw3) k3 (Nat.le_refl _), keep1 (bw3) k4 (Nat.le_refl _), keep1 (bw3) k5 (Nat.le_refl _)⟩) (fun _ => ?_)
     clear hK K
     have kX3 := kX2.below hb3r kX2.lt
     have CV3 := Lib.hid (show IsVolC r3 (.agg #[.int .i64 nx, .slice A2 n c2]) ⟨nx, xs⟩ from Hv2.out.next hb3r)
     refine wpAnyH_take (i := 4) (oi := ?oi52) (v := ?v52) ?hi52 ?hs52 ?hf52 ?hr52 ?hQ52 ?hy52 ?hS52 ?hrest52
     case hi52 => (conv => lhs; simp only [List.getElem?_toArray, List.getElem?_cons_zero, List.getElem?_cons_succ]); try exact rfl
     case hs52 => kernel_rfl
     case hf52 => kernel_rfl
     case hr52 => kernel_rfl
     case hQ52 => exact fun _ _ _ h => h
     case hS52 => exact ⟨keep1 (bw3) v0 (Nat.le_refl _), keep1 (bw3) v1 (Nat.le_refl _), keep1 (bw3) k0 (Nat.le_refl _), keep1 (bw3) k1 (Nat.le_refl _), keep1 (bw3) k2 (Nat.le_refl _), keep1 (bw3) k3 (Nat.le_refl _), keep1 (bw3) k4 (Nat.le_refl _), keep1 (bw3) k5 (Nat.le_refl _)⟩
     case hy52 => refine Or.inl ⟨by rfl, ?_⟩; intro w hSw; (try dsimp only at hSw); go_simp; (try with_reducible rfl)
     simp only [Act.put, List.setIfInBounds_toArray, List.set_cons_zero, List.set_cons_succ]
     refine wpAnyH_take (i := 5) (oi := ?oi53) (v := ?v53) ?hi53 ?hs53 ?hf53 ?hr53 ?hQ53 ?hy53 ?hS53 ?hrest53
     case hi53 => (conv => lhs; simp only [List.getElem?_toArray, List.getElem?_cons_zero, List.getElem?_cons_succ]); try exact rfl
     case hs53 => kernel_rfl
     case hf53 => kernel_rfl
     case hr53 => kernel_rfl
     case hQ53 => exact fun _ _ _ h => h
     case hS53 => exact ⟨keep1 (bw3) v0 (Nat.le_refl _), keep1 (bw3) v1 (Nat.le_refl _), keep1 (bw3) k0 (Nat.le_refl _), keep1 (bw3) k1 (Nat.le_refl _), keep1 (bw3) k2 (Nat.le_refl _), keep1 (bw3) k3 (Nat.le_refl _), keep1 (bw3) k4 (Nat.le_refl _), keep1 (bw3) k5 (Nat.le_refl _)⟩
     case hy53 => refine Or.inl ⟨by rfl, ?_⟩; intro w hSw; (try dsimp only at hSw); go_simp; (try with_reducible rfl)
     simp only [Act.put, List.setIfInBounds_toArray, List.set_cons_zero, List.set_cons_succ]
     refine wpAnyH_take (i := 6) (oi := ?oi54) (v := ?v54) ?hi54 ?hs54 ?hf54 ?hr54 ?hQ54 ?hy54 ?hS54 ?hrest54
     case hi54 => (conv => lhs; simp only [List.getElem?_toArray, List.getElem?_cons_zero, List.getElem?_cons_succ]); try exact rfl
     case hs54 => kernel_rfl
     case hf54 => kernel_rfl
     case hr54 => kernel_rfl
     case hQ54 => exact fun _ _ _ h => h
     case hS54 => exact ⟨keep1 (bw3) v0 (Nat.le_refl _), keep1 (bw3) v1 (Nat.le_refl _), keep1 (bw3) k0 (Nat.le_refl _), keep1 (bw3) k1 (Nat.le_refl _), keep1 (bw3) k2 (Nat.le_refl _), keep1 (bw3) k3 (Nat.le_refl _), keep1 (bw3) k4 (Nat.le_refl _), keep1 (bw3) k5 (Nat.le_refl _)⟩
     case hy54 => refine Or.inl ⟨by rfl, ?_⟩; intro w hSw; (try dsimp only at hSw); go_simp; (try with_reducible rfl)
     simp only [Act.put, List.setIfInBounds_toArray, List.set_cons_zero, List.set_cons_succ]
     refine wpAnyH_ready (rs := [8]) (by kernel_rfl) (by simp) ?_
     refine AllReadyH.cons (o := ?oi55) ?hi55 (fun K hK => ?br55) AllReadyH.nil
     case hi55 => (conv => lhs; simp only [List.getElem?_toArray, List.getElem?_cons_zero, List.getElem?_cons_succ]); try exact rfl
     case br55 =>
      go_simp
      refine hK.out _ _ (by exact ⟨keep1 (belA bw3 (.cells #[.int .i64 0, .int .i64 0, .string ⟨#[]⟩, .string ⟨#[]⟩] 147)) v0 (Nat.le_refl _), keep1 (belA bw3 (.cells #[.int .i64 0, .int .i64 0, .string ⟨#[]⟩, .string ⟨#[]⟩] 147)) v1 (Nat.le_refl _), keep1 (belA bw3 (.cells #[.int .i64 0, .int .i64 0, .string ⟨#[]⟩, .string ⟨#[]⟩] 147)) k0 (Nat.le_refl _), keep1 (belA bw3 (.cells #[.int .i64 0, .int .i64 0, .string ⟨#[]⟩, .string ⟨#[]⟩] 147)) k1 (Nat.le_refl _), keep1 (belA bw3 (.cells #[.int .i64 0, .int .i64 0, .string ⟨#[]⟩, .string ⟨#[]⟩] 147)) k2 (Nat.le_refl _), keep1 (belA bw3 (.cells #[.int .i64 0, .int .i64 0, .string ⟨#[]⟩, .string ⟨#[]⟩] 147)) k3 (Nat.le_refl _), keep1 (belA bw3 (.cells #[.int .i64 0, .int .i64 0, .string ⟨#[]⟩, .string ⟨#[]⟩] 147)) k4 (Nat.le_refl _), keep1 (belA bw3 (.cells #[.int .i64 0, .int .i64 0, .string ⟨#[]⟩, .string ⟨#[]⟩] 147)) k5 (Nat.le_refl _)⟩) (fun _ => ?_)
      clear hK K
      refine foldH ?_
      intro r4 hr4
      have bw4 : Below w2.heap.size w2 r4 := by rw [hr4]; exact belA bw3 _
      have kR4 : Blk r4 r3.heap.size 147 #[.int .i64 0, .int .i64 0, .string ⟨#[]⟩, .string ⟨#[]⟩] := by rw [hr4]; exact Blk.new' _ _ _ _ rfl
      have kX4 : Blk r4 r0.heap.size 30 #[.int .i64 0, .slice none 0 0] := by rw [hr4]; exact kX3.alloc _
      have CV4 : Hid (IsVolC r4 (.agg #[.int .i64 nx, .slice A2 n c2]) ⟨nx, xs⟩) := Lib.hid (by rw [hr4]; exact CV3.out.next (belA (bel0 _) _))
      have laR4 : w2.heap.size ≤ r3.heap.size := bw3.size
      clear hr4
      refine wpAnyH_ready (rs := [9]) (by kernel_rfl) (by simp) ?_
      refine AllReadyH.cons (o := ?oi56) ?hi56 (fun K hK => ?br56) AllReadyH.nil
      case hi56 => (conv => lhs; simp only [List.getElem?_toArray, List.getElem?_cons_zero, List.getElem?_cons_succ]); try exact rfl
      case br56 =>
       have x0 := kX4.get (x := .int .i64 0) 0 rfl
       have f0 := kX4.frozen 0
       have x1 := kX4.get (x := .slice none 0 0) 1 rfl
       have f1 := kX4.frozen 1
       have lE := kX4.lt
       go_simp
       refine hK.out _ _ (by exact ⟨keep1 (belC (belC (bw4) _ _ laX1 _) _ _ laX1 _) v0 (Nat.le_refl _), keep1 (belC (belC (bw4) _ _ laX1 _) _ _ laX1 _) v1 (Nat.le_refl _), keep1 (belC (belC (bw4) _ _ laX1 _) _ _ laX1 _) k0 (Nat.le_refl _), keep1 (belC (belC (bw4) _ _ laX1 _) _ _ laX1 _) k1 (Nat.le_refl _), keep1 (belC (belC (bw4) _ _ laX1 _) _ _ laX1 _) k2 (Nat.le_refl _), keep1 (belC (belC (bw4) _ _ laX1 _) _ _ laX1 _) k3 (Nat.le_refl _), keep1 (belC (belC (bw4) _ _ laX1 _) _ _ laX1 _) k4 (Nat.le_refl _), keep1 (belC (belC (bw4) _ _ laX1 _) _ _ laX1 _) k5 (Nat.le_refl _)⟩) (fun _ => ?_)
       clear hK K x0 f0 x1 f1 lE
       refine foldH ?_
       intro r5 hr5
       have bw5 : Below w2.heap.size w2 r5 := by rw [hr5]; exact belC (belC (bw4) _ _ laX1 _) _ _ laX1 _
       have kX5 : Blk r5 r0.heap.size 30 #[.int .i64 nx, .slice A2 n c2] := by rw [hr5]; exact ((kX4).put 0 _ _ rfl).put 1 _ _ rfl
       have neR5 : r3.heap.size ≠ r0.heap.size := by have := kX4.lt; have := kR4.lt; exact Blk.ne_ kR4 kX4 (by decide)
       have kR5 : Blk r5 r3.heap.size 147 #[.int .i64 0, .int .i64 0, .string ⟨#[]⟩, .string ⟨#[]⟩] := by rw [hr5]; exact ((kR4).far neR5 _).far neR5 _
       clear hr5
       refine wpAnyH_ready (rs := [10]) (by kernel_rfl) (by simp) ?_
       refine AllReadyH.cons (o := ?oi57) ?hi57 (fun K hK => ?br57) AllReadyH.nil
       case hi57 => (conv => lhs; simp only [List.getElem?_toArray, List.getElem?_cons_zero, List.getElem?_cons_succ]); try exact rfl
       case br57 =>
        have x0 := kR5.get (x := .int .i64 0) 0 rfl
        have f0 := kR5.frozen 0
        have x1 := kR5.get (x := .int .i64 0) 1 rfl
        have f1 := kR5.frozen 1
        have x2 := kR5.get (x := .string ⟨#[]⟩) 2 rfl
        have f2 := kR5.frozen 2
        have x3 := kR5.get (x := .string ⟨#[]⟩) 3 rfl
        have f3 := kR5.frozen 3
        have lE := kR5.lt
        go_simp
        refine hK.out _ _ (by exact ⟨keep1 (belC (belC (belC (belC (bw5) _ _ laR4 _) _ _ laR4 _) _ _ laR4 _) _ _ laR4 _) v0 (Nat.le_refl _), keep1 (belC (belC (belC (belC (bw5) _ _ laR4 _) _ _ laR4 _) _ _ laR4 _) _ _ laR4 _) v1 (Nat.le_refl _), keep1 (belC (belC (belC (belC (bw5) _ _ laR4 _) _ _ laR4 _) _ _ laR4 _) _ _ laR4 _) k0 (Nat.le_refl _), keep1 (belC (belC (belC (belC (bw5) _ _ laR4 _) _ _ laR4 _) _ _ laR4 _) _ _ laR4 _) k1 (Nat.le_refl _), keep1 (belC (belC (belC (belC (bw5) _ _ laR4 _) _ _ laR4 _) _ _ laR4 _) _ _ laR4 _) k2 (Nat.le_refl _), keep1 (belC (belC (belC (belC (bw5) _ _ laR4 _) _ _ laR4 _) _ _ laR4 _) _ _ laR4 _) k3 (Nat.le_refl _), keep1 (belC (belC (belC (belC (bw5) _ _ laR4 _) _ _ laR4 _) _ _ laR4 _) _ _ laR4 _) k4 (Nat.le_refl _), keep1 (belC (belC (belC (belC (bw5) _ _ laR4 _) _ _ laR4 _) _ _ laR4 _) _ _ laR4 _) k5 (Nat.le_refl _)⟩) (fun _ => ?_)
        clear hK K x0 f0 x1 f1 x2 f2 x3 f3 lE
        refine foldH ?_
        intro r6 hr6
        have bw6 : Below w2.heap.size w2 r6 := by rw [hr6]; exact belC (belC (belC (belC (bw5) _ _ laR4 _) _ _ laR4 _) _ _ laR4 _) _ _ laR4 _
        have kR6 : Blk r6 r3.heap.size 147 #[.int .i64 lc, .int .i64 li, .string ls, .string ld] := by rw [hr6]; exact ((((kR5).put 0 _ _ rfl).put 1 _ _ rfl).put 2 _ _ rfl).put 3 _ _ rfl
        have neX6 : r0.heap.size ≠ r3.heap.size := by have := kR5.lt; have := kX5.lt; exact Blk.ne_ kX5 kR5 (by decide)
        have kX6 : Blk r6 r0.heap.size 30 #[.int .i64 nx, .slice A2 n c2] := by rw [hr6]; exact ((((kX5).far neX6 _).far neX6 _).far neX6 _).far neX6 _
        clear hr6
        refine wpAnyH_done (by kernel_rfl) ?_ _
        go_wp2_with fail
        go_meet
        case rel => exact ⟨_, _, _, _, rfl, rfl, kX6, kR6, laX1, laR4, bw6⟩
    case br51 =>
     go_simp
     refine hK.out _ _ (by exact ⟨keep1 (belA bw2 (.cells #[.int .i64 0, .int .i64 0, .string ⟨#[]⟩, .string ⟨#[]⟩] 147)) v0 (Nat.le_refl _), keep1 (belA bw2 (.cells #[.int .i64 0, .int .i64 0, .string ⟨#[]⟩, .string ⟨#[]⟩] 147)) v1 (Nat.le_refl _), keep1 (belA bw2 (.cells #[.int .i64 0, .int .i64 0, .string ⟨#[]⟩, .string ⟨#[]⟩] 147)) k0 (Nat.le_refl _), keep1 (belA bw2 (.cells #[.int .i64 0, .int .i64 0, .string ⟨#[]⟩, .string ⟨#[]⟩] 147)) k1 (Nat.le_refl _), keep1 (belA bw2 (.cells #[.int .i64 0, .int .i64 0, .string ⟨#[]⟩, .string ⟨#[]⟩] 147)) k2 (Nat.le_refl _), keep1 (belA bw2 (.cells #[.int .i64 0, .int .i64 0, .string ⟨#[]⟩, .string ⟨#[]⟩] 147)) k3 (Nat.le_refl _), keep1 (belA bw2 (.cells #[.int .i64 0, .int .i64 0, .string ⟨#[]⟩, .string ⟨#[]⟩] 147)) k4 (Nat.le_refl _), keep1 (belA bw2 (.cells #[.int .i64 0, .int .i64 0, .string ⟨#[]⟩, .string ⟨#[]⟩] 147)) k5 (Nat.le_refl _)⟩) (fun _ => ?_)
     clear hK K
     refine foldH ?_
     intro r3 hr3
     have bw3 : Below w2.heap.size w2 r3 := by rw [hr3]; exact belA bw2 _
     have kR3 : Blk r3 r2.heap.size 147 #[.int .i64 0, .int .i64 0, .string ⟨#[]⟩, .string ⟨#[]⟩] := by rw [hr3]; exact Blk.new' _ _ _ _ rfl
     have kX3 : Blk r3 r0.heap.size 30 #[.int .i64 0, .slice none 0 0] := by rw [hr3]; exact kX2.alloc _
     have CV3 : Hid (IsVolC r3 (.agg #[.int .i64 nx, .slice A2 n c2]) ⟨nx, xs⟩) := Lib.hid (by rw [hr3]; exact Hv2.out.next (belA (bel0 _) _))
     have laR3 : w2.heap.size ≤ r2.heap.size := bw2.size
     clear hr3
     refine wpAnyH_ready (rs := [3]) (by kernel_rfl) (by simp) ?_
     refine AllReadyH.cons (o := ?oi58) ?hi58 (fun K hK => ?br58) AllReadyH.nil
     case hi58 => (conv => lhs; simp only [List.getElem?_toArray, List.getElem?_cons_zero, List.getElem?_cons_succ]); try exact rfl
     case br58 =>
      go_simp
      go_at_call 196
      refine (Hdo.out _ _ CV3.out).mono ?_
      rintro e r4 ⟨rfl, hb4r⟩
      have bw4 : Below w2.heap.size w2 r4 := bw3.trans (hb4r.mono bw3.size)
      refine hK.out _ _ (by exact ⟨keep1 (bw4) v0 (Nat.le_refl _), keep1 (bw4) v1 (Nat.le_refl _), keep1 (bw4) k0 (Nat.le_refl _), keep1 (bw4) k1 (Nat.le_refl _), keep1 (bw4) k2 (Nat.le_refl _), keep1 (bw4) k3 (Nat.le_refl _), keep1 (bw4) k4 (Nat.le_refl _), keep1 (bw4) k5 (Nat.le_refl _)⟩) (fun _ => ?_)
      clear hK K
      have kX4 := kX3.below hb4r kX3.lt
      have kR4 := kR3.below hb4r kR3.lt
      have CV4 := Lib.hid (show IsVolC r4 (.agg #[.int .i64 nx, .slice A2 n c2]) ⟨nx, xs⟩ from CV3.out.next hb4r)
      refine wpAnyH_take (i := 4) (oi := ?oi59) (v := ?v59) ?hi59 ?hs59 ?hf59 ?hr59 ?hQ59 ?hy59 ?hS59 ?hrest59
      case hi59 => (conv => lhs; simp only [List.getElem?_toArray, List.getElem?_cons_zero, List.getElem?_cons_succ]); try exact rfl
      case hs59 => kernel_rfl
      case hf59 => kernel_rfl
      case hr59 => kernel_rfl
      case hQ59 => exact fun _ _ _ h => h
      case hS59 => exact ⟨keep1 (bw4) v0 (Nat.le_refl _), keep1 (bw4) v1 (Nat.le_refl _), keep1 (bw4) k0 (Nat.le_refl _), keep1 (bw4) k1 (Nat.le_refl _), keep1 (bw4) k2 (Nat.le_refl _), keep1 (bw4) k3 (Nat.le_refl _), keep1 (bw4) k4 (Nat.le_refl _), keep1 (bw4) k5 (Nat.le_refl _)⟩
      case hy59 => refine Or.inl ⟨by rfl, ?_⟩; intro w hSw; (try dsimp only at hSw); go_simp; (try with_reducible rfl)
      simp only [Act.put, List.setIfInBounds_toArray, List.set_cons_zero, List.set_cons_succ]
      refine wpAnyH_take (i := 5) (oi := ?oi60) (v := ?v60) ?hi60 ?hs60 ?hf60 ?hr60 ?hQ60 ?hy60 ?hS60 ?hrest60
      case hi60 => (conv => lhs; simp only [List.getElem?_toArray, List.getElem?_cons_zero, List.getElem?_cons_succ]); try exact rfl
      case hs60 => kernel_rfl
      case hf60 => kernel_rfl
      case hr60 => kernel_rfl
      case hQ60 => exact fun _ _ _ h => h
      case hS60 => exact ⟨keep1 (bw4) v0 (Nat.le_refl _), keep1 (bw4) v1 (Nat.le_refl _), keep1 (bw4) k0 (Nat.le_refl _), keep1 (bw4) k1 (Nat.le_refl _), keep1 (bw4) k2 (Nat.le_refl _), keep1 (bw4) k3 (Nat.le_refl _), keep1 (bw4) k4 (Nat.le_refl _), keep1 (bw4) k5 (Nat.le_refl _)⟩
      case hy60 => refine Or.inl ⟨by rfl, ?_⟩; intro w hSw; (try dsimp only at hSw); go_simp; (try with_reducible rfl)
      simp only [Act.put, List.setIfInBounds_toArray, List.set_cons_zero, List.set_cons_succ]
      refine wpAnyH_take (i := 6) (oi := ?oi61) (v := ?v61) ?hi61 ?hs61 ?hf61 ?hr61 ?hQ61 ?hy61 ?hS61 ?hrest61
      case hi61 => (conv => lhs; simp only [List.getElem?_toArray, List.getElem?_cons_zero, List.getElem?_cons_succ]); try exact rfl
      case hs61 => kernel_rfl
      case hf61 => kernel_rfl
      case hr61 => kernel_rfl
      case hQ61 => exact fun _ _ _ h => h
      case hS61 => exact ⟨keep1 (bw4) v0 (Nat.le_refl _), keep1 (bw4) v1 (Nat.le_refl _), keep1 (bw4) k0 (Nat.le_refl _), keep1 (bw4) k1 (Nat.le_refl _), keep1 (bw4) k2 (Nat.le_refl _), keep1 (bw4) k3 (Nat.le_refl _), keep1 (bw4) k4 (Nat.le_refl _), keep1 (bw4) k5 (Nat.le_refl _)⟩
      case hy61 => refine Or.inl ⟨by rfl, ?_⟩; intro w hSw; (try dsimp only at hSw); go_simp; (try with_reducible rfl)
      simp only [Act.put, List.setIfInBounds_toArray, List.set_cons_zero, List.set_cons_succ]
      refine wpAnyH_ready (rs := [9]) (by kernel_rfl) (by simp) ?_
      refine AllReadyH.cons (o := ?oi62) ?hi62 (fun K hK => ?br62) AllReadyH.nil
      case hi62 => (conv => lhs; simp only [List.getElem?_toArray, List.getElem?_cons_zero, List.getElem?_cons_succ]); try exact rfl
      case br62 =>
       have x0 := kX4.get (x := .int .i64 0) 0 rfl
       have f0 := kX4.frozen 0
       have x1 := kX4.get (x := .slice none 0 0) 1 rfl
       have f1 := kX4.frozen 1
       have lE := kX4.lt
       go_simp
       refine hK.out _ _ (by exact ⟨keep1 (belC (belC (bw4) _ _ laX1 _) _ _ laX1 _) v0 (Nat.le_refl _), keep1 (belC (belC (bw4) _ _ laX1 _) _ _ laX1 _) v1 (Nat.le_refl _), keep1 (belC (belC (bw4) _ _ laX1 _) _ _ laX1 _) k0 (Nat.le_refl _), keep1 (belC (belC (bw4) _ _ laX1 _) _ _ laX1 _) k1 (Nat.le_refl _), keep1 (belC (belC (bw4) _ _ laX1 _) _ _ laX1 _) k2 (Nat.le_refl _), keep1 (belC (belC (bw4) _ _ laX1 _) _ _ laX1 _) k3 (Nat.le_refl _), keep1 (belC (belC (bw4) _ _ laX1 _) _ _ laX1 _) k4 (Nat.le_refl _), keep1 (belC (belC (bw4) _ _ laX1 _) _ _ laX1 _) k5 (Nat.le_refl _)⟩) (fun _ => ?_)
       clear hK K x0 f0 x1 f1 lE
       refine foldH ?_
       intro r5 hr5
       have bw5 : Below w2.heap.size w2 r5 := by rw [hr5]; exact belC (belC (bw4) _ _ laX1 _) _ _ laX1 _
       have kX5 : Blk r5 r0.heap.size 30 #[.int .i64 nx, .slice A2 n c2] := by rw [hr5]; exact ((kX4).put 0 _ _ rfl).put 1 _ _ rfl
       have neR5 : r2.heap.size ≠ r0.heap.size := by have := kX4.lt; have := kR4.lt; exact Blk.ne_ kR4 kX4 (by decide)
       have kR5 : Blk r5 r2.heap.size 147 #[.int .i64 0, .int .i64 0, .string ⟨#[]⟩, .string ⟨#[]⟩] := by rw [hr5]; exact ((kR4).far neR5 _).far neR5 _
       clear hr5
       refine wpAnyH_ready (rs := [10]) (by kernel_rfl) (by simp) ?_
       refine AllReadyH.cons (o := ?oi63) ?hi63 (fun K hK => ?br63) AllReadyH.nil
       case hi63 => (conv => lhs; simp only [List.getElem?_toArray, List.getElem?_cons_zero, List.getElem?_cons_succ]); try exact rfl
       case br63 =>
        have x0 := kR5.get (x := .int .i64 0) 0 rfl
        have f0 := kR5.frozen 0
        have x1 := kR5.get (x := .int .i64 0) 1 rfl
        have f1 := kR5.frozen 1
        have x2 := kR5.get (x := .string ⟨#[]⟩) 2 rfl
        have f2 := kR5.frozen 2
        have x3 := kR5.get (x := .string ⟨#[]⟩) 3 rfl
        have f3 := kR5.frozen 3
        have lE := kR5.lt
        go_simp
        refine hK.out _ _ (by exact ⟨keep1 (belC (belC (belC (belC (bw5) _ _ laR3 _) _ _ laR3 _) _ _ laR3 _) _ _ laR3 _) v0 (Nat.le_refl _), keep1 (belC (belC (belC (belC (bw5) _ _ laR3 _) _ _ laR3 _) _ _ laR3 _) _ _ laR3 _) v1 (Nat.le_refl _), keep1 (belC (belC (belC (belC (bw5) _ _ laR3 _) _ _ laR3 _) _ _ laR3 _) _ _ laR3 _) k0 (Nat.le_refl _), keep1 (belC (belC (belC (belC (bw5) _ _ laR3 _) _ _ laR3 _) _ _ laR3 _) _ _ laR3 _) k1 (Nat.le_refl _), keep1 (belC (belC (belC (belC (bw5) _ _ laR3 _) _ _ laR3 _) _ _ laR3 _) _ _ laR3 _) k2 (Nat.le_refl _), keep1 (belC (belC (belC (belC (bw5) _ _ laR3 _) _ _ laR3 _) _ _ laR3 _) _ _ laR3 _) k3 (Nat.le_refl _), keep1 (belC (belC (belC (belC (bw5) _ _ laR3 _) _ _ laR3 _) _ _ laR3 _) _ _ laR3 _) k4 (Nat.le_refl _), keep1 (belC (belC (belC (belC (bw5) _ _ laR3 _) _ _ laR3 _) _ _ laR3 _) _ _ laR3 _) k5 (Nat.le_refl _)⟩) (fun _ => ?_)
        clear hK K x0 f0 x1 f1 x2 f2 x3 f3 lE
        refine foldH ?_
        intro r6 hr6
        have bw6 : Below w2.heap.size w2 r6 := by rw [hr6]; exact belC (belC (belC (belC (bw5) _ _ laR3 _) _ _ laR3 _) _ _ laR3 _) _ _ laR3 _
        have kR6 : Blk r6 r2.heap.size 147 #[.int .i64 lc, .int .i64 li, .string ls, .string ld] := by rw [hr6]; exact ((((kR5).put 0 _ _ rfl).put 1 _ _ rfl).put 2 _ _ rfl).put 3 _ _ rfl
        have neX6 : r0.heap.size ≠ r2.heap.size := by have := kR5.lt; have := kX5.lt; exact Blk.ne_ kX5 kR5 (by decide)
        have kX6 : Blk r6 r0.heap.size 30 #[.int .i64 nx, .slice A2 n c2] := by rw [hr6]; exact ((((kX5).far neX6 _).far neX6 _).far neX6 _).far neX6 _
        clear hr6
        refine wpAnyH_done (by kernel_rfl) ?_ _
        go_wp2_with fail
        go_meet
        case rel => exact ⟨_, _, _, _, rfl, rfl, kX6, kR6, laX1, laR3, bw6⟩
   case br49 =>
    go_simp
    refine hK.out _ _ (by exact ⟨keep1 (belA bw1 (.cells #[.int .i64 0, .int .i64 0, .string ⟨#[]⟩, .string ⟨#[]⟩] 147)) v0 (Nat.le_refl _), keep1 (belA bw1 (.cells #[.int .i64 0, .int .i64 0, .string ⟨#[]⟩, .string ⟨#[]⟩] 147)) v1 (Nat.le_refl _), keep1 (belA bw1 (.cells #[.int .i64 0, .int .i64 0, .string ⟨#[]⟩, .string ⟨#[]⟩] 147)) k0 (Nat.le_refl _), keep1 (belA bw1 (.cells #[.int .i64 0, .int .i64 0, .string ⟨#[]⟩, .string ⟨#[]⟩] 147)) k1 (Nat.le_refl _), keep1 (belA bw1 (.cells #[.int .i64 0, .int .i64 0, .string ⟨#[]⟩, .string ⟨#[]⟩] 147)) k2 (Nat.le_refl _), keep1 (belA bw1 (.cells #[.int .i64 0, .int .i64 0, .string ⟨#[]⟩, .string ⟨#[]⟩] 147)) k3 (Nat.le_refl _), keep1 (belA bw1 (.cells #[.int .i64 0, .int .i64 0, .string ⟨#[]⟩, .string ⟨#[]⟩] 147)) k4 (Nat.le_refl _), keep1 (belA bw1 (.cells #[.int .i64 0, .int .i64 0, .string ⟨#[]⟩, .string ⟨#[]⟩] 147)) k5 (Nat.le_refl _)⟩) (fun _ => ?_)
    clear hK K
    refine foldH ?_
    intro r2 hr2
    have bw2 : Below w2.heap.size w2 r2 := by rw [hr2]; exact belA bw1 _
    have kR2 : Blk r2 r1.heap.size 147 #[.int .i64 0, .int .i64 0, .string ⟨#[]⟩, .string ⟨#[]⟩] := by rw [hr2]; exact Blk.new' _ _ _ _ rfl
    have kX2 : Blk r2 r0.heap.size 30 #[.int .i64 0, .slice none 0 0] := by rw [hr2]; exact kX1.alloc _
    have laR2 : w2.heap.size ≤ r1.heap.size := bw1.size
    clear hr2
    refine wpAnyH_ready (rs := [1]) (by kernel_rfl) (by simp) ?_
    refine AllReadyH.cons (o := ?oi64) ?hi64 (fun K hK => ?br64) AllReadyH.nil
    case hi64 => (conv => lhs; simp only [List.getElem?_toArray, List.getElem?_cons_zero, List.getElem?_cons_succ]); try exact rfl
    case br64 =>
     go_simp
     go_at_call 197
     refine (Hcp.out _ (hvv.out.next (belN B2 bw2))).mono ?_
     rintro e r3 ⟨vc3, rfl, hv3, hb3r⟩
     have bw3 : Below w2.heap.size w2 r3 := bw2.trans (hb3r.mono bw2.size)
     refine hK.out _ _ (by exact ⟨keep1 (bw3) v0 (Nat.le_refl _), keep1 (bw3) v1 (Nat.le_refl _), keep1 (bw3) k0 (Nat.le_refl _), keep1 (bw3) k1 (Nat.le_refl _), keep1 (bw3) k2 (Nat.le_refl _), keep1 (bw3) k3 (Nat.le_refl _), keep1 (bw3) k4 (Nat.le_refl _), keep1 (bw3) k5 (Nat.le_refl _)⟩) (fun _ => ?_)
     clear hK K
     have kX3 := kX2.below hb3r kX2.lt
     have kR3 := kR2.below hb3r kR2.lt
     have Hv3 := Lib.hid hv3
     obtain ⟨A3, c3, he3, _, _⟩ := hv3
     simp only [HL.out] at he3
     subst he3
     refine wpAnyH_ready (rs := [3]) (by kernel_rfl) (by simp) ?_
     refine AllReadyH.cons (o := ?oi65) ?hi65 (fun K hK => ?br65) AllReadyH.nil
     case hi65 => (conv => lhs; simp only [List.getElem?_toArray, List.getElem?_cons_zero, List.getElem?_cons_succ]); try exact rfl
     case br65 =>
      go_simp
      go_at_call 196
      refine (Hdo.out _ _ Hv3.out).mono ?_
      rintro e r4 ⟨rfl, hb4r⟩
      have bw4 : Below w2.heap.size w2 r4 := bw3.trans (hb4r.mono bw3.size)
      refine hK.out _ _ (by exact ⟨keep1 (bw4) v0 (Nat.le_refl _), keep1 (bw4) v1 (Nat.le_refl _), keep1 (bw4) k0 (Nat.le_refl _), keep1 (bw4) k1 (Nat.le_refl _), keep1 (bw4) k2 (Nat.le_refl _), keep1 (bw4) k3 (Nat.le_refl _), keep1 (bw4) k4 (Nat.le_refl _), keep1 (bw4) k5 (Nat.le_refl _)⟩) (fun _ => ?_)
      clear hK K
      have kX4 := kX3.below hb4r kX3.lt
      have kR4 := kR3.below hb4r kR3.lt
      have CV4 := Lib.hid (show IsVolC r4 (.agg #[.int .i64 nx, .slice A3 n c3]) ⟨nx, xs⟩ from Hv3.out.next hb4r)
      refine wpAnyH_take (i := 4) (oi := ?oi66) (v := ?v66) ?hi66 ?hs66 ?hf66 ?hr66 ?hQ66 ?hy66 ?hS66 ?hrest66
      case hi66 => (conv => lhs; simp only [List.getElem?_toArray, List.getElem?_cons_zero, List.getElem?_cons_succ]); try exact rfl
      case hs66 => kernel_rfl
      case hf66 => kernel_rfl
      case hr66 => kernel_rfl
      case hQ66 => exact fun _ _ _ h => h
      case hS66 => exact ⟨keep1 (bw4) v0 (Nat.le_refl _), keep1 (bw4) v1 (Nat.le_refl _), keep1 (bw4) k0 (Nat.le_refl _), keep1 (bw4) k1 (Nat.le_refl _), keep1 (bw4) k2 (Nat.le_refl _), keep1 (bw4) k3 (Nat.le_refl _), keep1 (bw4) k4 (Nat.le_refl _), keep1 (bw4) k5 (Nat.le_refl _)⟩
      case hy66 => refine Or.inl ⟨by rfl, ?_⟩; intro w hSw; (try dsimp only at hSw); go_simp; (try with_reducible rfl)
      simp only [Act.put, List.setIfInBounds_toArray, List.set_cons_zero, List.set_cons_succ]
      refine wpAnyH_take (i := 5) (oi := ?oi67) (v := ?v67) ?hi67 ?hs67 ?hf67 ?hr67 ?hQ67 ?hy67 ?hS67 ?hrest67
      case hi67 => (conv => lhs; simp only [List.getElem?_toArray, List.getElem?_cons_zero, List.getElem?_cons_succ]); try exact rfl
      case hs67 => kernel_rfl
      case hf67 => kernel_rfl
      case hr67 => kernel_rfl
      case hQ67 => exact fun _ _ _ h => h
      case hS67 => exact ⟨keep1 (bw4) v0 (Nat.le_refl _), keep1 (bw4) v1 (Nat.le_refl _), keep1 (bw4) k0 (Nat.le_refl _), keep1 (bw4) k1 (Nat.le_refl _), keep1 (bw4) k2 (Nat.le_refl _), keep1 (bw4) k3 (Nat.le_refl _), keep1 (bw4) k4 (Nat.le_refl _), keep1 (bw4) k5 (Nat.le_refl _)⟩
      case hy67 => refine Or.inl ⟨by rfl, ?_⟩; intro w hSw; (try dsimp only at hSw); go_simp; (try with_reducible rfl)
      simp only [Act.put, List.setIfInBounds_toArray, List.set_cons_zero, List.set_cons_succ]
      refine wpAnyH_take (i := 6) (oi := ?oi68) (v := ?v68) ?hi68 ?hs68 ?hf68 ?hr68 ?hQ68 ?hy68 ?hS68 ?hrest68
      case hi68 => (conv => lhs; simp only [List.getElem?_toArray, List.getElem?_cons_zero, List.getElem?_cons_succ]); try exact rfl
      case hs68 => kernel_rfl
      case hf68 => kernel_rfl
      case hr68 => kernel_rfl
      case hQ68 => exact fun _ _ _ h => h
      case hS68 => exact ⟨keep1 (bw4) v0 (Nat.le_refl _), keep1 (bw4) v1 (Nat.le_refl _), keep1 (bw4) k0 (Nat.le_refl _), keep1 (bw4) k1 (Nat.le_refl _), keep1 (bw4) k2 (Nat.le_refl _), keep1 (bw4) k3 (Nat.le_refl _), keep1 (bw4) k4 (Nat.le_refl _), keep1 (bw4) k5 (Nat.le_refl _)⟩
      case hy68 => refine Or.inl ⟨by rfl, ?_⟩; intro w hSw; (try dsimp only at hSw); go_simp; (try with_reducible rfl)
      simp only [Act.put, List.setIfInBounds_toArray, List.set_cons_zero, List.set_cons_succ]
      refine wpAnyH_ready (rs := [9]) (by kernel_rfl) (by simp) ?_
      refine AllReadyH.cons (o := ?oi69) ?hi69 (fun K hK => ?br69) AllReadyH.nil
      case hi69 => (conv => lhs; simp only [List.getElem?_toArray, List.getElem?_cons_zero, List.getElem?_cons_succ]); try exact rfl
      case br69 =>
       have x0 := kX4.get (x := .int .i64 0) 0 rfl
       have f0 := kX4.frozen 0
       have x1 := kX4.get (x := .slice none 0 0) 1 rfl
       have f1 := kX4.frozen 1
       have lE := kX4.lt
       go_simp
       refine hK.out _ _ (by exact ⟨keep1 (belC (belC (bw4) _ _ laX1 _) _ _ laX1 _) v0 (Nat.le_refl _), keep1 (belC (belC (bw4) _ _ laX1 _) _ _ laX1 _) v1 (Nat.le_refl _), keep1 (belC (belC (bw4) _ _ laX1 _) _ _ laX1 _) k0 (Nat.le_refl _), keep1 (belC (belC (bw4) _ _ laX1 _) _ _ laX1 _) k1 (Nat.le_refl _), keep1 (belC (belC (bw4) _ _ laX1 _) _ _ laX1 _) k2 (Nat.le_refl _), keep1 (belC (belC (bw4) _ _ laX1 _) _ _ laX1 _) k3 (Nat.le_refl _), keep1 (belC (belC (bw4) _ _ laX1 _) _ _ laX1 _) k4 (Nat.le_refl _), keep1 (belC (belC (bw4) _ _ laX1 _) _ _ laX1 _) k5 (Nat.le_refl _)⟩) (fun _ => ?_)
       clear hK K x0 f0 x1 f1 lE
       refine foldH ?_
       intro r5 hr5
       have bw5 : Below w2.heap.size w2 r5 := by rw [hr5]; exact belC (belC (bw4) _ _ laX1 _) _ _ laX1 _
       have kX5 : Blk r5 r0.heap.size 30 #[.int .i64 nx, .slice A3 n c3] := by rw [hr5]; exact ((kX4).put 0 _ _ rfl).put 1 _ _ rfl
       have neR5 : r1.heap.size ≠ r0.heap.size := by have := kX4.lt; have := kR4.lt; exact Blk.ne_ kR4 kX4 (by decide)
       have kR5 : Blk r5 r1.heap.size 147 #[.int .i64 0, .int .i64 0, .string ⟨#[]⟩, .string ⟨#[]⟩] := by rw [hr5]; exact ((kR4).far neR5 _).far neR5 _
       clear hr5
       refine wpAnyH_ready (rs := [10]) (by kernel_rfl) (by simp) ?_
       refine AllReadyH.cons (o := ?oi70) ?hi70 (fun K hK => ?br70) AllReadyH.nil
       case hi70 => (conv => lhs; simp only [List.getElem?_toArray, List.getElem?_cons_zero, List.getElem?_cons_succ]); try exact rfl
       case br70 =>
        have x0 := kR5.get (x := .int .i64 0) 0 rfl
        have f0 := kR5.frozen 0
        have x1 := kR5.get (x := .int .i64 0) 1 rfl
        have f1 := kR5.frozen 1
        have x2 := kR5.get (x := .string ⟨#[]⟩) 2 rfl
        have f2 := kR5.frozen 2
        have x3 := kR5.get (x := .string ⟨#[]⟩) 3 rfl
        have f3 := kR5.frozen 3
        have lE := kR5.lt
        go_simp
        refine hK.out _ _ (by exact ⟨keep1 (belC (belC (belC (belC (bw5) _ _ laR2 _) _ _ laR2 _) _ _ laR2 _) _ _ laR2 _) v0 (Nat.le_refl _), keep1 (belC (belC (belC (belC (bw5) _ _ laR2 _) _ _ laR2 _) _ _ laR2 _) _ _ laR2 _) v1 (Nat.le_refl _), keep1 (belC (belC (belC (belC (bw5) _ _ laR2 _) _ _ laR2 _) _ _ laR2 _) _ _ laR2 _) k0 (Nat.le_refl _), keep1 (belC (belC (belC (belC (bw5) _ _ laR2 _) _ _ laR2 _) _ _ laR2 _) _ _ laR2 _) k1 (Nat.le_refl _), keep1 (belC (belC (belC (belC (bw5) _ _ laR2 _) _ _ laR2 _) _ _ laR2 _) _ _ laR2 _) k2 (Nat.le_refl _), keep1 (belC (belC (belC (belC (bw5) _ _ laR2 _) _ _ laR2 _) _ _ laR2 _) _ _ laR2 _) k3 (Nat.le_refl _), keep1 (belC (belC (belC (belC (bw5) _ _ laR2 _) _ _ laR2 _) _ _ laR2 _) _ _ laR2 _) k4 (Nat.le_refl _), keep1 (belC (belC (belC (belC (bw5) _ _ laR2 _) _ _ laR2 _) _ _ laR2 _) _ _ laR2 _) k5 (Nat.le_refl _)⟩) (fun _ => ?_)
        clear hK K x0 f0 x1 f1 x2 f2 x3 f3 lE
        refine foldH ?_
        intro r6 hr6
        have bw6 : Below w2.heap.size w2 r6 := by rw [hr6]; exact belC (belC (belC (belC (bw5) _ _ laR2 _) _ _ laR2 _) _ _ laR2 _) _ _ laR2 _
        have kR6 : Blk r6 r1.heap.size 147 #[.int .i64 lc, .int .i64 li, .string ls, .string ld] := by rw [hr6]; exact ((((kR5).put 0 _ _ rfl).put 1 _ _ rfl).put 2 _ _ rfl).put 3 _ _ rfl
        have neX6 : r0.heap.size ≠ r1.heap.size := by have := kR5.lt; have := kX5.lt; exact Blk.ne_ kX5 kR5 (by decide)
        have kX6 : Blk r6 r0.heap.size 30 #[.int .i64 nx, .slice A3 n c3] := by rw [hr6]; exact ((((kX5).far neX6 _).far neX6 _).far neX6 _).far neX6 _
        clear hr6
        refine wpAnyH_done (by kernel_rfl) ?_ _
        go_wp2_with fail
        go_meet
        case rel => exact ⟨_, _, _, _, rfl, rfl, kX6, kR6, laX1, laR2, bw6⟩
  case br5 =>
   go_simp
   refine hK.out _ _ (by exact ⟨keep1 (belA bw0 (.cells #[.int .i64 0, .int .i64 0, .string ⟨#[]⟩, .string ⟨#[]⟩] 147)) v0 (Nat.le_refl _), keep1 (belA bw0 (.cells #[.int .i64 0, .int .i64 0, .string ⟨#[]⟩, .string ⟨#[]⟩] 147)) v1 (Nat.le_refl _), keep1 (belA bw0 (.cells #[.int .i64 0, .int .i64 0, .string ⟨#[]⟩, .string ⟨#[]⟩] 147)) k0 (Nat.le_refl _), keep1 (belA bw0 (.cells #[.int .i64 0, .int .i64 0, .string ⟨#[]⟩, .string ⟨#[]⟩] 147)) k1 (Nat.le_refl _), keep1 (belA bw0 (.cells #[.int .i64 0, .int .i64 0, .string ⟨#[]⟩, .string ⟨#[]⟩] 147)) k2 (Nat.le_refl _), keep1 (belA bw0 (.cells #[.int .i64 0, .int .i64 0, .string ⟨#[]⟩, .string ⟨#[]⟩] 147)) k3 (Nat.le_refl _), keep1 (belA bw0 (.cells #[.int .i64 0, .int .i64 0, .string ⟨#[]⟩, .string ⟨#[]⟩] 147)) k4 (Nat.le_refl _), keep1 (belA bw0 (.cells #[.int .i64 0, .int .i64 0, .string ⟨#[]⟩, .string ⟨#[]⟩] 147)) k5 (Nat.le_refl _)⟩) (fun _ => ?_)
   clear hK K
   refine foldH ?_
   intro r1 hr1
   have bw1 : Below w2.heap.size w2 r1 := by rw [hr1]; exact belA bw0 _
   have kR1 : Blk r1 r0.heap.size 147 #[.int .i64 0, .int .i64 0, .string ⟨#[]⟩, .string ⟨#[]⟩] := by rw [hr1]; exact Blk.new' _ _ _ _ rfl
   have laR1 : w2.heap.size ≤ r0.heap.size := bw0.size
   clear hr1
   refine wpAnyH_ready (rs := [1, 7]) (by kernel_rfl) (by simp) ?_
   refine AllReadyH.cons (o := ?oi71) ?hi71 (fun K hK => ?br71) (AllReadyH.cons (o := ?oi72) ?hi72 (fun K hK => ?br72) AllReadyH.nil)
   case hi71 => (conv => lhs; simp only [List.getElem?_toArray, List.getElem?_cons_zero, List.getElem?_cons_succ]); try exact rfl
   case hi72 => (conv => lhs; simp only [List.getElem?_toArray, List.getElem?_cons_zero, List.getElem?_cons_succ]); try exact rfl
   case br71 =>
    go_simp
    go_at_call 197
    refine (Hcp.out _ (hvv.out.next (belN B2 bw1))).mono ?_
    rintro e r2 ⟨vc2, rfl, hv2, hb2r⟩
    have bw2 : Below w2.heap.size w2 r2 := bw1.trans (hb2r.mono bw1.size)
    refine hK.out _ _ (by exact ⟨keep1 (bw2) v0 (Nat.le_refl _), keep1 (bw2) v1 (Nat.le_refl _), keep1 (bw2) k0 (Nat.le_refl _), keep1 (bw2) k1 (Nat.le_refl _), keep1 (bw2) k2 (Nat.le_refl _), keep1 (bw2) k3 (Nat.le_refl _), keep1 (bw2) k4 (Nat.le_refl _), keep1 (bw2) k5 (Nat.le_refl _)⟩) (fun _ => ?_)
    clear hK K
    have kR2 := kR1.below hb2r kR1.lt
    have Hv2 := Lib.hid hv2
    obtain ⟨A2, c2, he2, _, _⟩ := hv2
    simp only [HL.out] at he2
    subst he2
    refine wpAnyH_ready (rs := [3, 7]) (by kernel_rfl) (by simp) ?_
    refine AllReadyH.cons (o := ?oi73) ?hi73 (fun K hK => ?br73) (AllReadyH.cons (o := ?oi74) ?hi74 (fun K hK => ?br74) AllReadyH.nil)
    case hi73 => (conv => lhs; simp only [List.getElem?_toArray, List.getElem?_cons_zero, List.getElem?_cons_succ]); try exact rfl
    case hi74 => (conv => lhs; simp only [List.getElem?_toArray, List.getElem?_cons_zero, List.getElem?_cons_succ]); try exact rfl
    case br73 =>
     go_simp
     go_at_call 196
     refine (Hdo.out _ _ Hv2.out).mono ?_
     rintro e r3 ⟨rfl, hb3r⟩
     have bw3 : Below w2.heap.size w2 r3 := bw2.trans (hb3r.mono bw2.size)
     refine hK.out _ _ (by exact ⟨keep1 (bw3) v0 (Nat.le_refl _), keep1 (bw3) v1 (Nat.le_refl _), keep1 (bw3) k0 (Nat.le_refl _), keep1 (bw3) k1 (Nat.le_refl _), keep1 (bw3) k2 (Nat.le_refl _), keep1 (bw3) k3 (Nat.le_refl _), keep1 (bw3) k4 (Nat.le_refl _), keep1 (bw3) k5 (Nat.le_refl _)⟩) (fun _ => ?_)
     clear hK K
     have kR3 := kR2.below hb3r kR2.lt
     have CV3 := Lib.hid (show IsVolC r3 (.agg #[.int .i64 nx, .slice A2 n c2]) ⟨nx, xs⟩ from Hv2.out.next hb3r)
     refine wpAnyH_take (i := 4) (oi := ?oi75) (v := ?v75) ?hi75 ?hs75 ?hf75 ?hr75 ?hQ75 ?hy75 ?hS75 ?hrest75
     case hi75 => (conv => lhs; simp only [List.getElem?_toArray, List.getElem?_cons_zero, List.getElem?_cons_succ]); try exact rfl
     case hs75 => kernel_rfl
     case hf75 => kernel_rfl
     case hr75 => kernel_rfl
     case hQ75 => exact fun _ _ _ h => h
     case hS75 => exact ⟨keep1 (bw3) v0 (Nat.le_refl _), keep1 (bw3) v1 (Nat.le_refl _), keep1 (bw3) k0 (Nat.le_refl _), keep1 (bw3) k1 (Nat.le_refl _), keep1 (bw3) k2 (Nat.le_refl _), keep1 (bw3) k3 (Nat.le_refl _), keep1 (bw3) k4 (Nat.le_refl _), keep1 (bw3) k5 (Nat.le_refl _)⟩
     case hy75 => refine Or.inl ⟨by rfl, ?_⟩; intro w hSw; (try dsimp only at hSw); go_simp; (try with_reducible rfl)
     simp only [Act.put, List.setIfInBounds_toArray, List.set_cons_zero, List.set_cons_succ]
     refine wpAnyH_take (i := 5) (oi := ?oi76) (v := ?v76) ?hi76 ?hs76 ?hf76 ?hr76 ?hQ76 ?hy76 ?hS76 ?hrest76
     case hi76 => (conv => lhs; simp only [List.getElem?_toArray, List.getElem?_cons_zero, List.getElem?_cons_succ]); try exact rfl
     case hs76 => kernel_rfl
     case hf76 => kernel_rfl
     case hr76 => kernel_rfl
     case hQ76 => exact fun _ _ _ h => h
     case hS76 => exact ⟨keep1 (bw3) v0 (Nat.le_refl _), keep1 (bw3) v1 (Nat.le_refl _), keep1 (bw3) k0 (Nat.le_refl _), keep1 (bw3) k1 (Nat.le_refl _), keep1 (bw3) k2 (Nat.le_refl _), keep1 (bw3) k3 (Nat.le_refl _), keep1 (bw3) k4 (Nat.le_refl _), keep1 (bw3) k5 (Nat.le_refl _)⟩
     case hy76 => refine Or.inl ⟨by rfl, ?_⟩; intro w hSw; (try dsimp only at hSw); go_simp; (try with_reducible rfl)
     simp only [Act.put, List.setIfInBounds_toArray, List.set_cons_zero, List.set_cons_succ]
     refine wpAnyH_take (i := 6) (oi := ?oi77) (v := ?v77) ?hi77 ?hs77 ?hf77 ?hr77 ?hQ77 ?hy77 ?hS77 ?hrest77
     case hi77 => (conv => lhs; simp only [List.getElem?_toArray, List.getElem?_cons_zero, List.getElem?_cons_succ]); try exact rfl
     case hs77 => kernel_rfl
     case hf77 => kernel_rfl
     case hr77 => kernel_rfl
     case hQ77 => exact fun _ _ _ h => h
     case hS77 => exact ⟨keep1 (bw3) v0 (Nat.le_refl _), keep1 (bw3) v1 (Nat.le_refl _), keep1 (bw3) k0 (Nat.le_refl _), keep1 (bw3) k1 (Nat.le_refl _), keep1 (bw3) k2 (Nat.le_refl _), keep1 (bw3) k3 (Nat.le_refl _), keep1 (bw3) k4 (Nat.le_refl _), keep1 (bw3) k5 (Nat.le_refl _)⟩
     case hy77 => refine Or.inl ⟨by rfl, ?_⟩; intro w hSw; (try dsimp only at hSw); go_simp; (try with_reducible rfl)
     simp only [Act.put, List.setIfInBounds_toArray, List.set_cons_zero, List.set_cons_succ]
     refine wpAnyH_ready (rs := [7]) (by kernel_rfl) (by simp) ?_
     refine AllReadyH.cons (o := ?oi78) ?hi78 (fun K hK => ?br78) AllReadyH.nil
     case hi78 => (conv => lhs; simp only [List.getElem?_toArray, List.getElem?_cons_zero, List.getElem?_cons_succ]); try exact rfl
     case br78 =>
      go_simp
      refine hK.out _ _ (by exact ⟨keep1 (belA bw3 (.cells #[.int .i64 0, .slice none 0 0] 30)) v0 (Nat.le_refl _), keep1 (belA bw3 (.cells #[.int .i64 0, .slice none 0 0] 30)) v1 (Nat.le_refl _), keep1 (belA bw3 (.cells #[.int .i64 0, .slice none 0 0] 30)) k0 (Nat.le_refl _), keep1 (belA bw3 (.cells #[.int .i64 0, .slice none 0 0] 30)) k1 (Nat.le_refl _), keep1 (belA bw3 (.cells #[.int .i64 0, .slice none 0 0] 30)) k2 (Nat.le_refl _), keep1 (belA bw3 (.cells #[.int .i64 0, .slice none 0 0] 30)) k3 (Nat.le_refl _), keep1 (belA bw3 (.cells #[.int .i64 0, .slice none 0 0] 30)) k4 (Nat.le_refl _), keep1 (belA bw3 (.cells #[.int .i64 0, .slice none 0 0] 30)) k5 (Nat.le_refl _)⟩) (fun _ => ?_)
      clear hK K
      refine foldH ?_
      intro r4 hr4
      have bw4 : Below w2.heap.size w2 r4 := by rw [hr4]; exact belA bw3 _
      have kX4 : Blk r4 r3.heap.size 30 #[.int .i64 0, .slice none 0 0] := by rw [hr4]; exact Blk.new' _ _ _ _ rfl
      have kR4 : Blk r4 r0.heap.size 147 #[.int .i64 0, .int .i64 0, .string ⟨#[]⟩, .string ⟨#[]⟩] := by rw [hr4]; exact kR3.alloc _
      have CV4 : Hid (IsVolC r4 (.agg #[.int .i64 nx, .slice A2 n c2]) ⟨nx, xs⟩) := Lib.hid (by rw [hr4]; exact CV3.out.next (belA (bel0 _) _))
      have laX4 : w2.heap.size ≤ r3.heap.size := bw3.size
      clear hr4
      refine wpAnyH_ready (rs := [9]) (by kernel_rfl) (by simp) ?_
      refine AllReadyH.cons (o := ?oi79) ?hi79 (fun K hK => ?br79) AllReadyH.nil
      case hi79 => (conv => lhs; simp only [List.getElem?_toArray, List.getElem?_cons_zero, List.getElem?_cons_succ]); try exact rfl
      case br79 =>
       have x0 := kX4.get (x := .int .i64 0) 0 rfl
       have f0 := kX4.frozen 0
       have x1 := kX4.get (x := .slice none 0 0) 1 rfl
       have f1 := kX4.frozen 1
       have lE := kX4.lt
       go_simp
       refine hK.out _ _ (by exact ⟨keep1 (belC (belC (bw4) _ _ laX4 _) _ _ laX4 _) v0 (Nat.le_refl _), keep1 (belC (belC (bw4) _ _ laX4 _) _ _ laX4 _) v1 (Nat.le_refl _), keep1 (belC (belC (bw4) _ _ laX4 _) _ _ laX4 _) k0 (Nat.le_refl _), keep1 (belC (belC (bw4) _ _ laX4 _) _ _ laX4 _) k1 (Nat.le_refl _), keep1 (belC (belC (bw4) _ _ laX4 _) _ _ laX4 _) k2 (Nat.le_refl _), keep1 (belC (belC (bw4) _ _ laX4 _) _ _ laX4 _) k3 (Nat.le_refl _), keep1 (belC (belC (bw4) _ _ laX4 _) _ _ laX4 _) k4 (Nat.le_refl _), keep1 (belC (belC (bw4) _ _ laX4 _) _ _ laX4 _) k5 (Nat.le_refl _)⟩) (fun _ => ?_)
       clear hK K x0 f0 x1 f1 lE
       refine foldH ?_
       intro r5 hr5
       have bw5 : Below w2.heap.size w2 r5 := by rw [hr5]; exact belC (belC (bw4) _ _ laX4 _) _ _ laX4 _
       have kX5 : Blk r5 r3.heap.size 30 #[.int .i64 nx, .slice A2 n c2] := by rw [hr5]; exact ((kX4).put 0 _ _ rfl).put 1 _ _ rfl
       have neR5 : r0.heap.size ≠ r3.heap.size := by have := kX4.lt; have := kR4.lt; exact Blk.ne_ kR4 kX4 (by decide)
       have kR5 : Blk r5 r0.heap.size 147 #[.int .i64 0, .int .i64 0, .string ⟨#[]⟩, .string ⟨#[]⟩] := by rw [hr5]; exact ((kR4).far neR5 _).far neR5 _
       clear hr5
       refine wpAnyH_ready (rs := [10]) (by kernel_rfl) (by simp) ?_
       refine AllReadyH.cons (o := ?oi80) ?hi80 (fun K hK => ?br80) AllReadyH.nil
       case hi80 => (conv => lhs; simp only [List.getElem?_toArray, List.getElem?_cons_zero, List.getElem?_cons_succ]); try exact rfl
       case br80 =>
        have x0 := kR5.get (x := .int .i64 0) 0 rfl
        have f0 := kR5.frozen 0
        have x1 := kR5.get (x := .int .i64 0) 1 rfl
        have f1 := kR5.frozen 1
        have x2 := kR5.get (x := .string ⟨#[]⟩) 2 rfl
        have f2 := kR5.frozen 2
        have x3 := kR5.get (x := .string ⟨#[]⟩) 3 rfl
        have f3 := kR5.frozen 3
        have lE := kR5.lt
        go_simp
        refine hK.out _ _ (by exact ⟨keep1 (belC (belC (belC (belC (bw5) _ _ laR1 _) _ _ laR1 _) _ _ laR1 _) _ _ laR1 _) v0 (Nat.le_refl _), keep1 (belC (belC (belC (belC (bw5) _ _ laR1 _) _ _ laR1 _) _ _ laR1 _) _ _ laR1 _) v1 (Nat.le_refl _), keep1 (belC (belC (belC (belC (bw5) _ _ laR1 _) _ _ laR1 _) _ _ laR1 _) _ _ laR1 _) k0 (Nat.le_refl _), keep1 (belC (belC (belC (belC (bw5) _ _ laR1 _) _ _ laR1 _) _ _ laR1 _) _ _ laR1 _) k1 (Nat.le_refl _), keep1 (belC (belC (belC (belC (bw5) _ _ laR1 _) _ _ laR1 _) _ _ laR1 _) _ _ laR1 _) k2 (Nat.le_refl _), keep1 (belC (belC (belC (belC (bw5) _ _ laR1 _) _ _ laR1 _) _ _ laR1 _) _ _ laR1 _) k3 (Nat.le_refl _), keep1 (belC (belC (belC (belC (bw5) _ _ laR1 _) _ _ laR1 _) _ _ laR1 _) _ _ laR1 _) k4 (Nat.le_refl _), keep1 (belC (belC (belC (belC (bw5) _ _ laR1 _) _ _ laR1 _) _ _ laR1 _) _ _ laR1 _) k5 (Nat.le_refl _)⟩) (fun _ => ?_)
        clear hK K x0 f0 x1 f1 x2 f2 x3 f3 lE
        refine foldH ?_
        intro r6 hr6
        have bw6 : Below w2.heap.size w2 r6 := by rw [hr6]; exact belC (belC (belC (belC (bw5) _ _ laR1 _) _ _ laR1 _) _ _ laR1 _) _ _ laR1 _
        have kR6 : Blk r6 r0.heap.size 147 #[.int .i64 lc, .int .i64 li, .string ls, .string ld] := by rw [hr6]; exact ((((kR5).put 0 _ _ rfl).put 1 _ _ rfl).put 2 _ _ rfl).put 3 _ _ rfl
        have neX6 : r3.heap.size ≠ r0.heap.size := by have := kR5.lt; have := kX5.lt; exact Blk.ne_ kX5 kR5 (by decide)
        have kX6 : Blk r6 r3.heap.size 30 #[.int .i64 nx, .slice A2 n c2] := by rw [hr6]; exact ((((kX5).far neX6 _).far neX6 _).far neX6 _).far neX6 _
        clear hr6
        refine wpAnyH_done (by kernel_rfl) ?_ _
        go_wp2_with fail
        go_meet
        case rel => exact ⟨_, _, _, _, rfl, rfl, kX6, kR6, laX4, laR1, bw6⟩
    case br74 =>
     go_simp
     refine hK.out _ _ (by exact ⟨keep1 (belA bw2 (.cells #[.int .i64 0, .slice none 0 0] 30)) v0 (Nat.le_refl _), keep1 (belA bw2 (.cells #[.int .i64 0, .slice none 0 0] 30)) v1 (Nat.le_refl _), keep1 (belA bw2 (.cells #[.int .i64 0, .slice none 0 0] 30)) k0 (Nat.le_refl _), keep1 (belA bw2 (.cells #[.int .i64 0, .slice none 0 0] 30)) k1 (Nat.le_refl _), keep1 (belA bw2 (.cells #[.int .i64 0, .slice none 0 0] 30)) k2 (Nat.le_refl _), keep1 (belA bw2 (.cells #[.int .i64 0, .slice none 0 0] 30)) k3 (Nat.le_refl _), keep1 (belA bw2 (.cells #[.int .i64 0, .slice none 0 0] 30)) k4 (Nat.le_refl _), keep1 (belA bw2 (.cells #[.int .i64 0, .slice none 0 0] 30)) k5 (Nat.le_refl _)⟩) (fun _ => ?_)
     clear hK K
     refine foldH ?_
     intro r3 hr3
     have bw3 : Below w2.heap.size w2 r3 := by rw [hr3]; exact belA bw2 _
     have kX3 : Blk r3 r2.heap.size 30 #[.int .i64 0, .slice none 0 0] := by rw [hr3]; exact Blk.new' _ _ _ _ rfl
     have kR3 : Blk r3 r0.heap.size 147 #[.int .i64 0, .int .i64 0, .string ⟨#[]⟩, .string ⟨#[]⟩] := by rw [hr3]; exact kR2.alloc _
     have CV3 : Hid (IsVolC r3 (.agg #[.int .i64 nx, .slice A2 n c2]) ⟨nx, xs⟩) := Lib.hid (by rw [hr3]; exact Hv2.out.next (belA (bel0 _) _))
     have laX3 : w2.heap.size ≤ r2.heap.size := bw2.size
     clear hr3
     refine wpAnyH_ready (rs := [3]) (by kernel_rfl) (by simp) ?_
     refine AllReadyH.cons (o := ?oi81) ?hi81 (fun K hK => ?br81) AllReadyH.nil
     case hi81 => (conv => lhs; simp only [List.getElem?_toArray, List.getElem?_cons_zero, List.getElem?_cons_succ]); try exact rfl
     case br81 =>
      go_simp
      go_at_call 196
      refine (Hdo.out _ _ CV3.out).mono ?_
      rintro e r4 ⟨rfl, hb4r⟩
      have bw4 : Below w2.heap.size w2 r4 := bw3.trans (hb4r.mono bw3.size)
      refine hK.out _ _ (by exact ⟨keep1 (bw4) v0 (Nat.le_refl _), keep1 (bw4) v1 (Nat.le_refl _), keep1 (bw4) k0 (Nat.le_refl _), keep1 (bw4) k1 (Nat.le_refl _), keep1 (bw4) k2 (Nat.le_refl _), keep1 (bw4) k3 (Nat.le_refl _), keep1 (bw4) k4 (Nat.le_refl _), keep1 (bw4) k5 (Nat.le_refl _)⟩) (fun _ => ?_)
      clear hK K
      have kR4 := kR3.below hb4r kR3.lt
      have kX4 := kX3.below hb4r kX3.lt
      have CV4 := Lib.hid (show IsVolC r4 (.agg #[.int .i64 nx, .slice A2 n c2]) ⟨nx, xs⟩ from CV3.out.next hb4r)
      refine wpAnyH_take (i := 4) (oi := ?oi82) (v := ?v82) ?hi82 ?hs82 ?hf82 ?hr82 ?hQ82 ?hy82 ?hS82 ?hrest82
      case hi82 => (conv => lhs; simp only [List.getElem?_toArray, List.getElem?_cons_zero, List.getElem?_cons_succ]); try exact rfl
      case hs82 => kernel_rfl
      case hf82 => kernel_rfl
      case hr82 => kernel_rfl
      case hQ82 => exact fun _ _ _ h => h
      case hS82 => exact ⟨keep1 (bw4) v0 (Nat.le_refl _), keep1 (bw4) v1 (Nat.le_refl _), keep1 (bw4) k0 (Nat.le_refl _), keep1 (bw4) k1 (Nat.le_refl _), keep1 (bw4) k2 (Nat.le_refl _), keep1 (bw4) k3 (Nat.le_refl _), keep1 (bw4) k4 (Nat.le_refl _), keep1 (bw4) k5 (Nat.le_refl _)⟩
      case hy82 => refine Or.inl ⟨by rfl, ?_⟩; intro w hSw; (try dsimp only at hSw); go_simp; (try with_reducible rfl)
      simp only [Act.put, List.setIfInBounds_toArray, List.set_cons_zero, List.set_cons_succ]
      refine wpAnyH_take (i := 5) (oi := ?oi83) (v := ?v83) ?hi83 ?hs83 ?hf83 ?hr83 ?hQ83 ?hy83 ?hS83 ?hrest83
      case hi83 => (conv => lhs; simp only [List.getElem?_toArray, List.getElem?_cons_zero, List.getElem?_cons_succ]); try exact rfl
      case hs83 => kernel_rfl
      case hf83 => kernel_rfl
      case hr83 => kernel_rfl
      case hQ83 => exact fun _ _ _ h => h
      case hS83 => exact ⟨keep1 (bw4) v0 (Nat.le_refl _), keep1 (bw4) v1 (Nat.le_refl _), keep1 (bw4) k0 (Nat.le_refl _), keep1 (bw4) k1 (Nat.le_refl _), keep1 (bw4) k2 (Nat.le_refl _), keep1 (bw4) k3 (Nat.le_refl _), keep1 (bw4) k4 (Nat.le_refl _), keep1 (bw4) k5 (Nat.le_refl _)⟩
      case hy83 => refine Or.inl ⟨by rfl, ?_⟩; intro w hSw; (try dsimp only at hSw); go_simp; (try with_reducible rfl)
      simp only [Act.put, List.setIfInBounds_toArray, List.set_cons_zero, List.set_cons_succ]
      refine wpAnyH_take (i := 6) (oi := ?oi84) (v := ?v84) ?hi84 ?hs84 ?hf84 ?hr84 ?hQ84 ?hy84 ?hS84 ?hrest84
      case hi84 => (conv => lhs; simp only [List.getElem?_toArray, List.getElem?_cons_zero, List.getElem?_cons_succ]); try exact rfl
      case hs84 => kernel_rfl
      case hf84 => kernel_rfl
      case hr84 => kernel_rfl
      case hQ84 => exact fun _ _ _ h => h
      case hS84 => exact ⟨keep1 (bw4) v0 (Nat.le_refl _), keep1 (bw4) v1 (Nat.le_refl _), keep1 (bw4) k0 (Nat.le_refl _), keep1 (bw4) k1 (Nat.le_refl _), keep1 (bw4) k2 (Nat.le_refl _), keep1 (bw4) k3 (Nat.le_refl _), keep1 (bw4) k4 (Nat.le_refl _), keep1 (bw4) k5 (Nat.le_refl _)⟩
      case hy84 => refine Or.inl ⟨by rfl, ?_⟩; intro w hSw; (try dsimp only at hSw); go_simp; (try with_reducible rfl)
      simp only [Act.put, List.setIfInBounds_toArray, List.set_cons_zero, List.set_cons_succ]
      refine wpAnyH_ready (rs := [9]) (by kernel_rfl) (by simp) ?_
      refine AllReadyH.cons (o := ?oi85) ?hi85 (fun K hK => ?br85) AllReadyH.nil
      case hi85 => (conv => lhs; simp only [List.getElem?_toArray, List.getElem?_cons_zero, List.getElem?_cons_succ]); try exact rfl
      case br85 =>
       have x0 := kX4.get (x := .int .i64 0) 0 rfl
       have f0 := kX4.frozen 0
       have x1 := kX4.get (x := .slice none 0 0) 1 rfl
       have f1 := kX4.frozen 1
       have lE := kX4.lt
       go_simp
       refine hK.out _ _ (by exact ⟨keep1 (belC (belC (bw4) _ _ laX3 _) _ _ laX3 _) v0 (Nat.le_refl _), keep1 (belC (belC (bw4) _ _ laX3 _) _ _ laX3 _) v1 (Nat.le_refl _), keep1 (belC (belC (bw4) _ _ laX3 _) _ _ laX3 _) k0 (Nat.le_refl _), keep1 (belC (belC (bw4) _ _ laX3 _) _ _ laX3 _) k1 (Nat.le_refl _), keep1 (belC (belC (bw4) _ _ laX3 _) _ _ laX3 _) k2 (Nat.le_refl _), keep1 (belC (belC (bw4) _ _ laX3 _) _ _ laX3 _) k3 (Nat.le_refl _), keep1 (belC (belC (bw4) _ _ laX3 _) _ _ laX3 _) k4 (Nat.le_refl _), keep1 (belC (belC (bw4) _ _ laX3 _) _ _ laX3 _) k5 (Nat.le_refl _)⟩) (fun _ => ?_)
       clear hK K x0 f0 x1 f1 lE
       refine foldH ?_
       intro r5 hr5
       have bw5 : Below w2.heap.size w2 r5 := by rw [hr5]; exact belC (belC (bw4) _ _ laX3 _) _ _ laX3 _
       have kX5 : Blk r5 r2.heap.size 30 #[.int .i64 nx, .slice A2 n c2] := by rw [hr5]; exact ((kX4).put 0 _ _ rfl).put 1 _ _ rfl
       have neR5 : r0.heap.size ≠ r2.heap.size := by have := kX4.lt; have := kR4.lt; exact Blk.ne_ kR4 kX4 (by decide)
       have kR5 : Blk r5 r0.heap.size 147 #[.int .i64 0, .int .i64 0, .string ⟨#[]⟩, .string ⟨#[]⟩] := by rw [hr5]; exact ((kR4).far neR5 _).far neR5 _
       clear hr5
       refine wpAnyH_ready (rs := [10]) (by kernel_rfl) (by simp) ?_
       refine AllReadyH.cons (o := ?oi86) ?hi86 (fun K hK => ?br86) AllReadyH.nil
       case hi86 => (conv => lhs; simp only [List.getElem?_toArray, List.getElem?_cons_zero, List.getElem?_cons_succ]); try exact rfl
       case br86 =>
        have x0 := kR5.get (x := .int .i64 0) 0 rfl
        have f0 := kR5.frozen 0
        have x1 := kR5.get (x := .int .i64 0) 1 rfl
        have f1 := kR5.frozen 1
        have x2 := kR5.get (x := .string ⟨#[]⟩) 2 rfl
        have f2 := kR5.frozen 2
        have x3 := kR5.get (x := .string ⟨#[]⟩) 3 rfl
        have f3 := kR5.frozen 3
        have lE := kR5.lt
        go_simp
        refine hK.out _ _ (by exact ⟨keep1 (belC (belC (belC (belC (bw5) _ _ laR1 _) _ _ laR1 _) _ _ laR1 _) _ _ laR1 _) v0 (Nat.le_refl _), keep1 (belC (belC (belC (belC (bw5) _ _ laR1 _) _ _ laR1 _) _ _ laR1 _) _ _ laR1 _) v1 (Nat.le_refl _), keep1 (belC (belC (belC (belC (bw5) _ _ laR1 _) _ _ laR1 _) _ _ laR1 _) _ _ laR1 _) k0 (Nat.le_refl _), keep1 (belC (belC (belC (belC (bw5) _ _ laR1 _) _ _ laR1 _) _ _ laR1 _) _ _ laR1 _) k1 (Nat.le_refl _), keep1 (belC (belC (belC (belC (bw5) _ _ laR1 _) _ _ laR1 _) _ _ laR1 _) _ _ laR1 _) k2 (Nat.le_refl _), keep1 (belC (belC (belC (belC (bw5) _ _ laR1 _) _ _ laR1 _) _ _ laR1 _) _ _ laR1 _) k3 (Nat.le_refl _), keep1 (belC (belC (belC (belC (bw5) _ _ laR1 _) _ _ laR1 _) _ _ laR1 _) _ _ laR1 _) k4 (Nat.le_refl _), keep1 (belC (belC (belC (belC (bw5) _ _ laR1 _) _ _ laR1 _) _ _ laR1 _) _ _ laR1 _) k5 (Nat.le_refl _)⟩) (fun _ => ?_)
        clear hK K x0 f0 x1 f1 x2 f2 x3 f3 lE
        refine foldH ?_
        intro r6 hr6
        have bw6 : Below w2.heap.size w2 r6 := by rw [hr6]; exact belC (belC (belC (belC (bw5) _ _ laR1 _) _ _ laR1 _) _ _ laR1 _) _ _ laR1 _
        have kR6 : Blk r6 r0.heap.size 147 #[.int .i64 lc, .int .i64 li, .string ls, .string ld] := by rw [hr6]; exact ((((kR5).put 0 _ _ rfl).put 1 _ _ rfl).put 2 _ _ rfl).put 3 _ _ rfl
        have neX6 : r2.heap.size ≠ r0.heap.size := by have := kR5.lt; have := kX5.lt; exact Blk.ne_ kX5 kR5 (by decide)
        have kX6 : Blk r6 r2.heap.size 30 #[.int .i64 nx, .slice A2 n c2] := by rw [hr6]; exact ((((kX5).far neX6 _).far neX6 _).far neX6 _).far neX6 _
        clear hr6
        refine wpAnyH_done (by kernel_rfl) ?_ _
        go_wp2_with fail
        go_meet
        case rel => exact ⟨_, _, _, _, rfl, rfl, kX6, kR6, laX3, laR1, bw6⟩
   case br72 =>
    go_simp
    refine hK.out _ _ (by exact ⟨keep1 (belA bw1 (.cells #[.int .i64 0, .slice none 0 0] 30)) v0 (Nat.le_refl _), keep1 (belA bw1 (.cells #[.int .i64 0, .slice none 0 0] 30)) v1 (Nat.le_refl _), keep1 (belA bw1 (.cells #[.int .i64 0, .slice none 0 0] 30)) k0 (Nat.le_refl _), keep1 (belA bw1 (.cells #[.int .i64 0, .slice none 0 0] 30)) k1 (Nat.le_refl _), keep1 (belA bw1 (.cells #[.int .i64 0, .slice none 0 0] 30)) k2 (Nat.le_refl _), keep1 (belA bw1 (.cells #[.int .i64 0, .slice none 0 0] 30)) k3 (Nat.le_refl _), keep1 (belA bw1 (.cells #[.int .i64 0, .slice none 0 0] 30)) k4 (Nat.le_refl _), keep1 (belA bw1 (.cells #[.int .i64 0, .slice none 0 0] 30)) k5 (Nat.le_refl _)⟩) (fun _ => ?_)
    clear hK K
    refine foldH ?_
    intro r2 hr2
    have bw2 : Below w2.heap.size w2 r2 := by rw [hr2]; exact belA bw1 _
    have kX2 : Blk r2 r1.heap.size 30 #[.int .i64 0, .slice none 0 0] := by rw [hr2]; exact Blk.new' _ _ _ _ rfl
    have kR2 : Blk r2 r0.heap.size 147 #[.int .i64 0, .int .i64 0, .string ⟨#[]⟩, .string ⟨#[]⟩] := by rw [hr2]; exact kR1.alloc _
    have laX2 : w2.heap.size ≤ r1.heap.size := bw1.size
    clear hr2
    refine wpAnyH_ready (rs := [1]) (by kernel_rfl) (by simp) ?_
    refine AllReadyH.cons (o := ?oi87) ?hi87 (fun K hK => ?br87) AllReadyH.nil
    case hi87 => (conv => lhs; simp only [List.getElem?_toArray, List.getElem?_cons_zero, List.getElem?_cons_succ]); try exact rfl
    case br87 =>
     go_simp
     go_at_call 197
     refine (Hcp.out _ (hvv.out.next (belN B2 bw2))).mono ?_
     rintro e r3 ⟨vc3, rfl, hv3, hb3r⟩
     have bw3 : Below w2.heap.size w2 r3 := bw2.trans (hb3r.mono bw2.size)
     refine hK.out _ _ (by exact ⟨keep1 (bw3) v0 (Nat.le_refl _), keep1 (bw3) v1 (Nat.le_refl _), keep1 (bw3) k0 (Nat.le_refl _), keep1 (bw3) k1 (Nat.le_refl _), keep1 (bw3) k2 (Nat.le_refl _), keep1 (bw3) k3 (Nat.le_refl _), keep1 (bw3) k4 (Nat.le_refl _), keep1 (bw3) k5 (Nat.le_refl _)⟩) (fun _ => ?_)
     clear hK K
     have kR3 := kR2.below hb3r kR2.lt
     have kX3 := kX2.below hb3r kX2.lt
     have Hv3 := Lib.hid hv3
     obtain ⟨A3, c3, he3, _, _⟩ := hv3
     simp only [HL.out] at he3
     subst he3
     refine wpAnyH_ready (rs := [3]) (by kernel_rfl) (by simp) ?_
     refine AllReadyH.cons (o := ?oi88) ?hi88 (fun K hK => ?br88) AllReadyH.nil
     case hi88 => (conv => lhs; simp only [List.getElem?_toArray, List.getElem?_cons_zero, List.getElem?_cons_succ]); try exact rfl
     case br88 =>
      go_simp
      go_at_call 196
      refine (Hdo.out _ _ Hv3.out).mono ?_
      rintro e r4 ⟨rfl, hb4r⟩
      have bw4 : Below w2.heap.size w2 r4 := bw3.trans (hb4r.mono bw3.size)
      refine hK.out _ _ (by exact ⟨keep1 (bw4) v0 (Nat.le_refl _), keep1 (bw4) v1 (Nat.le_refl _), keep1 (bw4) k0 (Nat.le_refl _), keep1 (bw4) k1 (Nat.le_refl _), keep1 (bw4) k2 (Nat.le_refl _), keep1 (bw4) k3 (Nat.le_refl _), keep1 (bw4) k4 (Nat.le_refl _), keep1 (bw4) k5 (Nat.le_refl _)⟩) (fun _ => ?_)
      clear hK K
      have kR4 := kR3.below hb4r kR3.lt
      have kX4 := kX3.below hb4r kX3.lt
      have CV4 := Lib.hid (show IsVolC r4 (.agg #[.int .i64 nx, .slice A3 n c3]) ⟨nx, xs⟩ from Hv3.out.next hb4r)
      refine wpAnyH_take (i := 4) (oi := ?oi89) (v := ?v89) ?hi89 ?hs89 ?hf89 ?hr89 ?hQ89 ?hy89 ?hS89 ?hrest89
      case hi89 => (conv => lhs; simp only [List.getElem?_toArray, List.getElem?_cons_zero, List.getElem?_cons_succ]); try exact rfl
      case hs89 => kernel_rfl
      case hf89 => kernel_rfl
      case hr89 => kernel_rfl
      case hQ89 => exact fun _ _ _ h => h
      case hS89 => exact ⟨keep1 (bw4) v0 (Nat.le_refl _), keep1 (bw4) v1 (Nat.le_refl _), keep1 (bw4) k0 (Nat.le_refl _), keep1 (bw4) k1 (Nat.le_refl _), keep1 (bw4) k2 (Nat.le_refl _), keep1 (bw4) k3 (Nat.le_refl _), keep1 (bw4) k4 (Nat.le_refl _), keep1 (bw4) k5 (Nat.le_refl _)⟩
      case hy89 => refine Or.inl ⟨by rfl, ?_⟩; intro w hSw; (try dsimp only at hSw); go_simp; (try with_reducible rfl)
      simp only [Act.put, List.setIfInBounds_toArray, List.set_cons_zero, List.set_cons_succ]
      refine wpAnyH_take (i := 5) (oi := ?oi90) (v := ?v90) ?hi90 ?hs90 ?hf90 ?hr90 ?hQ90 ?hy90 ?hS90 ?hrest90
      case hi90 => (conv => lhs; simp only [List.getElem?_toArray, List.getElem?_cons_zero, List.getElem?_cons_succ]); try exact rfl
      case hs90 => kernel_rfl
      case hf90 => kernel_rfl
      case hr90 => kernel_rfl
      case hQ90 => exact fun _ _ _ h => h
      case hS90 => exact ⟨keep1 (bw4) v0 (Nat.le_refl _), keep1 (bw4) v1 (Nat.le_refl _), keep1 (bw4) k0 (Nat.le_refl _), keep1 (bw4) k1 (Nat.le_refl _), keep1 (bw4) k2 (Nat.le_refl _), keep1 (bw4) k3 (Nat.le_refl _), keep1 (bw4) k4 (Nat.le_refl _), keep1 (bw4) k5 (Nat.le_refl _)⟩
      case hy90 => refine Or.inl ⟨by rfl, ?_⟩; intro w hSw; (try dsimp only at hSw); go_simp; (try with_reducible rfl)
      simp only [Act.put, List.setIfInBounds_toArray, List.set_cons_zero, List.set_cons_succ]
      refine wpAnyH_take (i := 6) (oi := ?oi91) (v := ?v91) ?hi91 ?hs91 ?hf91 ?hr91 ?hQ91 ?hy91 ?hS91 ?hrest91
      case hi91 => (conv => lhs; simp only [List.getElem?_toArray, List.getElem?_cons_zero, List.getElem?_cons_succ]); try exact rfl
      case hs91 => kernel_rfl
      case hf91 => kernel_rfl
      case hr91 => kernel_rfl
      case hQ91 => exact fun _ _ _ h => h
      case hS91 => exact ⟨keep1 (bw4) v0 (Nat.le_refl _), keep1 (bw4) v1 (Nat.le_refl _), keep1 (bw4) k0 (Nat.le_refl _), keep1 (bw4) k1 (Nat.le_refl _), keep1 (bw4) k2 (Nat.le_refl _), keep1 (bw4) k3 (Nat.le_refl _), keep1 (bw4) k4 (Nat.le_refl _), keep1 (bw4) k5 (Nat.le_refl _)⟩
      case hy91 => refine Or.inl ⟨by rfl, ?_⟩; intro w hSw; (try dsimp only at hSw); go_simp; (try with_reducible rfl)
      simp only [Act.put, List.setIfInBounds_toArray, List.set_cons_zero, List.set_cons_succ]
      refine wpAnyH_ready (rs := [9]) (by kernel_rfl) (by simp) ?_
      refine AllReadyH.cons (o := ?oi92) ?hi92 (fun K hK => ?br92) AllReadyH.nil
      case hi92 => (conv => lhs; simp only [List.getElem?_toArray, List.getElem?_cons_zero, List.getElem?_cons_succ]); try exact rfl
      case br92 =>
       have x0 := kX4.get (x := .int .i64 0) 0 rfl
       have f0 := kX4.frozen 0
       have x1 := kX4.get (x := .slice none 0 0) 1 rfl
       have f1 := kX4.frozen 1
       have lE := kX4.lt
       go_simp
       refine hK.out _ _ (by exact ⟨keep1 (belC (belC (bw4) _ _ laX2 _) _ _ laX2 _) v0 (Nat.le_refl _), keep1 (belC (belC (bw4) _ _ laX2 _) _ _ laX2 _) v1 (Nat.le_refl _), keep1 (belC (belC (bw4) _ _ laX2 _) _ _ laX2 _) k0 (Nat.le_refl _), keep1 (belC (belC (bw4) _ _ laX2 _) _ _ laX2 _) k1 (Nat.le_refl _), keep1 (belC (belC (bw4) _ _ laX2 _) _ _ laX2 _) k2 (Nat.le_refl _), keep1 (belC (belC (bw4) _ _ laX2 _) _ _ laX2 _) k3 (Nat.le_refl _), keep1 (belC (belC (bw4) _ _ laX2 _) _ _ laX2 _) k4 (Nat.le_refl _), keep1 (belC (belC (bw4) _ _ laX2 _) _ _ laX2 _) k5 (Nat.le_refl _)⟩) (fun _ => ?_)
       clear hK K x0 f0 x1 f1 lE
       refine foldH ?_
       intro r5 hr5
       have bw5 : Below w2.heap.size w2 r5 := by rw [hr5]; exact belC (belC (bw4) _ _ laX2 _) _ _ laX2 _
       have kX5 : Blk r5 r1.heap.size 30 #[.int .i64 nx, .slice A3 n c3] := by rw [hr5]; exact ((kX4).put 0 _ _ rfl).put 1 _ _ rfl
       have neR5 : r0.heap.size ≠ r1.heap.size := by have := kX4.lt; have := kR4.lt; exact Blk.ne_ kR4 kX4 (by decide)
       have kR5 : Blk r5 r0.heap.size 147 #[.int .i64 0, .int .i64 0, .string ⟨#[]⟩, .string ⟨#[]⟩] := by rw [hr5]; exact ((kR4).far neR5 _).far neR5 _
       clear hr5
       refine wpAnyH_ready (rs := [10]) (by kernel_rfl) (by simp) ?_
       refine AllReadyH.cons (o := ?oi93) ?hi93 (fun K hK => ?br93) AllReadyH.nil
       case hi93 => (conv => lhs; simp only [List.getElem?_toArray, List.getElem?_cons_zero, List.getElem?_cons_succ]); try exact rfl
       case br93 =>
        have x0 := kR5.get (x := .int .i64 0) 0 rfl
        have f0 := kR5.frozen 0
        have x1 := kR5.get (x := .int .i64 0) 1 rfl
        have f1 := kR5.frozen 1
        have x2 := kR5.get (x := .string ⟨#[]⟩) 2 rfl
        have f2 := kR5.frozen 2
        have x3 := kR5.get (x := .string ⟨#[]⟩) 3 rfl
        have f3 := kR5.frozen 3
        have lE := kR5.lt
        go_simp
        refine hK.out _ _ (by exact ⟨keep1 (belC (belC (belC (belC (bw5) _ _ laR1 _) _ _ laR1 _) _ _ laR1 _) _ _ laR1 _) v0 (Nat.le_refl _), keep1 (belC (belC (belC (belC (bw5) _ _ laR1 _) _ _ laR1 _) _ _ laR1 _) _ _ laR1 _) v1 (Nat.le_refl _), keep1 (belC (belC (belC (belC (bw5) _ _ laR1 _) _ _ laR1 _) _ _ laR1 _) _ _ laR1 _) k0 (Nat.le_refl _), keep1 (belC (belC (belC (belC (bw5) _ _ laR1 _) _ _ laR1 _) _ _ laR1 _) _ _ laR1 _) k1 (Nat.le_refl _), keep1 (belC (belC (belC (belC (bw5) _ _ laR1 _) _ _ laR1 _) _ _ laR1 _) _ _ laR1 _) k2 (Nat.le_refl _), keep1 (belC (belC (belC (belC (bw5) _ _ laR1 _) _ _ laR1 _) _ _ laR1 _) _ _ laR1 _) k3 (Nat.le_refl _), keep1 (belC (belC (belC (belC (bw5) _ _ laR1 _) _ _ laR1 _) _ _ laR1 _) _ _ laR1 _) k4 (Nat.le_refl _), keep1 (belC (belC (belC (belC (bw5) _ _ laR1 _) _ _ laR1 _) _ _ laR1 _) _ _ laR1 _) k5 (Nat.le_refl _)⟩) (fun _ => ?_)
        clear hK K x0 f0 x1 f1 x2 f2 x3 f3 lE
        refine foldH ?_
        intro r6 hr6
        have bw6 : Below w2.heap.size w2 r6 := by rw [hr6]; exact belC (belC (belC (belC (bw5) _ _ laR1 _) _ _ laR1 _) _ _ laR1 _) _ _ laR1 _
        have kR6 : Blk r6 r0.heap.size 147 #[.int .i64 lc, .int .i64 li, .string ls, .string ld] := by rw [hr6]; exact ((((kR5).put 0 _ _ rfl).put 1 _ _ rfl).put 2 _ _ rfl).put 3 _ _ rfl
        have neX6 : r1.heap.size ≠ r0.heap.size := by have := kR5.lt; have := kX5.lt; exact Blk.ne_ kX5 kR5 (by decide)
        have kX6 : Blk r6 r1.heap.size 30 #[.int .i64 nx, .slice A3 n c3] := by rw [hr6]; exact ((((kX5).far neX6 _).far neX6 _).far neX6 _).far neX6 _
        clear hr6
        refine wpAnyH_done (by kernel_rfl) ?_ _
        go_wp2_with fail
        go_meet
        case rel => exact ⟨_, _, _, _, rfl, rfl, kX6, kR6, laX2, laR1, bw6⟩
 case rest =>
  obtain ⟨g, h, A9, c9, rfl, rfl, hG, hH, lg, lh, hb3⟩ := hcut
  have l2 := RR2.out.lt
  have nGX : g ≠ w.heap.size + 1 + 1 := by omega
  have nGR : g ≠ w.heap.size + 1 + 1 + 1 := by omega
  have nHX : h ≠ w.heap.size + 1 + 1 := by omega
  have nHR : h ≠ w.heap.size + 1 + 1 + 1 := by omega
  have nGX' := nGX.symm
  have nGR' := nGR.symm
  have nHX' := nHX.symm
  have nHR' := nHR.symm
  have B3 := belN B2 hb3
  clear v0 v1 k0 k1 k2 k3 k4 k5
  have X3 := XX2.out.below hb3 XX2.out.lt
  have R3 := RR2.out.below hb3 RR2.out.lt
  have p0 := hG.out.get (x := .int .i64 nx) 0 rfl
  have p1 := hG.out.get (x := .slice A9 n c9) 1 rfl
  have h0 := hH.out.get (x := .int .i64 lc) 0 rfl
  have h1 := hH.out.get (x := .int .i64 li) 1 rfl
  have h2 := hH.out.get (x := .string ls) 2 rfl
  have h3 := hH.out.get (x := .string ld) 3 rfl
  have xG := hG.out.lt
  have xH := hH.out.lt
  have hX9 := X3
  have hR9 := R3
  have x0 := hX9.get (x := .int .i64 0) 0 rfl
  have y0 := hX9.frozen 0
  have x1 := hX9.get (x := .slice none 0 0) 1 rfl
  have y1 := hX9.frozen 1
  have r0 := hR9.get (x := .int .i64 0) 0 rfl
  have g0 := hR9.frozen 0
  have r1 := hR9.get (x := .int .i64 0) 1 rfl
  have g1 := hR9.frozen 1
  have r2 := hR9.get (x := .string ⟨#[]⟩) 2 rfl
  have g2 := hR9.frozen 2
  have r3 := hR9.get (x := .string ⟨#[]⟩) 3 rfl
  have g3 := hR9.frozen 3
  have lX := hX9.lt
  have lR := hR9.lt
  clear hX9 hR9
  go_wp2_with fail
  go_region
  all_goals
   go_wp2
   refine bodyPost_ret (v := .tuple #[.agg #[.int .i64 nx, .slice A9 n c9], .agg #[.int .i64 lc, .int .i64 li, .string ls, .string ld]]) (by simp [results, Tryz.results127, go_sem, x0, x1, r0, r1, r2, r3]) rfl ⟨A9, c9, rfl, ?_⟩
   repeat (first | exact B3 | apply Below.drew | refine belC ?_ _ _ (by omega) _)

end Go.Proofs.YthdbomkddpnhaaaGreatDoor

