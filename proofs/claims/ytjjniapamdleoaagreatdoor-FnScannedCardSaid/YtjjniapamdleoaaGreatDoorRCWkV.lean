/- Walk of both sides. -/
import Derived.Test.YtjjniapamdleoaaGreatDoorRCWkT
import Derived.Test.YtjjniapamdleoaaGreatDoorRCCpV
import Derived.Test.YtjjniapamdleoaaGreatDoorRCPath
import Derived.Test.YtjjniapamdleoaaGreatDoorRCVolOk
import Derived.Test.YtjjniapamdleoaaGreatDoorRCRegH
namespace Go.Proofs.YtjjniapamdleoaaGreatDoor
open Go Go.RowKit
set_option maxHeartbeats 8000000
set_option maxRecDepth 100000

theorem mem4v_anw {G P : (Option Addr) -> (Nat) -> (World) -> Prop} {R : Prop} (use : (∀ (x0 : Option Addr) (x1 : Nat) (x2 : World), P x0 x1 x2 -> G x0 x1 x2) -> R) (key : ∀ (x0 : Option Addr) (x1 : Nat) (x2 : World), P x0 x1 x2 -> G x0 x1 x2) : R := use key
theorem mem4v_nw {G P : (Nat) -> (World) -> Prop} {R : Prop} (use : (∀ (x0 : Nat) (x1 : World), P x0 x1 -> G x0 x1) -> R) (key : ∀ (x0 : Nat) (x1 : World), P x0 x1 -> G x0 x1) : R := use key
theorem mem4v_annw {G P : (Option Addr) -> (Nat) -> (Nat) -> (World) -> Prop} {R : Prop} (use : (∀ (x0 : Option Addr) (x1 : Nat) (x2 : Nat) (x3 : World), P x0 x1 x2 x3 -> G x0 x1 x2 x3) -> R) (key : ∀ (x0 : Option Addr) (x1 : Nat) (x2 : Nat) (x3 : World), P x0 x1 x2 x3 -> G x0 x1 x2 x3) : R := use key
theorem mem4v_nnw {G P : (Nat) -> (Nat) -> (World) -> Prop} {R : Prop} (use : (∀ (x0 : Nat) (x1 : Nat) (x2 : World), P x0 x1 x2 -> G x0 x1 x2) -> R) (key : ∀ (x0 : Nat) (x1 : Nat) (x2 : World), P x0 x1 x2 -> G x0 x1 x2) : R := use key
theorem mem4v_annnw {G P : (Option Addr) -> (Nat) -> (Nat) -> (Nat) -> (World) -> Prop} {R : Prop} (use : (∀ (x0 : Option Addr) (x1 : Nat) (x2 : Nat) (x3 : Nat) (x4 : World), P x0 x1 x2 x3 x4 -> G x0 x1 x2 x3 x4) -> R) (key : ∀ (x0 : Option Addr) (x1 : Nat) (x2 : Nat) (x3 : Nat) (x4 : World), P x0 x1 x2 x3 x4 -> G x0 x1 x2 x3 x4) : R := use key
theorem l6Do_look (v : Value) (V : VolD) (sm : szV V <= 1048576) (hv : VolP V.nx V.xs) (a : Int) (ha : 0 <= plc V.xs a) (s : ByteArray) (hname : nameOkB s = true) (w : World) (hC : IsVolC w v V) :
  Calls Tryz.prog 119 #[v, .agg #[.int .i64 8, .int .i64 a, .string s, .int .i64 0, .string ⟨#[]⟩, .string ⟨#[]⟩]] w fun e w' => e = .returned (.tuple #[v, (lkP V.xs a s).val]) /\ Below w.heap.size w w' := by
 have hs := name_size hname
 have hid := id_small hv ha
 have hn := v_len sm
 obtain ⟨k, hk, hpl, _⟩ := plc_lt ha
 have Hck := Lib.hid (fun W => callOk_look a s (by omega) hs W)
 have Hat := Lib.hid (fun W hW => l6At_any v V hn a W hW)
 have Hdir := Lib.hid (fun W hW => l6Dir_any v V hn a W hW)
 have Hnm := Lib.hid (fun W => nameOk_spec s (by omega) W)
 have Hon := Lib.hid (fun hd W hW => l6On_look v V sm hv a s hs k hk hpl hd W hW)
 have Hfile := Lib.hid (fun hd => lk_file (s := s) hk hpl hd)
 have Hbg := bg_at hk hpl
 simp only [hpl] at Hat
 simp only [Hbg] at Hdir
 simp only [hname] at Hnm
 have hvv := Lib.hid hC
 have h := hC.is
 obtain ⟨A, c, rfl, h⟩ := h
 obtain ⟨nx, xs⟩ := V
 simp only at Hat Hdir Hon Hfile h hn hk ⊢
 clear h hC hpl hv sm ha Hbg hname
 obtain ⟨y, hy⟩ : ∃ y, xs[k].kd = y := ⟨_, rfl⟩
 simp only [hy] at Hdir Hon Hfile
 clear hy
 obtain ⟨n, hn'⟩ : ∃ n, xs.length = n := ⟨_, rfl⟩
 simp only [hn'] at Hat Hdir Hon hvv hn ⊢
 clear hn'
 have q0 : (0 : Int) <= ↑k := by omega
 obtain ⟨W1, hW1⟩ : ∃ W1, (((w.alloc (.cells #[.int .i64 nx, .slice A n c] 26)).alloc (.cells #[.int .i64 8, .int .i64 a, .string s, .int .i64 0, .string ⟨#[]⟩, .string ⟨#[]⟩] 95)).alloc (.cells #[.int .i64 0, .slice none 0 0] 26)).alloc (.cells #[.int .i64 0, .int .i64 0, .string ⟨#[]⟩, .string ⟨#[]⟩] 54) = W1 := ⟨_, rfl⟩
 have B1 : Below w.heap.size w W1 := by rw [<- hW1]; exact belA (belA (belA (belA (bel0 w) _) _) _) _
 have hVV : Blk W1 w.heap.size 26 #[.int .i64 nx, .slice A n c] := by rw [<- hW1]; exact (((Blk.new' _ _ _ _ rfl).alloc _).alloc _).alloc _
 have hKK : Blk W1 (w.heap.size + 1) 95 #[.int .i64 8, .int .i64 a, .string s, .int .i64 0, .string ⟨#[]⟩, .string ⟨#[]⟩] := by rw [<- hW1]; exact ((Blk.new' _ _ _ _ (by simp)).alloc _).alloc _
 have hXX : Blk W1 (w.heap.size + 2) 26 #[.int .i64 0, .slice none 0 0] := by rw [<- hW1]; exact (Blk.new' _ _ _ _ (by simp)).alloc _
 have hRR : Blk W1 (w.heap.size + 3) 54 #[.int .i64 0, .int .i64 0, .string ⟨#[]⟩, .string ⟨#[]⟩] := by rw [<- hW1]; exact Blk.new' _ _ _ _ (by simp)
 have HW1 := Lib.hid hW1
 have VV := Lib.hid hVV
 have KK := Lib.hid hKK
 have XX := Lib.hid hXX
 have RR := Lib.hid hRR
 clear hW1 hVV hKK hXX hRR
 have v0 := VV.out.get (x := .int .i64 nx) 0 rfl
 have v1 := VV.out.get (x := .slice A n c) 1 rfl
 have k0 := KK.out.get (x := .int .i64 8) 0 rfl
 have k1 := KK.out.get (x := .int .i64 a) 1 rfl
 have k2 := KK.out.get (x := .string s) 2 rfl
 have k3 := KK.out.get (x := .int .i64 0) 3 rfl
 have k4 := KK.out.get (x := .string ⟨#[]⟩) 4 rfl
 have k5 := KK.out.get (x := .string ⟨#[]⟩) 5 rfl
 go_enter Tryz.func119, Tryz.ntmps119
 go_wp2_with fail
 rw [HW1.out]
 refine (Hck.out W1).mono ?_
 rintro e w2 ⟨rfl, hb2⟩
 have B2 := belN B1 hb2
 have VV2 := Lib.hid (VV.out.below hb2 VV.out.lt)
 have KK2 := Lib.hid (KK.out.below hb2 KK.out.lt)
 have XX2 := Lib.hid (XX.out.below hb2 XX.out.lt)
 have RR2 := Lib.hid (RR.out.below hb2 RR.out.lt)
 clear VV KK XX RR
 clear v0 v1 k0 k1 k2 k3 k4 k5
 have v0 := VV2.out.get (x := .int .i64 nx) 0 rfl
 have v1 := VV2.out.get (x := .slice A n c) 1 rfl
 have k0 := KK2.out.get (x := .int .i64 8) 0 rfl
 have k1 := KK2.out.get (x := .int .i64 a) 1 rfl
 go_wp2_with fail
 refine (Hat.out w2 (hvv.out.next B2).is).mono ?_
 rintro e w3 ⟨rfl, hb3⟩
 have B3 := belN B2 hb3
 have VV3 := Lib.hid (VV2.out.below hb3 VV2.out.lt)
 have KK3 := Lib.hid (KK2.out.below hb3 KK2.out.lt)
 have XX3 := Lib.hid (XX2.out.below hb3 XX2.out.lt)
 have RR3 := Lib.hid (RR2.out.below hb3 RR2.out.lt)
 clear VV2 KK2 XX2 RR2
 clear v0 v1 k0 k1
 have v0 := VV3.out.get (x := .int .i64 nx) 0 rfl
 have v1 := VV3.out.get (x := .slice A n c) 1 rfl
 have k0 := KK3.out.get (x := .int .i64 8) 0 rfl
 have k1 := KK3.out.get (x := .int .i64 a) 1 rfl
 go_wp2_with fail
 refine (Hdir.out w3 (hvv.out.next B3)).mono ?_
 rintro e w4 ⟨rfl, hb4⟩
 have B4 := belN B3 hb4
 have VV4 := Lib.hid (VV3.out.below hb4 VV3.out.lt)
 have KK4 := Lib.hid (KK3.out.below hb4 KK3.out.lt)
 have XX4 := Lib.hid (XX3.out.below hb4 XX3.out.lt)
 have RR4 := Lib.hid (RR3.out.below hb4 RR3.out.lt)
 clear VV3 KK3 XX3 RR3
 clear v0 v1 k0 k1
 have v0 := VV4.out.get (x := .int .i64 nx) 0 rfl
 have v1 := VV4.out.get (x := .slice A n c) 1 rfl
 have k0 := KK4.out.get (x := .int .i64 8) 0 rfl
 by_cases hd : y = 2
 ·subst hd
  have Hon2 := Lib.hid (Hon.out rfl)
  have k2 := KK4.out.get (x := .string s) 2 rfl
  go_wp2_with (simp only [if_pos])
  refine (Hnm.out w4).mono ?_
  rintro e w5 ⟨rfl, hb5⟩
  have B5 := belN B4 hb5
  have VV5 := Lib.hid (VV4.out.below hb5 VV4.out.lt)
  have KK5 := Lib.hid (KK4.out.below hb5 KK4.out.lt)
  have XX5 := Lib.hid (XX4.out.below hb5 XX4.out.lt)
  have RR5 := Lib.hid (RR4.out.below hb5 RR4.out.lt)
  clear VV4 KK4 XX4 RR4
  clear v0 v1 k0 k2
  have v0 := VV5.out.get (x := .int .i64 nx) 0 rfl
  have v1 := VV5.out.get (x := .slice A n c) 1 rfl
  have k0 := KK5.out.get (x := .int .i64 8) 0 rfl
  have k1 := KK5.out.get (x := .int .i64 a) 1 rfl
  have k2 := KK5.out.get (x := .string s) 2 rfl
  have k3 := KK5.out.get (x := .int .i64 0) 3 rfl
  have k4 := KK5.out.get (x := .string ⟨#[]⟩) 4 rfl
  have k5 := KK5.out.get (x := .string ⟨#[]⟩) 5 rfl
  go_wp2_with fail
  refine (Hon2.out w5 (hvv.out.next B5)).mono ?_
  rintro e w6 ⟨rfl, hb6⟩
  have B6 := belN B5 hb6
  have VV6 := Lib.hid (VV5.out.below hb6 VV5.out.lt)
  have KK6 := Lib.hid (KK5.out.below hb6 KK5.out.lt)
  have XX6 := Lib.hid (XX5.out.below hb6 XX5.out.lt)
  have RR6 := Lib.hid (RR5.out.below hb6 RR5.out.lt)
  clear VV5 KK5 XX5 RR5
  clear v0 v1 k0 k1 k2 k3 k4 k5
  obtain ⟨L, hL⟩ : ∃ L, lkP xs a s = L := ⟨_, rfl⟩
  have HL9 := Lib.hid hL
  rw [hL]
  clear hL
  obtain ⟨lc, li, ls, ld⟩ := L
  simp only [LkD.val]
  have hX9 := XX6.out
  have hR9 := RR6.out
  have x0 := hX9.get (x := .int .i64 0) 0 rfl
  have y0 := hX9.frozen 0
  have x1 := hX9.get (x := .slice none 0 0) 1 rfl
  have y1 := hX9.frozen 1
  have r0 := hR9.get (x := .int .i64 0) 0 rfl
  have g0 := hR9.frozen 0
  have r1 := hR9.get (x := .int .i64 0) 1 rfl
  have g1 := hR9.frozen 1
  have r2 := hR9.get (x := .string ⟨#[]⟩) 2 rfl
  have g2 := hR9.frozen 2
  have r3 := hR9.get (x := .string ⟨#[]⟩) 3 rfl
  have g3 := hR9.frozen 3
  have lX := hX9.lt
  have lR := hR9.lt
  clear hX9 hR9
  go_wp2
  refine bodyPost_ret (v := .tuple #[.agg #[.int .i64 nx, .slice A n c], .agg #[.int .i64 lc, .int .i64 li, .string ls, .string ld]]) (by simp [results, Tryz.results119, go_sem, x0, x1, r0, r1, r2, r3]) rfl ⟨by rw [HL9.out]; rfl, ?_⟩
  repeat (first | refine belC ?_ _ _ (by omega) _ | exact B6 | apply Below.drew)
 ·have Hlk := Lib.hid (Hfile.out hd)
  have hX9 := XX4.out
  have hR9 := RR4.out
  have x0 := hX9.get (x := .int .i64 0) 0 rfl
  have y0 := hX9.frozen 0
  have x1 := hX9.get (x := .slice none 0 0) 1 rfl
  have y1 := hX9.frozen 1
  have r0 := hR9.get (x := .int .i64 0) 0 rfl
  have g0 := hR9.frozen 0
  have r1 := hR9.get (x := .int .i64 0) 1 rfl
  have g1 := hR9.frozen 1
  have r2 := hR9.get (x := .string ⟨#[]⟩) 2 rfl
  have g2 := hR9.frozen 2
  have r3 := hR9.get (x := .string ⟨#[]⟩) 3 rfl
  have g3 := hR9.frozen 3
  have lX := hX9.lt
  have lR := hR9.lt
  clear hX9 hR9
  have hd4 : ((if y = 2 then (0 : Int) else 4) == 0) = false := by rw [if_neg hd]; rfl
  go_wp2
  refine bodyPost_ret (v := .tuple #[.agg #[.int .i64 nx, .slice A n c], (LkD.bad 4).val]) (by simp [results, Tryz.results119, go_sem, LkD.val, LkD.bad, x0, x1, r0, r1, r2, r3]) rfl ⟨by rw [Hlk.out]; try rfl, ?_⟩
  repeat (first | refine belC ?_ _ _ (by omega) _ | exact B4 | apply Below.drew)

theorem volDo_look (v : Value) (V : VolD) (sm : szV V <= 1048576) (hv : VolP V.nx V.xs) (a : Int) (ha : 0 <= plc V.xs a) (s : ByteArray) (hname : nameOkB s = true) (w : World) (hC : IsVolC w v V) :
  Calls Tryz.prog 80 #[v, .agg #[.int .i64 8, .int .i64 a, .string s, .int .i64 0, .string ⟨#[]⟩, .string ⟨#[]⟩]] w fun e w' => ∃ A' c', e = .returned (.tuple #[.agg #[.int .i64 V.nx, .slice A' V.xs.length c'], (lkP V.xs a s).val]) /\ Below w.heap.size w w' := by
 have Hok := Lib.hid (fun W hW => volOk_spec v V sm W hW)
 have hok := volOkB_iff.2 hv
 simp only [hok] at Hok
 have Hcp := Lib.hid (fun W (hW : IsVolC W v V) => l6Copy_any v V (v_len16 hv) (fun x hx => by have := es_len hv hx; omega) W hW.is)
 have Hdo := Lib.hid (fun v W hW => l6Do_look v V sm hv a ha s hname W hW)
 have hvv := Lib.hid hC
 obtain ⟨A, c, rfl, _⟩ := hC
 obtain ⟨nx, xs⟩ := V
 simp only at Hok Hcp Hdo ⊢
 clear hv sm ha hname hok
 obtain ⟨L, hL⟩ : ∃ L, lkP xs a s = L := ⟨_, rfl⟩
 simp only [hL] at Hdo
 rw [hL]
 clear hL
 obtain ⟨lc, li, ls, ld⟩ := L
 simp only [LkD.val] at Hdo ⊢
 obtain ⟨n, hn'⟩ : ∃ n, xs.length = n := ⟨_, rfl⟩
 have HL := Lib.hid hn'
 simp only [hn'] at Hok Hcp hvv ⊢
 clear hn'
 obtain ⟨W1, hW1⟩ : ∃ W1, (((w.alloc (.cells #[.int .i64 nx, .slice A n c] 26)).alloc (.cells #[.int .i64 8, .int .i64 a, .string s, .int .i64 0, .string ⟨#[]⟩, .string ⟨#[]⟩] 95)).alloc (.cells #[.int .i64 0, .slice none 0 0] 26)).alloc (.cells #[.int .i64 0, .int .i64 0, .string ⟨#[]⟩, .string ⟨#[]⟩] 54) = W1 := ⟨_, rfl⟩
 have B1 : Below w.heap.size w W1 := by rw [<- hW1]; exact belA (belA (belA (belA (bel0 w) _) _) _) _
 have hVV : Blk W1 w.heap.size 26 #[.int .i64 nx, .slice A n c] := by rw [<- hW1]; exact (((Blk.new' _ _ _ _ rfl).alloc _).alloc _).alloc _
 have hKK : Blk W1 (w.heap.size + 1) 95 #[.int .i64 8, .int .i64 a, .string s, .int .i64 0, .string ⟨#[]⟩, .string ⟨#[]⟩] := by rw [<- hW1]; exact ((Blk.new' _ _ _ _ (by simp)).alloc _).alloc _
 have hXX : Blk W1 (w.heap.size + 2) 26 #[.int .i64 0, .slice none 0 0] := by rw [<- hW1]; exact (Blk.new' _ _ _ _ (by simp)).alloc _
 have hRR : Blk W1 (w.heap.size + 3) 54 #[.int .i64 0, .int .i64 0, .string ⟨#[]⟩, .string ⟨#[]⟩] := by rw [<- hW1]; exact Blk.new' _ _ _ _ (by simp)
 have HW1 := Lib.hid hW1
 have VV := Lib.hid hVV
 have KK := Lib.hid hKK
 have XX := Lib.hid hXX
 have RR := Lib.hid hRR
 clear hW1 hVV hKK hXX hRR
 have v0 := VV.out.get (x := .int .i64 nx) 0 rfl
 have v1 := VV.out.get (x := .slice A n c) 1 rfl
 go_enter Tryz.func80, Tryz.ntmps80
 go_wp2_with fail
 rw [HW1.out]
 refine (Hok.out W1 (hvv.out.next B1)).mono ?_
 rintro e w2 ⟨rfl, hb2⟩
 have B2 := belN B1 hb2
 have VV2 := Lib.hid (VV.out.below hb2 VV.out.lt)
 have KK2 := Lib.hid (KK.out.below hb2 KK.out.lt)
 have XX2 := Lib.hid (XX.out.below hb2 XX.out.lt)
 have RR2 := Lib.hid (RR.out.below hb2 RR.out.lt)
 clear VV KK XX RR
 clear v0 v1
 have v0 := VV2.out.get (x := .int .i64 nx) 0 rfl
 have v1 := VV2.out.get (x := .slice A n c) 1 rfl
 have k0 := KK2.out.get (x := .int .i64 8) 0 rfl
 have k1 := KK2.out.get (x := .int .i64 a) 1 rfl
 have k2 := KK2.out.get (x := .string s) 2 rfl
 have k3 := KK2.out.get (x := .int .i64 0) 3 rfl
 have k4 := KK2.out.get (x := .string ⟨#[]⟩) 4 rfl
 have k5 := KK2.out.get (x := .string ⟨#[]⟩) 5 rfl
 go_wp2_with fail
 go_cut [6, 7] from 13 (fun p q wx => ∃ (g h : Nat) (A9 : Option Addr) (c9 : Nat), p = .pointer (some ⟨g, 0, none⟩) /\ q = .pointer (some ⟨h, 0, none⟩) /\ Hid (Blk wx g 26 #[.int .i64 nx, .slice A9 n c9]) /\ Hid (Blk wx h 54 #[.int .i64 lc, .int .i64 li, .string ls, .string ld]) /\ w2.heap.size <= g /\ w2.heap.size <= h /\ Below w2.heap.size w2 wx)
 case first =>
  obtain ⟨g1, hg1⟩ : ∃ g1, g1 = w2.heap.size := ⟨_, rfl⟩
  have hVl := VV2.out.lt
  have hKl := KK2.out.lt
  have hRl := RR2.out.lt
  refine wp_region_held_drew (S := fun w' => w'.cell? ⟨w.heap.size, 0, none⟩ = some (.int .i64 nx) /\ w'.cell? ⟨w.heap.size, 1, none⟩ = some (.slice A n c) /\ w'.cell? ⟨w.heap.size + 1, 0, none⟩ = some (.int .i64 8) /\ w'.cell? ⟨w.heap.size + 1, 1, none⟩ = some (.int .i64 a) /\ w'.cell? ⟨w.heap.size + 1, 2, none⟩ = some (.string s) /\ w'.cell? ⟨w.heap.size + 1, 3, none⟩ = some (.int .i64 0) /\ w'.cell? ⟨w.heap.size + 1, 4, none⟩ = some (.string ⟨#[]⟩) /\ w'.cell? ⟨w.heap.size + 1, 5, none⟩ = some (.string ⟨#[]⟩)) (by kernel_rfl) (by exact ⟨VV2.out.get 0 rfl, VV2.out.get 1 rfl, KK2.out.get 0 rfl, KK2.out.get 1 rfl, KK2.out.get 2 rfl, KK2.out.get 3 rfl, KK2.out.get 4 rfl, KK2.out.get 5 rfl⟩) (fun hHeld => ?_)
  clear hHeld
  refine foldH ?_
  intro r hr0
  have bw : w2.grownBy r (some g1) := by rw [hr0]; exact gb_below (grown_refl _ _) (bel0 w2).drew
  have kV : Blk r w.heap.size 26 #[.int .i64 nx, .slice A n c] := by rw [hr0]; exact VV2.out.drew
  have kC : Blk r (w.heap.size + 1) 95 #[.int .i64 8, .int .i64 a, .string s, .int .i64 0, .string ⟨#[]⟩, .string ⟨#[]⟩] := by rw [hr0]; exact KK2.out.drew
  clear hr0
  apply mem4v_annnw (P := fun A9 aR aX c9 q => w2.grownBy q (some g1) /\ Blk q (w.heap.size + 1) 95 #[.int .i64 8, .int .i64 a, .string s, .int .i64 0, .string ⟨#[]⟩, .string ⟨#[]⟩] /\ Blk q aR 54 #[.int .i64 0, .int .i64 0, .string ⟨#[]⟩, .string ⟨#[]⟩] /\ Blk q w.heap.size 26 #[.int .i64 nx, .slice A n c] /\ Blk q aX 26 #[.int .i64 0, .slice none 0 0] /\ w2.heap.size <= aR /\ w2.heap.size <= aX)
  case use =>
   intro key_vd_1_3_7_8
   apply mem4v_annnw (P := fun A9 aR aX c9 q => w2.grownBy q (some g1) /\ Blk q (w.heap.size + 1) 95 #[.int .i64 8, .int .i64 a, .string s, .int .i64 0, .string ⟨#[]⟩, .string ⟨#[]⟩] /\ Blk q aR 54 #[.int .i64 0, .int .i64 0, .string ⟨#[]⟩, .string ⟨#[]⟩] /\ Blk q w.heap.size 26 #[.int .i64 nx, .slice A n c] /\ Blk q aX 26 #[.int .i64 0, .slice none 0 0] /\ IsVolC q (.agg #[.int .i64 nx, .slice A9 n c9]) ⟨nx, xs⟩ /\ w2.heap.size <= aR /\ w2.heap.size <= aX)
   case use =>
    intro key_vd_1_7_8
    apply mem4v_annw (P := fun A9 aR c9 q => w2.grownBy q (some g1) /\ Blk q (w.heap.size + 1) 95 #[.int .i64 8, .int .i64 a, .string s, .int .i64 0, .string ⟨#[]⟩, .string ⟨#[]⟩] /\ Blk q aR 54 #[.int .i64 0, .int .i64 0, .string ⟨#[]⟩, .string ⟨#[]⟩] /\ Blk q w.heap.size 26 #[.int .i64 nx, .slice A n c] /\ w2.heap.size <= aR)
    case use =>
     intro key_vd_1_3_8
     apply mem4v_annw (P := fun A9 aX c9 q => w2.grownBy q (some g1) /\ Blk q (w.heap.size + 1) 95 #[.int .i64 8, .int .i64 a, .string s, .int .i64 0, .string ⟨#[]⟩, .string ⟨#[]⟩] /\ Blk q w.heap.size 26 #[.int .i64 nx, .slice A n c] /\ Blk q aX 26 #[.int .i64 0, .slice none 0 0] /\ w2.heap.size <= aX)
     case use =>
      intro key_vd_1_3_7
      apply mem4v_nnw (P := fun aR aX q => w2.grownBy q (some g1) /\ Blk q (w.heap.size + 1) 95 #[.int .i64 8, .int .i64 a, .string s, .int .i64 0, .string ⟨#[]⟩, .string ⟨#[]⟩] /\ Blk q aR 54 #[.int .i64 0, .int .i64 0, .string ⟨#[]⟩, .string ⟨#[]⟩] /\ Blk q w.heap.size 26 #[.int .i64 nx, .slice A n c] /\ Blk q aX 26 #[.int .i64 0, .slice none 0 0] /\ w2.heap.size <= aR /\ w2.heap.size <= aX)
      case use =>
       intro key_vd_7_8
       apply mem4v_annw (P := fun A9 aR c9 q => w2.grownBy q (some g1) /\ Blk q (w.heap.size + 1) 95 #[.int .i64 8, .int .i64 a, .string s, .int .i64 0, .string ⟨#[]⟩, .string ⟨#[]⟩] /\ Blk q aR 54 #[.int .i64 0, .int .i64 0, .string ⟨#[]⟩, .string ⟨#[]⟩] /\ Blk q w.heap.size 26 #[.int .i64 nx, .slice A n c] /\ IsVolC q (.agg #[.int .i64 nx, .slice A9 n c9]) ⟨nx, xs⟩ /\ w2.heap.size <= aR)
       case use =>
        intro key_vd_1_8
        apply mem4v_annw (P := fun A9 aX c9 q => w2.grownBy q (some g1) /\ Blk q (w.heap.size + 1) 95 #[.int .i64 8, .int .i64 a, .string s, .int .i64 0, .string ⟨#[]⟩, .string ⟨#[]⟩] /\ Blk q w.heap.size 26 #[.int .i64 nx, .slice A n c] /\ Blk q aX 26 #[.int .i64 0, .slice none 0 0] /\ IsVolC q (.agg #[.int .i64 nx, .slice A9 n c9]) ⟨nx, xs⟩ /\ w2.heap.size <= aX)
        case use =>
         intro key_vd_1_7
         apply mem4v_anw (P := fun A9 c9 q => w2.grownBy q (some g1) /\ Blk q (w.heap.size + 1) 95 #[.int .i64 8, .int .i64 a, .string s, .int .i64 0, .string ⟨#[]⟩, .string ⟨#[]⟩] /\ Blk q w.heap.size 26 #[.int .i64 nx, .slice A n c])
         case use =>
          intro key_vd_1_3
          apply mem4v_nw (P := fun aR q => w2.grownBy q (some g1) /\ Blk q (w.heap.size + 1) 95 #[.int .i64 8, .int .i64 a, .string s, .int .i64 0, .string ⟨#[]⟩, .string ⟨#[]⟩] /\ Blk q aR 54 #[.int .i64 0, .int .i64 0, .string ⟨#[]⟩, .string ⟨#[]⟩] /\ Blk q w.heap.size 26 #[.int .i64 nx, .slice A n c] /\ w2.heap.size <= aR)
          case use =>
           intro key_vd_8
           apply mem4v_nw (P := fun aX q => w2.grownBy q (some g1) /\ Blk q (w.heap.size + 1) 95 #[.int .i64 8, .int .i64 a, .string s, .int .i64 0, .string ⟨#[]⟩, .string ⟨#[]⟩] /\ Blk q w.heap.size 26 #[.int .i64 nx, .slice A n c] /\ Blk q aX 26 #[.int .i64 0, .slice none 0 0] /\ w2.heap.size <= aX)
           case use =>
            intro key_vd_7
            apply mem4v_anw (P := fun A9 c9 q => w2.grownBy q (some g1) /\ Blk q (w.heap.size + 1) 95 #[.int .i64 8, .int .i64 a, .string s, .int .i64 0, .string ⟨#[]⟩, .string ⟨#[]⟩] /\ Blk q w.heap.size 26 #[.int .i64 nx, .slice A n c] /\ IsVolC q (.agg #[.int .i64 nx, .slice A9 n c9]) ⟨nx, xs⟩)
            case use =>
             intro key_vd_1
             refine tkW_ 0 ?_ (hS := by exact ⟨kV.get 0 rfl, kV.get 1 rfl, kC.get 0 rfl, kC.get 1 rfl, kC.get 2 rfl, kC.get 3 rfl, kC.get 4 rfl, kC.get 5 rfl⟩)
             refine tkW_ 2 ?_ (hS := by exact ⟨kV.get 0 rfl, kV.get 1 rfl, kC.get 0 rfl, kC.get 1 rfl, kC.get 2 rfl, kC.get 3 rfl, kC.get 4 rfl, kC.get 5 rfl⟩)
             refine wpAnyH_ready (rs := [1, 7, 8]) (by kernel_rfl) (by simp) ?_
             refine AllReadyH.cons (o := ?oi50003) ?hi50003 (fun K hK => ?br50003) (AllReadyH.cons (o := ?oi50004) ?hi50004 (fun K hK => ?br50004) (AllReadyH.cons (o := ?oi50005) ?hi50005 (fun K hK => ?br50005) AllReadyH.nil))
             case hi50003 => (conv => lhs; simp only [gT_, gZ_, gS_]); try exact rfl
             case hi50004 => (conv => lhs; simp only [gT_, gZ_, gS_]); try exact rfl
             case hi50005 => (conv => lhs; simp only [gT_, gZ_, gS_]); try exact rfl
             case br50003 =>
              go_simp
              go_at_call 78
              refine (Hcp.out _ (hvv.out.next (belN B2 (belG (bel0 w2) bw (by omega))))).mono ?_
              rintro e q ⟨vc2, rfl, hv2, hb⟩
              have bw2 := gb_below bw hb
              have kV2 := kV.below hb kV.lt
              have kC2 := kC.below hb kC.lt
              have hv3 := hv2
              obtain ⟨A9, c9, he2, _, _⟩ := hv2
              simp only [HL.out] at he2
              subst he2
              have pY2 := hv3
              refine hK.out _ _ (by exact ⟨kV2.get 0 rfl, kV2.get 1 rfl, kC2.get 0 rfl, kC2.get 1 rfl, kC2.get 2 rfl, kC2.get 3 rfl, kC2.get 4 rfl, kC2.get 5 rfl⟩) (fun _ => ?_)
              clear hK K
              try simp only [Act.put, pT_, pZ_, pS_]
              exact key_vd_1 A9 c9 q ⟨bw2, kC2, kV2, pY2⟩
             case br50004 =>
              go_simp
              refine hK.out _ _ (by exact ⟨(kV.alloc _).get 0 rfl, (kV.alloc _).get 1 rfl, (kC.alloc _).get 0 rfl, (kC.alloc _).get 1 rfl, (kC.alloc _).get 2 rfl, (kC.alloc _).get 3 rfl, (kC.alloc _).get 4 rfl, (kC.alloc _).get 5 rfl⟩) (fun _ => ?_)
              clear hK K
              try simp only [Act.put, pT_, pZ_, pS_]
              refine foldH ?_
              intro q hq
              obtain ⟨aX, ha⟩ : ∃ g, r.heap.size = g := ⟨_, rfl⟩
              rw [ha]
              have bw2 : w2.grownBy q (some g1) := by rw [hq]; exact gb_below bw (belA (bel0 r) (.cells #[.int .i64 0, .slice none 0 0] 26))
              have kV2 : Blk q _ _ _ := hq ▸ kV.alloc (.cells #[.int .i64 0, .slice none 0 0] 26)
              have kC2 : Blk q _ _ _ := hq ▸ kC.alloc (.cells #[.int .i64 0, .slice none 0 0] 26)
              have kX2 : Blk q aX 26 #[.int .i64 0, .slice none 0 0] := by rw [hq, <- ha]; exact Blk.new' _ _ _ _ rfl
              have laX : w2.heap.size <= aX := by rw [<- ha]; exact bw.size
              exact key_vd_7 aX q ⟨bw2, kC2, kV2, kX2, laX⟩
             case br50005 =>
              go_simp
              refine hK.out _ _ (by exact ⟨(kV.alloc _).get 0 rfl, (kV.alloc _).get 1 rfl, (kC.alloc _).get 0 rfl, (kC.alloc _).get 1 rfl, (kC.alloc _).get 2 rfl, (kC.alloc _).get 3 rfl, (kC.alloc _).get 4 rfl, (kC.alloc _).get 5 rfl⟩) (fun _ => ?_)
              clear hK K
              try simp only [Act.put, pT_, pZ_, pS_]
              refine foldH ?_
              intro q hq
              obtain ⟨aR, ha⟩ : ∃ g, r.heap.size = g := ⟨_, rfl⟩
              rw [ha]
              have bw2 : w2.grownBy q (some g1) := by rw [hq]; exact gb_below bw (belA (bel0 r) (.cells #[.int .i64 0, .int .i64 0, .string ⟨#[]⟩, .string ⟨#[]⟩] 54))
              have kV2 : Blk q _ _ _ := hq ▸ kV.alloc (.cells #[.int .i64 0, .int .i64 0, .string ⟨#[]⟩, .string ⟨#[]⟩] 54)
              have kC2 : Blk q _ _ _ := hq ▸ kC.alloc (.cells #[.int .i64 0, .int .i64 0, .string ⟨#[]⟩, .string ⟨#[]⟩] 54)
              have kR2 : Blk q aR 54 #[.int .i64 0, .int .i64 0, .string ⟨#[]⟩, .string ⟨#[]⟩] := by rw [hq, <- ha]; exact Blk.new' _ _ _ _ rfl
              have laR : w2.heap.size <= aR := by rw [<- ha]; exact bw.size
              exact key_vd_8 aR q ⟨bw2, kC2, kR2, kV2, laR⟩
            case key =>
             rintro A9 c9 r ⟨bw, kC, kV, pY⟩
             try dsimp only
             refine wpAnyH_ready (rs := [3, 7, 8]) (by kernel_rfl) (by simp) ?_
             refine AllReadyH.cons (o := ?oi50006) ?hi50006 (fun K hK => ?br50006) (AllReadyH.cons (o := ?oi50007) ?hi50007 (fun K hK => ?br50007) (AllReadyH.cons (o := ?oi50008) ?hi50008 (fun K hK => ?br50008) AllReadyH.nil))
             case hi50006 => (conv => lhs; simp only [gT_, gZ_, gS_]); try exact rfl
             case hi50007 => (conv => lhs; simp only [gT_, gZ_, gS_]); try exact rfl
             case hi50008 => (conv => lhs; simp only [gT_, gZ_, gS_]); try exact rfl
             case br50006 =>
              go_simp
              go_at_call 119
              refine (Hdo.out _ _ pY).mono ?_
              rintro e q ⟨rfl, hb⟩
              have bw2 := gb_below bw hb
              have kV2 := kV.below hb kV.lt
              have kC2 := kC.below hb kC.lt
              refine hK.out _ _ (by exact ⟨kV2.get 0 rfl, kV2.get 1 rfl, kC2.get 0 rfl, kC2.get 1 rfl, kC2.get 2 rfl, kC2.get 3 rfl, kC2.get 4 rfl, kC2.get 5 rfl⟩) (fun _ => ?_)
              clear hK K
              try simp only [Act.put, pT_, pZ_, pS_]
              refine tkW_ 4 ?_ (hS := by exact ⟨kV2.get 0 rfl, kV2.get 1 rfl, kC2.get 0 rfl, kC2.get 1 rfl, kC2.get 2 rfl, kC2.get 3 rfl, kC2.get 4 rfl, kC2.get 5 rfl⟩)
              refine tkW_ 5 ?_ (hS := by exact ⟨kV2.get 0 rfl, kV2.get 1 rfl, kC2.get 0 rfl, kC2.get 1 rfl, kC2.get 2 rfl, kC2.get 3 rfl, kC2.get 4 rfl, kC2.get 5 rfl⟩)
              refine tkW_ 6 ?_ (hS := by exact ⟨kV2.get 0 rfl, kV2.get 1 rfl, kC2.get 0 rfl, kC2.get 1 rfl, kC2.get 2 rfl, kC2.get 3 rfl, kC2.get 4 rfl, kC2.get 5 rfl⟩)
              exact key_vd_1_3 A9 c9 q ⟨bw2, kC2, kV2⟩
             case br50007 =>
              go_simp
              refine hK.out _ _ (by exact ⟨(kV.alloc _).get 0 rfl, (kV.alloc _).get 1 rfl, (kC.alloc _).get 0 rfl, (kC.alloc _).get 1 rfl, (kC.alloc _).get 2 rfl, (kC.alloc _).get 3 rfl, (kC.alloc _).get 4 rfl, (kC.alloc _).get 5 rfl⟩) (fun _ => ?_)
              clear hK K
              try simp only [Act.put, pT_, pZ_, pS_]
              refine foldH ?_
              intro q hq
              obtain ⟨aX, ha⟩ : ∃ g, r.heap.size = g := ⟨_, rfl⟩
              rw [ha]
              have bw2 : w2.grownBy q (some g1) := by rw [hq]; exact gb_below bw (belA (bel0 r) (.cells #[.int .i64 0, .slice none 0 0] 26))
              have kV2 : Blk q _ _ _ := hq ▸ kV.alloc (.cells #[.int .i64 0, .slice none 0 0] 26)
              have kC2 : Blk q _ _ _ := hq ▸ kC.alloc (.cells #[.int .i64 0, .slice none 0 0] 26)
              have pY2 : IsVolC q (.agg #[.int .i64 nx, .slice A9 n c9]) ⟨nx, xs⟩ := by rw [hq]; exact (pY.next (belA (bel0 _) _))
              have kX2 : Blk q aX 26 #[.int .i64 0, .slice none 0 0] := by rw [hq, <- ha]; exact Blk.new' _ _ _ _ rfl
              have laX : w2.heap.size <= aX := by rw [<- ha]; exact bw.size
              exact key_vd_1_7 A9 aX c9 q ⟨bw2, kC2, kV2, kX2, pY2, laX⟩
             case br50008 =>
              go_simp
              refine hK.out _ _ (by exact ⟨(kV.alloc _).get 0 rfl, (kV.alloc _).get 1 rfl, (kC.alloc _).get 0 rfl, (kC.alloc _).get 1 rfl, (kC.alloc _).get 2 rfl, (kC.alloc _).get 3 rfl, (kC.alloc _).get 4 rfl, (kC.alloc _).get 5 rfl⟩) (fun _ => ?_)
              clear hK K
              try simp only [Act.put, pT_, pZ_, pS_]
              refine foldH ?_
              intro q hq
              obtain ⟨aR, ha⟩ : ∃ g, r.heap.size = g := ⟨_, rfl⟩
              rw [ha]
              have bw2 : w2.grownBy q (some g1) := by rw [hq]; exact gb_below bw (belA (bel0 r) (.cells #[.int .i64 0, .int .i64 0, .string ⟨#[]⟩, .string ⟨#[]⟩] 54))
              have kV2 : Blk q _ _ _ := hq ▸ kV.alloc (.cells #[.int .i64 0, .int .i64 0, .string ⟨#[]⟩, .string ⟨#[]⟩] 54)
              have kC2 : Blk q _ _ _ := hq ▸ kC.alloc (.cells #[.int .i64 0, .int .i64 0, .string ⟨#[]⟩, .string ⟨#[]⟩] 54)
              have pY2 : IsVolC q (.agg #[.int .i64 nx, .slice A9 n c9]) ⟨nx, xs⟩ := by rw [hq]; exact (pY.next (belA (bel0 _) _))
              have kR2 : Blk q aR 54 #[.int .i64 0, .int .i64 0, .string ⟨#[]⟩, .string ⟨#[]⟩] := by rw [hq, <- ha]; exact Blk.new' _ _ _ _ rfl
              have laR : w2.heap.size <= aR := by rw [<- ha]; exact bw.size
              exact key_vd_1_8 A9 aR c9 q ⟨bw2, kC2, kR2, kV2, pY2, laR⟩
           case key =>
            rintro aX r ⟨bw, kC, kV, kX, laX⟩
            try dsimp only
            refine rd2_ 1 8 (fun K hK => ?br50012) (fun K hK => ?br50013)
            case br50012 =>
             go_simp
             go_at_call 78
             refine (Hcp.out _ (hvv.out.next (belN B2 (belG (bel0 w2) bw (by omega))))).mono ?_
             rintro e q ⟨vc2, rfl, hv2, hb⟩
             have bw2 := gb_below bw hb
             have kV2 := kV.below hb kV.lt
             have kC2 := kC.below hb kC.lt
             have kX2 := kX.below hb kX.lt
             have hv3 := hv2
             obtain ⟨A9, c9, he2, _, _⟩ := hv2
             simp only [HL.out] at he2
             subst he2
             have pY2 := hv3
             refine hK.out _ _ (by exact ⟨kV2.get 0 rfl, kV2.get 1 rfl, kC2.get 0 rfl, kC2.get 1 rfl, kC2.get 2 rfl, kC2.get 3 rfl, kC2.get 4 rfl, kC2.get 5 rfl⟩) (fun _ => ?_)
             clear hK K
             try simp only [Act.put, pT_, pZ_, pS_]
             exact key_vd_1_7 A9 aX c9 q ⟨bw2, kC2, kV2, kX2, pY2, laX⟩
            case br50013 =>
             go_simp
             refine hK.out _ _ (by exact ⟨(kV.alloc _).get 0 rfl, (kV.alloc _).get 1 rfl, (kC.alloc _).get 0 rfl, (kC.alloc _).get 1 rfl, (kC.alloc _).get 2 rfl, (kC.alloc _).get 3 rfl, (kC.alloc _).get 4 rfl, (kC.alloc _).get 5 rfl⟩) (fun _ => ?_)
             clear hK K
             try simp only [Act.put, pT_, pZ_, pS_]
             refine foldH ?_
             intro q hq
             obtain ⟨aR, ha⟩ : ∃ g, r.heap.size = g := ⟨_, rfl⟩
             rw [ha]
             have bw2 : w2.grownBy q (some g1) := by rw [hq]; exact gb_below bw (belA (bel0 r) (.cells #[.int .i64 0, .int .i64 0, .string ⟨#[]⟩, .string ⟨#[]⟩] 54))
             have kV2 : Blk q _ _ _ := hq ▸ kV.alloc (.cells #[.int .i64 0, .int .i64 0, .string ⟨#[]⟩, .string ⟨#[]⟩] 54)
             have kC2 : Blk q _ _ _ := hq ▸ kC.alloc (.cells #[.int .i64 0, .int .i64 0, .string ⟨#[]⟩, .string ⟨#[]⟩] 54)
             have kX2 : Blk q _ _ _ := hq ▸ kX.alloc (.cells #[.int .i64 0, .int .i64 0, .string ⟨#[]⟩, .string ⟨#[]⟩] 54)
             have kR2 : Blk q aR 54 #[.int .i64 0, .int .i64 0, .string ⟨#[]⟩, .string ⟨#[]⟩] := by rw [hq, <- ha]; exact Blk.new' _ _ _ _ rfl
             have laR : w2.heap.size <= aR := by rw [<- ha]; exact bw.size
             exact key_vd_7_8 aR aX q ⟨bw2, kC2, kR2, kV2, kX2, laR, laX⟩
          case key =>
           rintro aR r ⟨bw, kC, kR, kV, laR⟩
           try dsimp only
           refine rd2_ 1 7 (fun K hK => ?br50014) (fun K hK => ?br50015)
           case br50014 =>
            go_simp
            go_at_call 78
            refine (Hcp.out _ (hvv.out.next (belN B2 (belG (bel0 w2) bw (by omega))))).mono ?_
            rintro e q ⟨vc2, rfl, hv2, hb⟩
            have bw2 := gb_below bw hb
            have kV2 := kV.below hb kV.lt
            have kC2 := kC.below hb kC.lt
            have kR2 := kR.below hb kR.lt
            have hv3 := hv2
            obtain ⟨A9, c9, he2, _, _⟩ := hv2
            simp only [HL.out] at he2
            subst he2
            have pY2 := hv3
            refine hK.out _ _ (by exact ⟨kV2.get 0 rfl, kV2.get 1 rfl, kC2.get 0 rfl, kC2.get 1 rfl, kC2.get 2 rfl, kC2.get 3 rfl, kC2.get 4 rfl, kC2.get 5 rfl⟩) (fun _ => ?_)
            clear hK K
            try simp only [Act.put, pT_, pZ_, pS_]
            exact key_vd_1_8 A9 aR c9 q ⟨bw2, kC2, kR2, kV2, pY2, laR⟩
           case br50015 =>
            go_simp
            refine hK.out _ _ (by exact ⟨(kV.alloc _).get 0 rfl, (kV.alloc _).get 1 rfl, (kC.alloc _).get 0 rfl, (kC.alloc _).get 1 rfl, (kC.alloc _).get 2 rfl, (kC.alloc _).get 3 rfl, (kC.alloc _).get 4 rfl, (kC.alloc _).get 5 rfl⟩) (fun _ => ?_)
            clear hK K
            try simp only [Act.put, pT_, pZ_, pS_]
            refine foldH ?_
            intro q hq
            obtain ⟨aX, ha⟩ : ∃ g, r.heap.size = g := ⟨_, rfl⟩
            rw [ha]
            have bw2 : w2.grownBy q (some g1) := by rw [hq]; exact gb_below bw (belA (bel0 r) (.cells #[.int .i64 0, .slice none 0 0] 26))
            have kV2 : Blk q _ _ _ := hq ▸ kV.alloc (.cells #[.int .i64 0, .slice none 0 0] 26)
            have kC2 : Blk q _ _ _ := hq ▸ kC.alloc (.cells #[.int .i64 0, .slice none 0 0] 26)
            have kR2 : Blk q _ _ _ := hq ▸ kR.alloc (.cells #[.int .i64 0, .slice none 0 0] 26)
            have kX2 : Blk q aX 26 #[.int .i64 0, .slice none 0 0] := by rw [hq, <- ha]; exact Blk.new' _ _ _ _ rfl
            have laX : w2.heap.size <= aX := by rw [<- ha]; exact bw.size
            exact key_vd_7_8 aR aX q ⟨bw2, kC2, kR2, kV2, kX2, laR, laX⟩
         case key =>
          rintro A9 c9 r ⟨bw, kC, kV⟩
          try dsimp only
          refine rd2_ 7 8 (fun K hK => ?br50016) (fun K hK => ?br50017)
          case br50016 =>
           go_simp
           refine hK.out _ _ (by exact ⟨(kV.alloc _).get 0 rfl, (kV.alloc _).get 1 rfl, (kC.alloc _).get 0 rfl, (kC.alloc _).get 1 rfl, (kC.alloc _).get 2 rfl, (kC.alloc _).get 3 rfl, (kC.alloc _).get 4 rfl, (kC.alloc _).get 5 rfl⟩) (fun _ => ?_)
           clear hK K
           try simp only [Act.put, pT_, pZ_, pS_]
           refine foldH ?_
           intro q hq
           obtain ⟨aX, ha⟩ : ∃ g, r.heap.size = g := ⟨_, rfl⟩
           rw [ha]
           have bw2 : w2.grownBy q (some g1) := by rw [hq]; exact gb_below bw (belA (bel0 r) (.cells #[.int .i64 0, .slice none 0 0] 26))
           have kV2 : Blk q _ _ _ := hq ▸ kV.alloc (.cells #[.int .i64 0, .slice none 0 0] 26)
           have kC2 : Blk q _ _ _ := hq ▸ kC.alloc (.cells #[.int .i64 0, .slice none 0 0] 26)
           have kX2 : Blk q aX 26 #[.int .i64 0, .slice none 0 0] := by rw [hq, <- ha]; exact Blk.new' _ _ _ _ rfl
           have laX : w2.heap.size <= aX := by rw [<- ha]; exact bw.size
           exact key_vd_1_3_7 A9 aX c9 q ⟨bw2, kC2, kV2, kX2, laX⟩
          case br50017 =>
           go_simp
           refine hK.out _ _ (by exact ⟨(kV.alloc _).get 0 rfl, (kV.alloc _).get 1 rfl, (kC.alloc _).get 0 rfl, (kC.alloc _).get 1 rfl, (kC.alloc _).get 2 rfl, (kC.alloc _).get 3 rfl, (kC.alloc _).get 4 rfl, (kC.alloc _).get 5 rfl⟩) (fun _ => ?_)
           clear hK K
           try simp only [Act.put, pT_, pZ_, pS_]
           refine foldH ?_
           intro q hq
           obtain ⟨aR, ha⟩ : ∃ g, r.heap.size = g := ⟨_, rfl⟩
           rw [ha]
           have bw2 : w2.grownBy q (some g1) := by rw [hq]; exact gb_below bw (belA (bel0 r) (.cells #[.int .i64 0, .int .i64 0, .string ⟨#[]⟩, .string ⟨#[]⟩] 54))
           have kV2 : Blk q _ _ _ := hq ▸ kV.alloc (.cells #[.int .i64 0, .int .i64 0, .string ⟨#[]⟩, .string ⟨#[]⟩] 54)
           have kC2 : Blk q _ _ _ := hq ▸ kC.alloc (.cells #[.int .i64 0, .int .i64 0, .string ⟨#[]⟩, .string ⟨#[]⟩] 54)
           have kR2 : Blk q aR 54 #[.int .i64 0, .int .i64 0, .string ⟨#[]⟩, .string ⟨#[]⟩] := by rw [hq, <- ha]; exact Blk.new' _ _ _ _ rfl
           have laR : w2.heap.size <= aR := by rw [<- ha]; exact bw.size
           exact key_vd_1_3_8 A9 aR c9 q ⟨bw2, kC2, kR2, kV2, laR⟩
        case key =>
         rintro A9 aX c9 r ⟨bw, kC, kV, kX, pY, laX⟩
         try dsimp only
         refine rd2_ 3 8 (fun K hK => ?br50018) (fun K hK => ?br50019)
         case br50018 =>
          go_simp
          go_at_call 119
          refine (Hdo.out _ _ pY).mono ?_
          rintro e q ⟨rfl, hb⟩
          have bw2 := gb_below bw hb
          have kV2 := kV.below hb kV.lt
          have kC2 := kC.below hb kC.lt
          have kX2 := kX.below hb kX.lt
          refine hK.out _ _ (by exact ⟨kV2.get 0 rfl, kV2.get 1 rfl, kC2.get 0 rfl, kC2.get 1 rfl, kC2.get 2 rfl, kC2.get 3 rfl, kC2.get 4 rfl, kC2.get 5 rfl⟩) (fun _ => ?_)
          clear hK K
          try simp only [Act.put, pT_, pZ_, pS_]
          refine tkW_ 4 ?_ (hS := by exact ⟨kV2.get 0 rfl, kV2.get 1 rfl, kC2.get 0 rfl, kC2.get 1 rfl, kC2.get 2 rfl, kC2.get 3 rfl, kC2.get 4 rfl, kC2.get 5 rfl⟩)
          refine tkW_ 5 ?_ (hS := by exact ⟨kV2.get 0 rfl, kV2.get 1 rfl, kC2.get 0 rfl, kC2.get 1 rfl, kC2.get 2 rfl, kC2.get 3 rfl, kC2.get 4 rfl, kC2.get 5 rfl⟩)
          refine tkW_ 6 ?_ (hS := by exact ⟨kV2.get 0 rfl, kV2.get 1 rfl, kC2.get 0 rfl, kC2.get 1 rfl, kC2.get 2 rfl, kC2.get 3 rfl, kC2.get 4 rfl, kC2.get 5 rfl⟩)
          exact key_vd_1_3_7 A9 aX c9 q ⟨bw2, kC2, kV2, kX2, laX⟩
         case br50019 =>
          go_simp
          refine hK.out _ _ (by exact ⟨(kV.alloc _).get 0 rfl, (kV.alloc _).get 1 rfl, (kC.alloc _).get 0 rfl, (kC.alloc _).get 1 rfl, (kC.alloc _).get 2 rfl, (kC.alloc _).get 3 rfl, (kC.alloc _).get 4 rfl, (kC.alloc _).get 5 rfl⟩) (fun _ => ?_)
          clear hK K
          try simp only [Act.put, pT_, pZ_, pS_]
          refine foldH ?_
          intro q hq
          obtain ⟨aR, ha⟩ : ∃ g, r.heap.size = g := ⟨_, rfl⟩
          rw [ha]
          have bw2 : w2.grownBy q (some g1) := by rw [hq]; exact gb_below bw (belA (bel0 r) (.cells #[.int .i64 0, .int .i64 0, .string ⟨#[]⟩, .string ⟨#[]⟩] 54))
          have kV2 : Blk q _ _ _ := hq ▸ kV.alloc (.cells #[.int .i64 0, .int .i64 0, .string ⟨#[]⟩, .string ⟨#[]⟩] 54)
          have kC2 : Blk q _ _ _ := hq ▸ kC.alloc (.cells #[.int .i64 0, .int .i64 0, .string ⟨#[]⟩, .string ⟨#[]⟩] 54)
          have kX2 : Blk q _ _ _ := hq ▸ kX.alloc (.cells #[.int .i64 0, .int .i64 0, .string ⟨#[]⟩, .string ⟨#[]⟩] 54)
          have pY2 : IsVolC q (.agg #[.int .i64 nx, .slice A9 n c9]) ⟨nx, xs⟩ := by rw [hq]; exact (pY.next (belA (bel0 _) _))
          have kR2 : Blk q aR 54 #[.int .i64 0, .int .i64 0, .string ⟨#[]⟩, .string ⟨#[]⟩] := by rw [hq, <- ha]; exact Blk.new' _ _ _ _ rfl
          have laR : w2.heap.size <= aR := by rw [<- ha]; exact bw.size
          exact key_vd_1_7_8 A9 aR aX c9 q ⟨bw2, kC2, kR2, kV2, kX2, pY2, laR, laX⟩
       case key =>
        rintro A9 aR c9 r ⟨bw, kC, kR, kV, pY, laR⟩
        try dsimp only
        refine rd2_ 3 7 (fun K hK => ?br50023) (fun K hK => ?br50024)
        case br50023 =>
         go_simp
         go_at_call 119
         refine (Hdo.out _ _ pY).mono ?_
         rintro e q ⟨rfl, hb⟩
         have bw2 := gb_below bw hb
         have kV2 := kV.below hb kV.lt
         have kC2 := kC.below hb kC.lt
         have kR2 := kR.below hb kR.lt
         refine hK.out _ _ (by exact ⟨kV2.get 0 rfl, kV2.get 1 rfl, kC2.get 0 rfl, kC2.get 1 rfl, kC2.get 2 rfl, kC2.get 3 rfl, kC2.get 4 rfl, kC2.get 5 rfl⟩) (fun _ => ?_)
         clear hK K
         try simp only [Act.put, pT_, pZ_, pS_]
         refine tkW_ 4 ?_ (hS := by exact ⟨kV2.get 0 rfl, kV2.get 1 rfl, kC2.get 0 rfl, kC2.get 1 rfl, kC2.get 2 rfl, kC2.get 3 rfl, kC2.get 4 rfl, kC2.get 5 rfl⟩)
         refine tkW_ 5 ?_ (hS := by exact ⟨kV2.get 0 rfl, kV2.get 1 rfl, kC2.get 0 rfl, kC2.get 1 rfl, kC2.get 2 rfl, kC2.get 3 rfl, kC2.get 4 rfl, kC2.get 5 rfl⟩)
         refine tkW_ 6 ?_ (hS := by exact ⟨kV2.get 0 rfl, kV2.get 1 rfl, kC2.get 0 rfl, kC2.get 1 rfl, kC2.get 2 rfl, kC2.get 3 rfl, kC2.get 4 rfl, kC2.get 5 rfl⟩)
         exact key_vd_1_3_8 A9 aR c9 q ⟨bw2, kC2, kR2, kV2, laR⟩
        case br50024 =>
         go_simp
         refine hK.out _ _ (by exact ⟨(kV.alloc _).get 0 rfl, (kV.alloc _).get 1 rfl, (kC.alloc _).get 0 rfl, (kC.alloc _).get 1 rfl, (kC.alloc _).get 2 rfl, (kC.alloc _).get 3 rfl, (kC.alloc _).get 4 rfl, (kC.alloc _).get 5 rfl⟩) (fun _ => ?_)
         clear hK K
         try simp only [Act.put, pT_, pZ_, pS_]
         refine foldH ?_
         intro q hq
         obtain ⟨aX, ha⟩ : ∃ g, r.heap.size = g := ⟨_, rfl⟩
         rw [ha]
         have bw2 : w2.grownBy q (some g1) := by rw [hq]; exact gb_below bw (belA (bel0 r) (.cells #[.int .i64 0, .slice none 0 0] 26))
         have kV2 : Blk q _ _ _ := hq ▸ kV.alloc (.cells #[.int .i64 0, .slice none 0 0] 26)
         have kC2 : Blk q _ _ _ := hq ▸ kC.alloc (.cells #[.int .i64 0, .slice none 0 0] 26)
         have kR2 : Blk q _ _ _ := hq ▸ kR.alloc (.cells #[.int .i64 0, .slice none 0 0] 26)
         have pY2 : IsVolC q (.agg #[.int .i64 nx, .slice A9 n c9]) ⟨nx, xs⟩ := by rw [hq]; exact (pY.next (belA (bel0 _) _))
         have kX2 : Blk q aX 26 #[.int .i64 0, .slice none 0 0] := by rw [hq, <- ha]; exact Blk.new' _ _ _ _ rfl
         have laX : w2.heap.size <= aX := by rw [<- ha]; exact bw.size
         exact key_vd_1_7_8 A9 aR aX c9 q ⟨bw2, kC2, kR2, kV2, kX2, pY2, laR, laX⟩
      case key =>
       rintro aR aX r ⟨bw, kC, kR, kV, kX, laR, laX⟩
       try dsimp only
       refine rd1_ 1 (fun K hK => ?br50028)
       case br50028 =>
        go_simp
        go_at_call 78
        refine (Hcp.out _ (hvv.out.next (belN B2 (belG (bel0 w2) bw (by omega))))).mono ?_
        rintro e q ⟨vc2, rfl, hv2, hb⟩
        have bw2 := gb_below bw hb
        have kV2 := kV.below hb kV.lt
        have kC2 := kC.below hb kC.lt
        have kX2 := kX.below hb kX.lt
        have kR2 := kR.below hb kR.lt
        have hv3 := hv2
        obtain ⟨A9, c9, he2, _, _⟩ := hv2
        simp only [HL.out] at he2
        subst he2
        have pY2 := hv3
        refine hK.out _ _ (by exact ⟨kV2.get 0 rfl, kV2.get 1 rfl, kC2.get 0 rfl, kC2.get 1 rfl, kC2.get 2 rfl, kC2.get 3 rfl, kC2.get 4 rfl, kC2.get 5 rfl⟩) (fun _ => ?_)
        clear hK K
        try simp only [Act.put, pT_, pZ_, pS_]
        exact key_vd_1_7_8 A9 aR aX c9 q ⟨bw2, kC2, kR2, kV2, kX2, pY2, laR, laX⟩
     case key =>
      rintro A9 aX c9 r ⟨bw, kC, kV, kX, laX⟩
      try dsimp only
      refine rd1_ 8 (fun K hK => ?br50029)
      case br50029 =>
       go_simp
       refine hK.out _ _ (by exact ⟨(kV.alloc _).get 0 rfl, (kV.alloc _).get 1 rfl, (kC.alloc _).get 0 rfl, (kC.alloc _).get 1 rfl, (kC.alloc _).get 2 rfl, (kC.alloc _).get 3 rfl, (kC.alloc _).get 4 rfl, (kC.alloc _).get 5 rfl⟩) (fun _ => ?_)
       clear hK K
       try simp only [Act.put, pT_, pZ_, pS_]
       refine foldH ?_
       intro q hq
       obtain ⟨aR, ha⟩ : ∃ g, r.heap.size = g := ⟨_, rfl⟩
       rw [ha]
       have bw2 : w2.grownBy q (some g1) := by rw [hq]; exact gb_below bw (belA (bel0 r) (.cells #[.int .i64 0, .int .i64 0, .string ⟨#[]⟩, .string ⟨#[]⟩] 54))
       have kV2 : Blk q _ _ _ := hq ▸ kV.alloc (.cells #[.int .i64 0, .int .i64 0, .string ⟨#[]⟩, .string ⟨#[]⟩] 54)
       have kC2 : Blk q _ _ _ := hq ▸ kC.alloc (.cells #[.int .i64 0, .int .i64 0, .string ⟨#[]⟩, .string ⟨#[]⟩] 54)
       have kX2 : Blk q _ _ _ := hq ▸ kX.alloc (.cells #[.int .i64 0, .int .i64 0, .string ⟨#[]⟩, .string ⟨#[]⟩] 54)
       have kR2 : Blk q aR 54 #[.int .i64 0, .int .i64 0, .string ⟨#[]⟩, .string ⟨#[]⟩] := by rw [hq, <- ha]; exact Blk.new' _ _ _ _ rfl
       have laR : w2.heap.size <= aR := by rw [<- ha]; exact bw.size
       exact key_vd_1_3_7_8 A9 aR aX c9 q ⟨bw2, kC2, kR2, kV2, kX2, laR, laX⟩
    case key =>
     rintro A9 aR c9 r ⟨bw, kC, kR, kV, laR⟩
     try dsimp only
     refine rd1_ 7 (fun K hK => ?br50030)
     case br50030 =>
      go_simp
      refine hK.out _ _ (by exact ⟨(kV.alloc _).get 0 rfl, (kV.alloc _).get 1 rfl, (kC.alloc _).get 0 rfl, (kC.alloc _).get 1 rfl, (kC.alloc _).get 2 rfl, (kC.alloc _).get 3 rfl, (kC.alloc _).get 4 rfl, (kC.alloc _).get 5 rfl⟩) (fun _ => ?_)
      clear hK K
      try simp only [Act.put, pT_, pZ_, pS_]
      refine foldH ?_
      intro q hq
      obtain ⟨aX, ha⟩ : ∃ g, r.heap.size = g := ⟨_, rfl⟩
      rw [ha]
      have bw2 : w2.grownBy q (some g1) := by rw [hq]; exact gb_below bw (belA (bel0 r) (.cells #[.int .i64 0, .slice none 0 0] 26))
      have kV2 : Blk q _ _ _ := hq ▸ kV.alloc (.cells #[.int .i64 0, .slice none 0 0] 26)
      have kC2 : Blk q _ _ _ := hq ▸ kC.alloc (.cells #[.int .i64 0, .slice none 0 0] 26)
      have kR2 : Blk q _ _ _ := hq ▸ kR.alloc (.cells #[.int .i64 0, .slice none 0 0] 26)
      have kX2 : Blk q aX 26 #[.int .i64 0, .slice none 0 0] := by rw [hq, <- ha]; exact Blk.new' _ _ _ _ rfl
      have laX : w2.heap.size <= aX := by rw [<- ha]; exact bw.size
      exact key_vd_1_3_7_8 A9 aR aX c9 q ⟨bw2, kC2, kR2, kV2, kX2, laR, laX⟩
   case key =>
    rintro A9 aR aX c9 r ⟨bw, kC, kR, kV, kX, pY, laR, laX⟩
    try dsimp only
    refine rd1_ 3 (fun K hK => ?br50031)
    case br50031 =>
     go_simp
     go_at_call 119
     refine (Hdo.out _ _ pY).mono ?_
     rintro e q ⟨rfl, hb⟩
     have bw2 := gb_below bw hb
     have kV2 := kV.below hb kV.lt
     have kC2 := kC.below hb kC.lt
     have kX2 := kX.below hb kX.lt
     have kR2 := kR.below hb kR.lt
     refine hK.out _ _ (by exact ⟨kV2.get 0 rfl, kV2.get 1 rfl, kC2.get 0 rfl, kC2.get 1 rfl, kC2.get 2 rfl, kC2.get 3 rfl, kC2.get 4 rfl, kC2.get 5 rfl⟩) (fun _ => ?_)
     clear hK K
     try simp only [Act.put, pT_, pZ_, pS_]
     refine tkW_ 4 ?_ (hS := by exact ⟨kV2.get 0 rfl, kV2.get 1 rfl, kC2.get 0 rfl, kC2.get 1 rfl, kC2.get 2 rfl, kC2.get 3 rfl, kC2.get 4 rfl, kC2.get 5 rfl⟩)
     refine tkW_ 5 ?_ (hS := by exact ⟨kV2.get 0 rfl, kV2.get 1 rfl, kC2.get 0 rfl, kC2.get 1 rfl, kC2.get 2 rfl, kC2.get 3 rfl, kC2.get 4 rfl, kC2.get 5 rfl⟩)
     refine tkW_ 6 ?_ (hS := by exact ⟨kV2.get 0 rfl, kV2.get 1 rfl, kC2.get 0 rfl, kC2.get 1 rfl, kC2.get 2 rfl, kC2.get 3 rfl, kC2.get 4 rfl, kC2.get 5 rfl⟩)
     exact key_vd_1_3_7_8 A9 aR aX c9 q ⟨bw2, kC2, kR2, kV2, kX2, laR, laX⟩
  case key =>
   rintro A9 aR aX c9 r ⟨bw, kC, kR, kV, kX, laR, laX⟩
   try dsimp only
   refine rd1_ 9 (fun K hK => ?br50035)
   case br50035 =>
    have hXR : aX ≠ aR := Blk.ne_ kX kR (by decide)
    have hRX : aR ≠ aX := Ne.symm hXR
    have nVX : w.heap.size ≠ aX := by omega
    have nCX : w.heap.size + 1 ≠ aX := by omega
    have nVR : w.heap.size ≠ aR := by omega
    have nCR : w.heap.size + 1 ≠ aR := by omega
    have kX9 := (kX.put 0 (.int .i64 nx) #[.int .i64 nx, .slice none 0 0] rfl).put 1 (.slice A9 n c9) #[.int .i64 nx, .slice A9 n c9] rfl
    have kV9 := (kV.far (p := ⟨aX, 0, none⟩) nVX (.int .i64 nx)).far (p := ⟨aX, 1, none⟩) nVX (.slice A9 n c9)
    have kC9 := (kC.far (p := ⟨aX, 0, none⟩) nCX (.int .i64 nx)).far (p := ⟨aX, 1, none⟩) nCX (.slice A9 n c9)
    have kR9 := (kR.far (p := ⟨aX, 0, none⟩) hRX (.int .i64 nx)).far (p := ⟨aX, 1, none⟩) hRX (.slice A9 n c9)
    have B9 := belG (bel0 w2) bw (show w2.heap.size <= g1 by omega)
    have B9' := belC (belC B9 aX 0 laX (.int .i64 nx)) aX 1 laX (.slice A9 n c9)
    obtain ⟨w19, hw19⟩ : ∃ W, (r.setCell ⟨aX, 0, none⟩ (.int .i64 nx)).setCell ⟨aX, 1, none⟩ (.slice A9 n c9) = W := ⟨_, rfl⟩
    rw [hw19] at kX9 kV9 kC9 kR9 B9'
    obtain ⟨xf0, xf1⟩ := kX.f2
    obtain ⟨xx0, xx1⟩ := kX.g2
    have xl := kX.lt
    go_simp
    refine hK.out _ _ (by first | exact ⟨kV9.get 0 rfl, kV9.get 1 rfl, kC9.get 0 rfl, kC9.get 1 rfl, kC9.get 2 rfl, kC9.get 3 rfl, kC9.get 4 rfl, kC9.get 5 rfl⟩ | (rw [hw19]; exact ⟨kV9.get 0 rfl, kV9.get 1 rfl, kC9.get 0 rfl, kC9.get 1 rfl, kC9.get 2 rfl, kC9.get 3 rfl, kC9.get 4 rfl, kC9.get 5 rfl⟩)) (fun _ => ?_)
    clear hK K
    try simp only [Act.put, pT_, pZ_, pS_]
    try rw [hw19]
    clear hw19 xf0 xf1 xx0 xx1 xl kX kR kV kC B9 bw
    refine rd1_ 10 (fun K hK => ?br50036)
    case br50036 =>
     have kR10 := ((((kR9.put 0 (.int .i64 lc) #[.int .i64 lc, .int .i64 0, .string ⟨#[]⟩, .string ⟨#[]⟩] rfl).put 1 (.int .i64 li) #[.int .i64 lc, .int .i64 li, .string ⟨#[]⟩, .string ⟨#[]⟩] rfl).put 2 (.string ls) #[.int .i64 lc, .int .i64 li, .string ls, .string ⟨#[]⟩] rfl).put 3 (.string ld) #[.int .i64 lc, .int .i64 li, .string ls, .string ld] rfl)
     have kX10 := ((((kX9.far (p := ⟨aR, 0, none⟩) hXR (.int .i64 lc)).far (p := ⟨aR, 1, none⟩) hXR (.int .i64 li)).far (p := ⟨aR, 2, none⟩) hXR (.string ls)).far (p := ⟨aR, 3, none⟩) hXR (.string ld))
     have kV10 := ((((kV9.far (p := ⟨aR, 0, none⟩) nVR (.int .i64 lc)).far (p := ⟨aR, 1, none⟩) nVR (.int .i64 li)).far (p := ⟨aR, 2, none⟩) nVR (.string ls)).far (p := ⟨aR, 3, none⟩) nVR (.string ld))
     have kC10 := ((((kC9.far (p := ⟨aR, 0, none⟩) nCR (.int .i64 lc)).far (p := ⟨aR, 1, none⟩) nCR (.int .i64 li)).far (p := ⟨aR, 2, none⟩) nCR (.string ls)).far (p := ⟨aR, 3, none⟩) nCR (.string ld))
     have B10 := (belC (belC (belC (belC B9' aR 0 laR (.int .i64 lc)) aR 1 laR (.int .i64 li)) aR 2 laR (.string ls)) aR 3 laR (.string ld))
     obtain ⟨w20, hw20⟩ : ∃ W, ((((w19.setCell ⟨aR, 0, none⟩ (.int .i64 lc)).setCell ⟨aR, 1, none⟩ (.int .i64 li)).setCell ⟨aR, 2, none⟩ (.string ls)).setCell ⟨aR, 3, none⟩ (.string ld)) = W := ⟨_, rfl⟩
     rw [hw20] at kX10 kV10 kC10 kR10 B10
     obtain ⟨xf0, xf1, xf2, xf3⟩ := kR9.f4
     obtain ⟨xx0, xx1, xx2, xx3⟩ := kR9.g4
     have xl := kR9.lt
     go_simp
     refine hK.out _ _ (by first | exact ⟨kV10.get 0 rfl, kV10.get 1 rfl, kC10.get 0 rfl, kC10.get 1 rfl, kC10.get 2 rfl, kC10.get 3 rfl, kC10.get 4 rfl, kC10.get 5 rfl⟩ | (rw [hw20]; exact ⟨kV10.get 0 rfl, kV10.get 1 rfl, kC10.get 0 rfl, kC10.get 1 rfl, kC10.get 2 rfl, kC10.get 3 rfl, kC10.get 4 rfl, kC10.get 5 rfl⟩)) (fun _ => ?_)
     clear hK K
     try simp only [Act.put, pT_, pZ_, pS_]
     try rw [hw20]
     clear hw20 xf0 xf1 xf2 xf3 xx0 xx1 xx2 xx3 xl
     refine wpAnyH_done (by kernel_rfl) ?_ _
     go_wp2_with fail
     go_meet
     exact ⟨_, _, _, _, rfl, rfl, kX10, kR10, laX, laR, B10⟩
 case rest =>
  obtain ⟨g, h, A9, c9, rfl, rfl, hG, hH, lg, lh, hb3⟩ := hcut
  have l2 := RR2.out.lt
  have nGX : g ≠ w.heap.size + 1 + 1 := by omega
  have nGR : g ≠ w.heap.size + 1 + 1 + 1 := by omega
  have nHX : h ≠ w.heap.size + 1 + 1 := by omega
  have nHR : h ≠ w.heap.size + 1 + 1 + 1 := by omega
  have nGX' := nGX.symm
  have nGR' := nGR.symm
  have nHX' := nHX.symm
  have nHR' := nHR.symm
  have B3 := belN B2 hb3
  clear v0 v1 k0 k1 k2 k3 k4 k5
  have X3 := XX2.out.below hb3 XX2.out.lt
  have R3 := RR2.out.below hb3 RR2.out.lt
  have p0 := hG.out.get (x := .int .i64 nx) 0 rfl
  have p1 := hG.out.get (x := .slice A9 n c9) 1 rfl
  have h0 := hH.out.get (x := .int .i64 lc) 0 rfl
  have h1 := hH.out.get (x := .int .i64 li) 1 rfl
  have h2 := hH.out.get (x := .string ls) 2 rfl
  have h3 := hH.out.get (x := .string ld) 3 rfl
  have xG := hG.out.lt
  have xH := hH.out.lt
  have hX9 := X3
  have hR9 := R3
  have x0 := hX9.get (x := .int .i64 0) 0 rfl
  have y0 := hX9.frozen 0
  have x1 := hX9.get (x := .slice none 0 0) 1 rfl
  have y1 := hX9.frozen 1
  have r0 := hR9.get (x := .int .i64 0) 0 rfl
  have g0 := hR9.frozen 0
  have r1 := hR9.get (x := .int .i64 0) 1 rfl
  have g1 := hR9.frozen 1
  have r2 := hR9.get (x := .string ⟨#[]⟩) 2 rfl
  have g2 := hR9.frozen 2
  have r3 := hR9.get (x := .string ⟨#[]⟩) 3 rfl
  have g3 := hR9.frozen 3
  have lX := hX9.lt
  have lR := hR9.lt
  clear hX9 hR9
  go_wp2_with fail
  go_region
  all_goals
   go_wp2
   refine bodyPost_ret (v := .tuple #[.agg #[.int .i64 nx, .slice A9 n c9], .agg #[.int .i64 lc, .int .i64 li, .string ls, .string ld]]) (by simp [results, Tryz.results80, go_sem, x0, x1, r0, r1, r2, r3]) rfl ⟨A9, c9, rfl, ?_⟩
   repeat (first | refine belC ?_ _ _ (by omega) _ | exact B3 | apply Below.drew)

end Go.Proofs.YtjjniapamdleoaaGreatDoor
