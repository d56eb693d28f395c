/- Where names lead to: l6Do, VolDo, l20Walk and Walk of the reference. -/
import Derived.Test.YthdbomkddpnhaaaGreatDoorWkT
import Derived.Test.YthdbomkddpnhaaaGreatDoorCpV
import Derived.Test.YthdbomkddpnhaaaGreatDoorPath
import Derived.Test.YthdbomkddpnhaaaGreatDoorVolOk
import Derived.Test.YthdbomkddpnhaaaGreatDoorRegH
namespace Go.Proofs.YthdbomkddpnhaaaGreatDoor
open Go Go.RowKit

set_option maxRecDepth 100000 in
set_option maxHeartbeats 8000000 in
theorem l6Do_look (v : Value) (V : VolD) (sm : szV V ≤ 1048576) (hv : VolP V.nx V.xs) (a : Int) (ha : 0 ≤ plc V.xs a) (s : ByteArray) (hname : nameOkB s = true) (w : World) (hC : IsVolC w v V) :
    Calls Tryz.prog 196 #[v, .agg #[.int .i64 8, .int .i64 a, .string s, .int .i64 0, .string ⟨#[]⟩, .string ⟨#[]⟩]] w fun e w' => e = .returned (.tuple #[v, (lkP V.xs a s).val]) ∧ Below w.heap.size w w' := by
  have hs := name_size hname
  have hid := id_small hv ha
  have hn := v_len sm
  obtain ⟨k, hk, hpl, _⟩ := plc_lt ha
  have Hck := Lib.hid (fun W => callOk_look a s (by omega) hs W)
  have Hat := Lib.hid (fun W hW => l6At_any v V hn a W hW)
  have Hdir := Lib.hid (fun W hW => l6Dir_any v V hn a W hW)
  have Hnm := Lib.hid (fun W => nameOk_spec s (by omega) W)
  have Hon := Lib.hid (fun hd W hW => l6On_look v V sm hv a s hs k hk hpl hd W hW)
  have Hfile := Lib.hid (fun hd => lk_file (s := s) hk hpl hd)
  have Hbg := bg_at hk hpl
  simp only [hpl] at Hat
  simp only [Hbg] at Hdir
  simp only [hname] at Hnm
  have hvv := Lib.hid hC
  have h := hC.is
  obtain ⟨A, c, rfl, h⟩ := h
  obtain ⟨nx, xs⟩ := V
  simp only at Hat Hdir Hon Hfile h hn hk ⊢
  clear h hC hpl hv sm ha Hbg hname
  obtain ⟨y, hy⟩ : ∃ y, xs[k].kd = y := ⟨_, rfl⟩
  simp only [hy] at Hdir Hon Hfile
  clear hy
  obtain ⟨n, hn'⟩ : ∃ n, xs.length = n := ⟨_, rfl⟩
  simp only [hn'] at Hat Hdir Hon hvv hn ⊢
  clear hn'
  have q0 : (0 : Int) ≤ ↑k := by omega
  obtain ⟨W1, hW1⟩ : ∃ W1, (((w.alloc (.cells #[.int .i64 nx, .slice A n c] 30)).alloc (.cells #[.int .i64 8, .int .i64 a, .string s, .int .i64 0, .string ⟨#[]⟩, .string ⟨#[]⟩] 151)).alloc (.cells #[.int .i64 0, .slice none 0 0] 30)).alloc (.cells #[.int .i64 0, .int .i64 0, .string ⟨#[]⟩, .string ⟨#[]⟩] 147) = W1 := ⟨_, rfl⟩
  have B1 : Below w.heap.size w W1 := by rw [← hW1]; exact belA (belA (belA (belA (bel0 w) _) _) _) _
  have hVV : Blk W1 w.heap.size 30 #[.int .i64 nx, .slice A n c] := by rw [← hW1]; exact (((Blk.new' _ _ _ _ rfl).alloc _).alloc _).alloc _
  have hKK : Blk W1 (w.heap.size + 1) 151 #[.int .i64 8, .int .i64 a, .string s, .int .i64 0, .string ⟨#[]⟩, .string ⟨#[]⟩] := by rw [← hW1]; exact ((Blk.new' _ _ _ _ (by simp)).alloc _).alloc _
  have hXX : Blk W1 (w.heap.size + 2) 30 #[.int .i64 0, .slice none 0 0] := by rw [← hW1]; exact (Blk.new' _ _ _ _ (by simp)).alloc _
  have hRR : Blk W1 (w.heap.size + 3) 147 #[.int .i64 0, .int .i64 0, .string ⟨#[]⟩, .string ⟨#[]⟩] := by rw [← hW1]; exact Blk.new' _ _ _ _ (by simp)
  have HW1 := Lib.hid hW1
  have VV := Lib.hid hVV
  have KK := Lib.hid hKK
  have XX := Lib.hid hXX
  have RR := Lib.hid hRR
  clear hW1 hVV hKK hXX hRR
  have v0 := VV.out.get (x := .int .i64 nx) 0 rfl
  have v1 := VV.out.get (x := .slice A n c) 1 rfl
  have k0 := KK.out.get (x := .int .i64 8) 0 rfl
  have k1 := KK.out.get (x := .int .i64 a) 1 rfl
  have k2 := KK.out.get (x := .string s) 2 rfl
  have k3 := KK.out.get (x := .int .i64 0) 3 rfl
  have k4 := KK.out.get (x := .string ⟨#[]⟩) 4 rfl
  have k5 := KK.out.get (x := .string ⟨#[]⟩) 5 rfl
  go_enter Tryz.func196, Tryz.ntmps196
  go_wp2_with fail
  rw [HW1.out]
  refine (Hck.out W1).mono ?_
  rintro e w2 ⟨rfl, hb2⟩
  have B2 := belN B1 hb2
  have VV2 := Lib.hid (VV.out.below hb2 VV.out.lt)
  have KK2 := Lib.hid (KK.out.below hb2 KK.out.lt)
  have XX2 := Lib.hid (XX.out.below hb2 XX.out.lt)
  have RR2 := Lib.hid (RR.out.below hb2 RR.out.lt)
  clear VV KK XX RR
  clear v0 v1 k0 k1 k2 k3 k4 k5
  have v0 := VV2.out.get (x := .int .i64 nx) 0 rfl
  have v1 := VV2.out.get (x := .slice A n c) 1 rfl
  have k0 := KK2.out.get (x := .int .i64 8) 0 rfl
  have k1 := KK2.out.get (x := .int .i64 a) 1 rfl
  go_wp2_with fail
  refine (Hat.out w2 (hvv.out.next B2).is).mono ?_
  rintro e w3 ⟨rfl, hb3⟩
  have B3 := belN B2 hb3
  have VV3 := Lib.hid (VV2.out.below hb3 VV2.out.lt)
  have KK3 := Lib.hid (KK2.out.below hb3 KK2.out.lt)
  have XX3 := Lib.hid (XX2.out.below hb3 XX2.out.lt)
  have RR3 := Lib.hid (RR2.out.below hb3 RR2.out.lt)
  clear VV2 KK2 XX2 RR2
  clear v0 v1 k0 k1
  have v0 := VV3.out.get (x := .int .i64 nx) 0 rfl
  have v1 := VV3.out.get (x := .slice A n c) 1 rfl
  have k0 := KK3.out.get (x := .int .i64 8) 0 rfl
  have k1 := KK3.out.get (x := .int .i64 a) 1 rfl
  go_wp2_with fail
  refine (Hdir.out w3 (hvv.out.next B3)).mono ?_
  rintro e w4 ⟨rfl, hb4⟩
  have B4 := belN B3 hb4
  have VV4 := Lib.hid (VV3.out.below hb4 VV3.out.lt)
  have KK4 := Lib.hid (KK3.out.below hb4 KK3.out.lt)
  have XX4 := Lib.hid (XX3.out.below hb4 XX3.out.lt)
  have RR4 := Lib.hid (RR3.out.below hb4 RR3.out.lt)
  clear VV3 KK3 XX3 RR3
  clear v0 v1 k0 k1
  have v0 := VV4.out.get (x := .int .i64 nx) 0 rfl
  have v1 := VV4.out.get (x := .slice A n c) 1 rfl
  have k0 := KK4.out.get (x := .int .i64 8) 0 rfl
  by_cases hd : y = 2
  · subst hd
    have Hon2 := Lib.hid (Hon.out rfl)
    have k2 := KK4.out.get (x := .string s) 2 rfl
    go_wp2_with (simp only [if_pos])
    refine (Hnm.out w4).mono ?_
    rintro e w5 ⟨rfl, hb5⟩
    have B5 := belN B4 hb5
    have VV5 := Lib.hid (VV4.out.below hb5 VV4.out.lt)
    have KK5 := Lib.hid (KK4.out.below hb5 KK4.out.lt)
    have XX5 := Lib.hid (XX4.out.below hb5 XX4.out.lt)
    have RR5 := Lib.hid (RR4.out.below hb5 RR4.out.lt)
    clear VV4 KK4 XX4 RR4
    clear v0 v1 k0 k2
    have v0 := VV5.out.get (x := .int .i64 nx) 0 rfl
    have v1 := VV5.out.get (x := .slice A n c) 1 rfl
    have k0 := KK5.out.get (x := .int .i64 8) 0 rfl
    have k1 := KK5.out.get (x := .int .i64 a) 1 rfl
    have k2 := KK5.out.get (x := .string s) 2 rfl
    have k3 := KK5.out.get (x := .int .i64 0) 3 rfl
    have k4 := KK5.out.get (x := .string ⟨#[]⟩) 4 rfl
    have k5 := KK5.out.get (x := .string ⟨#[]⟩) 5 rfl
    go_wp2_with fail
    refine (Hon2.out w5 (hvv.out.next B5)).mono ?_
    rintro e w6 ⟨rfl, hb6⟩
    have B6 := belN B5 hb6
    have VV6 := Lib.hid (VV5.out.below hb6 VV5.out.lt)
    have KK6 := Lib.hid (KK5.out.below hb6 KK5.out.lt)
    have XX6 := Lib.hid (XX5.out.below hb6 XX5.out.lt)
    have RR6 := Lib.hid (RR5.out.below hb6 RR5.out.lt)
    clear VV5 KK5 XX5 RR5
    clear v0 v1 k0 k1 k2 k3 k4 k5
    obtain ⟨L, hL⟩ : ∃ L, lkP xs a s = L := ⟨_, rfl⟩
    have HL9 := Lib.hid hL
    rw [hL]
    clear hL
    obtain ⟨lc, li, ls, ld⟩ := L
    simp only [LkD.val]
    have hX9 := XX6.out
    have hR9 := RR6.out
    have x0 := hX9.get (x := .int .i64 0) 0 rfl
    have y0 := hX9.frozen 0
    have x1 := hX9.get (x := .slice none 0 0) 1 rfl
    have y1 := hX9.frozen 1
    have r0 := hR9.get (x := .int .i64 0) 0 rfl
    have g0 := hR9.frozen 0
    have r1 := hR9.get (x := .int .i64 0) 1 rfl
    have g1 := hR9.frozen 1
    have r2 := hR9.get (x := .string ⟨#[]⟩) 2 rfl
    have g2 := hR9.frozen 2
    have r3 := hR9.get (x := .string ⟨#[]⟩) 3 rfl
    have g3 := hR9.frozen 3
    have lX := hX9.lt
    have lR := hR9.lt
    clear hX9 hR9
    go_wp2
    refine bodyPost_ret (v := .tuple #[.agg #[.int .i64 nx, .slice A n c], .agg #[.int .i64 lc, .int .i64 li, .string ls, .string ld]]) (by simp [results, Tryz.results196, go_sem, x0, x1, r0, r1, r2, r3]) rfl ⟨by rw [HL9.out]; rfl, ?_⟩
    repeat (first | exact B6 | apply Below.drew | refine belC ?_ _ _ (by omega) _)
  · have Hlk := Lib.hid (Hfile.out hd)
    have hX9 := XX4.out
    have hR9 := RR4.out
    have x0 := hX9.get (x := .int .i64 0) 0 rfl
    have y0 := hX9.frozen 0
    have x1 := hX9.get (x := .slice none 0 0) 1 rfl
    have y1 := hX9.frozen 1
    have r0 := hR9.get (x := .int .i64 0) 0 rfl
    have g0 := hR9.frozen 0
    have r1 := hR9.get (x := .int .i64 0) 1 rfl
    have g1 := hR9.frozen 1
    have r2 := hR9.get (x := .string ⟨#[]⟩) 2 rfl
    have g2 := hR9.frozen 2
    have r3 := hR9.get (x := .string ⟨#[]⟩) 3 rfl
    have g3 := hR9.frozen 3
    have lX := hX9.lt
    have lR := hR9.lt
    clear hX9 hR9
    have hd4 : ((if y = 2 then (0 : Int) else 4) == 0) = false := by rw [if_neg hd]; rfl
    go_wp2
    refine bodyPost_ret (v := .tuple #[.agg #[.int .i64 nx, .slice A n c], (LkD.bad 4).val]) (by simp [results, Tryz.results196, go_sem, LkD.val, LkD.bad, x0, x1, r0, r1, r2, r3]) rfl ⟨by rw [Hlk.out]; try rfl, ?_⟩
    repeat (first | exact B4 | apply Below.drew | refine belC ?_ _ _ (by omega) _)

end Go.Proofs.YthdbomkddpnhaaaGreatDoor
