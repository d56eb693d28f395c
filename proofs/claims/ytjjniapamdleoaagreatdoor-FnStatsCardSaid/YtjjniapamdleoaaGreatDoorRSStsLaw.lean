/- The law FnStats, walked: what is counted of a volume. -/
import Derived.Test.YtjjniapamdleoaaGreatDoorRSLk
import Derived.Test.YtjjniapamdleoaaGreatDoorRSStsQ
import Derived.Test.YtjjniapamdleoaaGreatDoorRSDuS
namespace Go.Proofs.YtjjniapamdleoaaGreatDoor
open Go Go.RowKit
set_option maxHeartbeats 8000000
set_option maxRecDepth 100000

theorem bigL_any (A : Option Addr) (n cp : Nat) (w : World) :
  Calls Tryz.prog 8 #[.slice A n cp] w fun e w' => e = .returned (.bool (decide (1048576 < n))) /\ Below w.heap.size w w' := by
 by_cases h : 1048576 < n
 ·have h1 : (n : Int) > 1048576 := by omega
  have hd : decide (1048576 < n) = true := by simpa using h
  have Hd := Lib.hid hd
  go_enter Tryz.func8, Tryz.ntmps8
  go_wp2
  go_ret
  exact ⟨by first | rfl | (rw [Hd.out]; rfl), bel0 w⟩
 ·have h1 : ¬ ((n : Int) > 1048576) := by omega
  have hd : decide (1048576 < n) = false := by simpa using h
  have Hd := Lib.hid hd
  go_enter Tryz.func8, Tryz.ntmps8
  go_wp2
  go_ret
  exact ⟨by first | rfl | (rw [Hd.out]; rfl), bel0 w⟩

theorem law_fnStats (A : Option Addr) (n cp : Nat) (bt : List UInt8) (w : World) (hT : Tab w) (hr : Reads w w.heap.size 1 A n (B8 bt)) :
  Calls Tryz.prog 4 #[.slice A n cp] w fun e w' => e = .returned (.bool true) /\ Below w.heap.size w w' := by
 have HT := Lib.hid hT
 have Hr := Lib.hid hr
 clear hT hr
 by_cases hbig : 1048576 < n
 ·have Hd := Lib.hid (show decide (1048576 < n) = true by simpa using hbig)
  go_enter Tryz.func4, Tryz.ntmps4
  go_wp2_with fail
  refine (bigL_any A n cp w).mono ?_
  rintro e w1 ⟨rfl, hb1⟩
  rw [Hd.out]
  go_wp2
  go_ret
  exact ⟨rfl, hb1⟩
 have Hd := Lib.hid (show decide (1048576 < n) = false by simpa using hbig)
 go_enter Tryz.func4, Tryz.ntmps4
 go_wp2_with fail
 refine (bigL_any A n cp w).mono ?_
 rintro e w1 ⟨rfl, hb1⟩
 rw [Hd.out]
 go_wp2_with fail
 refine (drawDu_any A n cp bt (by omega) w1 ((Hr.out.below hb1).more hb1.size)).mono ?_
 rintro e w2 ⟨v, V, s, rfl, sm, _, hs, ⟨gy, c, us, rfl, y2⟩, hb2⟩
 have hsz : szV V <= 1048576 := by have := sm.sz; omega
 obtain ⟨nx, xs⟩ := V
 simp only at y2 ⊢
 have hn17 : xs.length <= 17 := sm.1
 have Hsum := Lib.hid (sumS_sm hsz)
 have Hdle := Lib.hid (du_le (nx := nx) (xs := xs) s)
 have Sm := Lib.hid sm
 have B2 := belN hb1 hb2
 clear hb2 sm hb1
 obtain ⟨pv, hpv⟩ : ∃ q, w2.heap.size = q := ⟨_, rfl⟩
 obtain ⟨w3, hw3⟩ : ∃ W, w2.alloc (.cells #[.int .i64 nx, .slice (some ⟨gy, 0, none⟩) xs.length c] 26) = W := ⟨_, rfl⟩
 have b3 : Below w2.heap.size w2 w3 := by rw [<- hw3]; exact belA (bel0 w2) _
 have kP3 : Blk w3 pv 26 #[.int .i64 nx, .slice (some ⟨gy, 0, none⟩) xs.length c] := by rw [<- hw3, <- hpv]; exact Blk.new' _ _ _ _ rfl
 have y3 := y2.below b3
 have B3 := belN B2 b3
 have Hw3 := Lib.hid hw3
 have Hpv := Lib.hid hpv
 clear hw3 hpv b3 y2 B2
 go_upto_region 4 with fail
 try rw [Hpv.out]
 rw [Hw3.out]
 clear Hw3 Hpv
 obtain ⟨dn, dc, hdu⟩ : ∃ x y, duP ⟨nx, xs⟩ (spB s) = (x, y) := ⟨_, _, rfl⟩
 have Hdu := Lib.hid hdu
 have Hdle2 := Lib.hid (show dn <= (sumS xs xs.length : Int) by have := Hdle.out; rw [hdu] at this; exact this)
 clear hdu Hdle
 obtain ⟨p_0, p_1⟩ := kP3.g2
 go_wp2_with fail
 refine (du_impl _ ⟨nx, xs⟩ hsz s (by omega) w3 (HT.out.bl B3) (y3.isC nx)).mono ?_
 rintro e w4 ⟨rfl, hb4⟩
 rw [Hdu.out]
 simp only
 have B4 := belN B3 hb4
 have kP4 := kP3.below hb4 kP3.lt
 have y4 := y3.below hb4
 clear p_0 p_1 kP3 y3 B3 hb4
 obtain ⟨p_0, p_1⟩ := kP4.g2
 go_wp2_with fail
 refine (du_spec _ ⟨nx, xs⟩ hsz s (by omega) w4 (y4.isC nx)).mono ?_
 rintro e w5 ⟨rfl, hb5⟩
 rw [Hdu.out]
 simp only
 have B5 := belN B4 hb5
 have kP5 := kP4.below hb5 kP4.lt
 have y5 := y4.below hb5
 clear p_0 p_1 kP4 y4 B4 hb5
 have td : (dn != dn) = false := by simp
 have tc : (dc != dc) = false := by simp
 obtain ⟨p_0, p_1⟩ := kP5.g2
 go_wp2_with fail
 refine (volOk_spec _ ⟨nx, xs⟩ hsz w5 (y5.isC nx)).mono ?_
 rintro e w6 ⟨rfl, hb6⟩
 have B6 := belN B5 hb6
 have kP6 := kP5.below hb6 kP5.lt
 have y6 := y5.below hb6
 clear p_0 p_1 kP5 y5 B5 hb6
 clear td tc
 simp only
 rcases hok : volOkB nx xs with _ | _
 ·have hno := sts_no hok
  have Hk := Lib.hid hno.1
  have Hf := Lib.hid hno.2.1
  have Hd1 := Lib.hid hno.2.2
  clear hno hok Hsum Hdle2 Hdu
  obtain ⟨p_0, p_1⟩ := kP6.g2
  go_wp2_with fail
  refine (kindOf_impl _ ⟨nx, xs⟩ hsz 1 w6 (HT.out.bl B6) (y6.isC nx)).mono ?_
  rintro e w7 ⟨rfl, hb7⟩
  rw [Hk.out]
  have B7 := belN B6 hb7
  have kP7 := kP6.below hb7 kP6.lt
  have y7 := y6.below hb7
  clear p_0 p_1 kP6 y6 B6 hb7
  obtain ⟨p_0, p_1⟩ := kP7.g2
  go_wp2_with fail
  refine (fullOf_impl _ ⟨nx, xs⟩ hsz w7 (HT.out.bl B7) (y7.isC nx)).mono ?_
  rintro e w8 ⟨rfl, hb8⟩
  rw [Hf.out]
  have B8 := belN B7 hb8
  have kP8 := kP7.below hb8 kP7.lt
  have y8 := y7.below hb8
  clear p_0 p_1 kP7 y7 B7 hb8
  obtain ⟨p_0, p_1⟩ := kP8.g2
  go_wp2_with fail
  refine (deepOf_impl _ ⟨nx, xs⟩ hsz 1 w8 (HT.out.bl B8) (y8.isC nx)).mono ?_
  rintro e w9 ⟨rfl, hb9⟩
  rw [Hd1.out]
  go_wp2
  go_ret
  exact ⟨rfl, belN B8 hb9⟩
 obtain ⟨hv, hful, hknd⟩ := sts_ok hok
 have Hv := Lib.hid hv
 have Hful := Lib.hid hful
 have Hknd := Lib.hid hknd
 have Hk1 := Lib.hid (kindP_bd (V := ⟨nx, xs⟩) hn17 1)
 have Hk2 := Lib.hid (kindP_bd (V := ⟨nx, xs⟩) hn17 2)
 clear hv hok hful hknd
 go_wp2
 go_loopw [9, 10, 11] (fun sm fl i wr => ∃ q S F : Nat, q <= xs.length /\ sm = .int .i64 S /\ fl = .int .i64 F /\ i = .int .i64 q /\ Hid (S = sumS xs q) /\ Hid (F = fullN xs q) /\ Below w6.heap.size w6 wr) (fun _ _ i _ => xs.length - (intOf i).toNat)
 case atStart => exact ⟨0, 0, 0, Nat.zero_le _, rfl, rfl, rfl, Lib.hid rfl, Lib.hid rfl, Below.refl _ _⟩
 case round =>
  obtain ⟨q, S, F, hq, rfl, rfl, rfl, hS, hF, hbel⟩ := hrel
  obtain ⟨wo, hwo⟩ : ∃ W, W = wr := ⟨_, rfl⟩
  subst hwo
  have kP := kP6.below hbel kP6.lt
  have y := y6.below hbel
  have Bo := belN B6 hbel
  have p_1 := kP.get 1 rfl
  by_cases hlt : q < xs.length
  rotate_left
  ·obtain rfl : q = xs.length := by omega
   have hI : ¬ (((xs.length : Nat) : Int) < ((xs.length : Nat) : Int)) := by omega
   have hle : dn <= (S : Int) := by have := Hdle2.out; have := hS.out; omega
   have Hroot := Lib.hid (show (duP ⟨nx, xs⟩ (spB ⟨#[47]⟩)) = ((S : Int), 0) by rw [du_root Hv.out, hS.out])
   have Hfl := Lib.hid (show fullP ⟨nx, xs⟩ = (F : Int) by rw [Hful.out, hF.out])
   have p_0 := kP.get 0 rfl
   go_wp2_with fail
   refine (du_impl _ ⟨nx, xs⟩ hsz ⟨#[47]⟩ (by decide) wo (HT.out.bl Bo) (y.isC nx)).mono ?_
   rintro e w7 ⟨rfl, hb7⟩
   rw [Hroot.out]
   simp only
   have B7 := belN Bo hb7
   have kP7 := kP.below hb7 kP.lt
   have y7 := y.below hb7
   clear p_0 p_1 kP y Bo hb7 hI
   obtain ⟨k1, hk1⟩ : ∃ z, kindP ⟨nx, xs⟩ 1 = z := ⟨_, rfl⟩
   obtain ⟨k2, hk2⟩ : ∃ z, kindP ⟨nx, xs⟩ 2 = z := ⟨_, rfl⟩
   have hk12 : k1 + k2 = ((xs.length : Nat) : Int) := by have := Hknd.out; rw [hk1, hk2] at this; exact this
   have HK1 := Lib.hid hk1
   have HK2 := Lib.hid hk2
   have wk : IntKind.i64.wrap (k1 + k2) = ((xs.length : Nat) : Int) := by rw [IntKind.wrap_i64]; omega
   clear hk1 hk2 hk12
   obtain ⟨p_0, p_1⟩ := kP7.g2
   obtain ⟨g0, hg0⟩ : ∃ g0, g0 = w7.heap.size := ⟨_, rfl⟩
   have hgl : w.heap.size <= g0 := by have := B7.size; omega
   clear p_0 p_1
   go_upto_region 29 with fail
   refine wp_region_held_drew (S := fun w' => w'.cell? ⟨pv, 0, none⟩ = some (.int .i64 nx) /\ w'.cell? ⟨pv, 1, none⟩ = some (.slice (some ⟨gy, 0, none⟩) xs.length c)) (by kernel_rfl) (by exact ⟨kP7.get 0 rfl, kP7.get 1 rfl⟩) (fun hHeld => ?_)
   clear hHeld
   refine foldH ?_
   intro r hr0
   have bw : w7.grownBy r (some g0) := by rw [hr0]; exact gb_below (grown_refl _ _) (bel0 w7).drew
   have kP : Blk r pv 26 #[.int .i64 nx, .slice (some ⟨gy, 0, none⟩) xs.length c] := by rw [hr0]; exact kP7.drew
   have pY : YR r w1.heap.size gy c xs us := by rw [hr0]; exact (y7.below (bel0 w7).drew)
   clear hr0
   apply mem4_w (P := fun  q => w7.grownBy q (some g0) /\ Blk q pv 26 #[.int .i64 nx, .slice (some ⟨gy, 0, none⟩) xs.length c] /\ YR q w1.heap.size gy c xs us)
   case use =>
    intro key_sk_10_16
    apply mem4_w (P := fun  q => w7.grownBy q (some g0) /\ Blk q pv 26 #[.int .i64 nx, .slice (some ⟨gy, 0, none⟩) xs.length c] /\ YR q w1.heap.size gy c xs us)
    case use =>
     intro key_sk_10
     refine tkW_ 0 ?_ (hS := by exact ⟨kP.get 0 rfl, kP.get 1 rfl⟩)
     refine tkW_ 1 ?_ (hS := by exact ⟨kP.get 0 rfl, kP.get 1 rfl⟩)
     refine tkW_ 2 ?_ (hS := by exact ⟨kP.get 0 rfl, kP.get 1 rfl⟩)
     refine tkW_ 3 ?_ (hS := by exact ⟨kP.get 0 rfl, kP.get 1 rfl⟩)
     refine tkW_ 4 ?_ (hS := by exact ⟨kP.get 0 rfl, kP.get 1 rfl⟩)
     refine tkW_ 5 ?_ (hS := by exact ⟨kP.get 0 rfl, kP.get 1 rfl⟩)
     refine tkW_ 6 ?_ (hS := by exact ⟨kP.get 0 rfl, kP.get 1 rfl⟩)
     refine tkW_ 7 ?_ (hS := by exact ⟨kP.get 0 rfl, kP.get 1 rfl⟩)
     refine tkW_ 8 ?_ (hS := by exact ⟨kP.get 0 rfl, kP.get 1 rfl⟩)
     refine tkW_ 9 ?_ (hS := by exact ⟨kP.get 0 rfl, kP.get 1 rfl⟩)
     refine tkW_ 11 ?_ (hS := by exact ⟨kP.get 0 rfl, kP.get 1 rfl⟩)
     refine rd1_ 10 (fun K hK => ?br70012)
     case br70012 =>
      go_simp
      go_at_call 18
      refine (fullOf_impl _ ⟨nx, xs⟩ hsz _ (HT.out.bl (belG B7 bw hgl)) (pY.isC nx)).mono ?_
      rintro e q ⟨rfl, hb⟩
      have bw2 := gb_below bw hb
      have kP2 := kP.below hb kP.lt
      have pY2 : YR q w1.heap.size gy c xs us := pY.below hb
      rw [Hfl.out]
      refine hK.out _ _ (by exact ⟨kP2.get 0 rfl, kP2.get 1 rfl⟩) (fun _ => ?_)
      clear hK K
      try simp only [Act.put, pT_, pZ_, pS_]
      refine tkW_ 12 ?_ (hS := by exact ⟨kP2.get 0 rfl, kP2.get 1 rfl⟩)
      refine tkW_ 13 ?_ (hS := by exact ⟨kP2.get 0 rfl, kP2.get 1 rfl⟩)
      refine tkW_ 14 ?_ (hS := by exact ⟨kP2.get 0 rfl, kP2.get 1 rfl⟩)
      refine tkW_ 15 ?_ (hS := by exact ⟨kP2.get 0 rfl, kP2.get 1 rfl⟩)
      refine tkW_ 17 ?_ (hS := by exact ⟨kP2.get 0 rfl, kP2.get 1 rfl⟩)
      refine tkW_ 20 ?_ (hS := by exact ⟨kP2.get 0 rfl, kP2.get 1 rfl⟩)
      refine tkW_ 21 ?_ (hS := by exact ⟨kP2.get 0 rfl, kP2.get 1 rfl⟩)
      refine tkW_ 22 ?_ (hS := by exact ⟨kP2.get 0 rfl, kP2.get 1 rfl⟩)
      exact key_sk_10  q ⟨bw2, kP2, pY2⟩
    case key =>
     rintro  r ⟨bw, kP, pY⟩
     try dsimp only
     refine rd1_ 16 (fun K hK => ?br70021)
     case br70021 =>
      go_simp
      go_at_call 17
      refine (kindOf_impl _ ⟨nx, xs⟩ hsz 1 _ (HT.out.bl (belG B7 bw hgl)) (pY.isC nx)).mono ?_
      rintro e q ⟨rfl, hb⟩
      have bw2 := gb_below bw hb
      have kP2 := kP.below hb kP.lt
      have pY2 : YR q w1.heap.size gy c xs us := pY.below hb
      rw [HK1.out]
      refine hK.out _ _ (by exact ⟨kP2.get 0 rfl, kP2.get 1 rfl⟩) (fun _ => ?_)
      clear hK K
      try simp only [Act.put, pT_, pZ_, pS_]
      exact key_sk_10_16  q ⟨bw2, kP2, pY2⟩
   case key =>
    rintro  r ⟨bw, kP, pY⟩
    try dsimp only
    refine rd1_ 18 (fun K hK => ?br70022)
    case br70022 =>
     go_simp
     go_at_call 17
     refine (kindOf_impl _ ⟨nx, xs⟩ hsz 2 _ (HT.out.bl (belG B7 bw hgl)) (pY.isC nx)).mono ?_
     rintro e q ⟨rfl, hb⟩
     rw [HK2.out]
     have B8 := belN (belG B7 bw hgl) hb
     have kP2 := kP.below hb kP.lt
     refine hK.out _ _ (by exact ⟨kP2.get 0 rfl, kP2.get 1 rfl⟩) (fun _ => ?_)
     clear hK K
     try simp only [Act.put, pT_, pZ_, pS_]
     refine tkW_ 19 ?_ (hS := by exact ⟨kP2.get 0 rfl, kP2.get 1 rfl⟩)
     refine tkW_ 23 ?_ (hS := by exact ⟨kP2.get 0 rfl, kP2.get 1 rfl⟩)
     refine tkW_ 24 ?_ (hS := by exact ⟨kP2.get 0 rfl, kP2.get 1 rfl⟩)
     refine tkW_ 25 ?_ (hS := by exact ⟨kP2.get 0 rfl, kP2.get 1 rfl⟩)
     refine wpAnyH_done (by kernel_rfl) ?_ _
     go_wp2
     go_ret
     exact ⟨rfl, B8⟩
  have hI : (q : Int) < ((xs.length : Nat) : Int) := by omega
  have q0 : (0 : Int) <= (q : Int) := by omega
  have Hdp := Lib.hid (deep_pos Hv.out (List.getElem_mem hlt))
  have Hde := Lib.hid (fun e he => deep_ent Hv.out (List.getElem_mem hlt) (e := e) he)
  have hs1 := sumS_succ hlt
  have hmb := (Sm.out.2 _ (List.getElem_mem hlt)).1
  have hf1 := fullN_succ hlt
  have hss := Hsum.out (q + 1) (show q + 1 <= xs.length by omega)
  obtain ⟨u, _, hrow, z0, z1, z2, z3, z4⟩ := y.at_ hlt
  obtain ⟨A3, c3, rfl, _⟩ := own_vals hrow
  obtain ⟨x, hx⟩ : ∃ x, xs[q] = x := ⟨_, rfl⟩
  rw [hx] at hrow z0 z1 z2 z3 z4 hs1 hf1 Hdp Hde hmb
  clear hx
  obtain ⟨xi, xk, xl, xt, es⟩ := x
  simp only at hrow z0 z1 z2 z3 z4 hs1 hf1 Hdp Hde hmb
  obtain ⟨m, hm⟩ : ∃ m, es.length = m := ⟨_, rfl⟩
  rw [hm] at z4 hrow hf1 hmb
  have Hm := Lib.hid hm
  have Hrow := Lib.hid (rd_of hrow)
  have hsz2 : S + xt.size <= 1048576 := by have h1 := hS.out; simp only [hs1] at hss; omega
  have HS1 := Lib.hid (show S + xt.size = sumS xs (q + 1) by rw [hs1, <- hS.out])
  have HF1 := Lib.hid (show max F m = fullN xs (q + 1) by rw [hf1, <- hF.out])
  clear hrow hm hs1 hf1 hss
  obtain ⟨dd, hdd⟩ : ∃ z, deepP ⟨nx, xs⟩ xi = z := ⟨_, rfl⟩
  have hdb := deepP_bd (V := ⟨nx, xs⟩) (a := xi)
  rw [hdd] at Hdp Hde hdb
  have Hdd := Lib.hid hdd
  clear hdd
  obtain ⟨W2, hW2⟩ : ∃ W, wo.alloc (.cells #[.int .i64 xi, .int .i64 xk, .int .i64 xl, .string xt, .slice A3 m c3] 36) = W := ⟨_, rfl⟩
  have b2 : Below wo.heap.size wo W2 := by rw [<- hW2]; exact belA (bel0 wo) _
  have kE : Blk W2 wo.heap.size 36 #[.int .i64 xi, .int .i64 xk, .int .i64 xl, .string xt, .slice A3 m c3] := by rw [<- hW2]; exact Blk.new' _ _ _ _ rfl
  have HW2 := Lib.hid hW2
  clear hW2
  go_upto_region 16 with fail
  rw [HW2.out]
  clear HW2 z0 z1 z2 z3 z4 p_1
  have bw2 : Below w6.heap.size w6 W2 := hbel.trans (b2.mono hbel.size)
  have kP2 := kP.below b2 kP.lt
  have y2 := y.below b2
  have B2' := belN Bo b2
  have Hrow2 := Lib.hid ((Hrow.out.below b2).more b2.size)
  clear kP y Bo Hrow hbel b2
  have wn : IntKind.i64.wrap ((S : Int) + (xt.size : Int)) = ((S + xt.size : Nat) : Int) := by rw [IntKind.wrap_i64]; omega
  have e_3 := kE.get 3 rfl
  have e_4 := kE.get 4 rfl
  go_upto_if 82 with fail
  go_cut [10] from 61 to 122 (fun t wx => t = .int .i64 ((max F m : Nat) : Int) /\ wx = W2)
  case first =>
   by_cases hm : (F : Int) < (m : Int)
   ·go_wp2_with fail
    go_meet
    case rel => exact ⟨by rw [show max F m = m by omega], rfl⟩
   ·go_wp2_with fail
    go_meet
    case rel => exact ⟨by rw [show max F m = F by omega], rfl⟩
  case rest =>
  obtain ⟨rfl, hwc⟩ := hcut
  rw [hwc]
  clear hwc wc wn e_3 e_4
  obtain ⟨p_0, p_1⟩ := kP2.g2
  have e_0 := kE.get 0 rfl
  obtain ⟨T, hT⟩ : ∃ T : Nat, S + xt.size = T := ⟨_, rfl⟩
  obtain ⟨G, hG⟩ : ∃ G : Nat, max F m = G := ⟨_, rfl⟩
  rw [hT] at HS1
  rw [show (S : Int) + (xt.size : Int) = (T : Int) by omega]
  rw [hG] at HF1 ⊢
  clear hT hG
  go_wp2_with fail
  refine (deepOf_impl _ ⟨nx, xs⟩ hsz xi W2 (HT.out.bl B2') (y2.isC nx)).mono ?_
  rintro e w7 ⟨rfl, hb7⟩
  rw [Hdd.out]
  have kP7 := kP2.below hb7 kP2.lt
  have kE7 := kE.below hb7 kE.lt
  have y7 := y2.below hb7
  have B7 := belN B2' hb7
  have b7 : Below w6.heap.size w6 w7 := bw2.trans (hb7.mono bw2.size)
  have Hrow7 := Lib.hid ((Hrow2.out.below hb7).more hb7.size)
  clear p_0 p_1 e_0 kP2 kE y2 B2' bw2 Hrow2 hb7
  have n0 : ¬ dd < 0 := by have := Hdp.out.1; omega
  have hq2 : (dd == 0) = (xi == 1) := by
   by_cases h1 : xi = 1
   ·rw [Hdp.out.2.2 h1, h1]; rfl
   ·have h2 : dd ≠ 0 := fun h => h1 (Hdp.out.2.1 h)
    rw [beq_false_of_ne h2, beq_false_of_ne h1]
  obtain ⟨bq, tq1⟩ : ∃ bq, (xi == 1) = bq := ⟨_, rfl⟩
  have tq0 : (dd == 0) = bq := by rw [hq2, tq1]
  clear hq2
  have e_0 := kE7.get 0 rfl
  go_wp2
  clear e_0 n0 tq0 tq1
  go_loopw [14] (fun i wr => ∃ k : Nat, k <= m /\ i = .int .i64 k /\ Below w7.heap.size w7 wr) (fun i _ => m - (intOf i).toNat)
  case atStart => exact ⟨0, Nat.zero_le _, rfl, Below.refl _ _⟩
  case round =>
   obtain ⟨k, hk, rfl, hb⟩ := hrel
   have kE2 := kE7.below hb kE7.lt
   have e_4 := kE2.get 4 rfl
   by_cases hk2 : k < m
   rotate_left
   ·obtain rfl : k = m := by omega
    have hK : ¬ ((k : Int) < (k : Int)) := by omega
    go_wp2
    go_roundw
    case rel => exact ⟨q + 1, T, G, by omega, rfl, rfl, by go_num, HS1, HF1, b7.trans (hb.mono b7.size)⟩
    case measure => simp [intOf]; omega
   have hK : (k : Int) < (m : Int) := by omega
   have k0 : (0 : Int) <= (k : Int) := by omega
   obtain ⟨hkE, b4, o4, hA4, _, _, _, _, f3⟩ := reads_ent (Hrow7.out.below hb) hk2
   subst hA4
   have hde := Hde.out es[k] (List.getElem_mem hkE)
   obtain ⟨ed, hed⟩ : ∃ z, es[k].d = z := ⟨_, rfl⟩
   rw [hed] at f3 hde
   clear hed
   obtain ⟨d2, hd2⟩ : ∃ z, deepP ⟨nx, xs⟩ ed = z := ⟨_, rfl⟩
   rw [hd2] at hde
   have Hd2 := Lib.hid hd2
   clear hd2
   have n1 : ¬ d2 < 1 := by omega
   have n2 : ¬ dd + 1 < d2 := by omega
   have wn : IntKind.i64.wrap (dd + 1) = dd + 1 := by rw [IntKind.wrap_i64]; omega
   have kP8 := kP7.below hb kP7.lt
   have y8 := y7.below hb
   have B8 := belN B7 hb
   have B8d := belN B8 (bel0 wr).drew
   obtain ⟨p_0, p_1⟩ := kP8.g2
   clear hde
   go_upto_region 25 with fail
   go_region_held3 (fun w' => w'.cell? ⟨pv, 0, none⟩ = some (.int .i64 nx) /\ w'.cell? ⟨pv, 1, none⟩ = some (.slice (some ⟨gy, 0, none⟩) xs.length c) /\ w'.cell? ⟨wo.heap.size, 4, none⟩ = some (.slice (some ⟨b4, o4, none⟩) m c3) /\ w'.cell? ⟨b4, o4 + k * 4 + 3, none⟩ = some (.int .i64 ed))
    (first | go_keep | (refine ⟨keep1 hb9 ?_, keep1 hb9 ?_, keep1 hb9 ?_, keep1 hb9 ?_⟩ <;> go_keep))
    (first | (go_at_call 19; refine (deepOf_impl _ ⟨nx, xs⟩ hsz ed _ (HT.out.bl B8d) ((y8.below (bel0 wr).drew).isC nx)).mono ?_; rintro e w9 ⟨rfl, hb9⟩; rw [Hd2.out]))
   go_wp2_with fail
   go_roundw
   case rel => exact ⟨k + 1, by omega, by go_num, hb.trans (((bel0 wr).drew.trans (hb9.mono (bel0 wr).drew.size)).mono hb.size)⟩
   case measure => simp [intOf]; omega

end Go.Proofs.YtjjniapamdleoaaGreatDoor
