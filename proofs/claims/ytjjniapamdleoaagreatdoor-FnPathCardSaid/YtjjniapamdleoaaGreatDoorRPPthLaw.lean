/- The law FnPath, walked: the text of an inode leads to it; what is cleaned of a path is what it was. -/
import Derived.Test.YtjjniapamdleoaaGreatDoorRPPthD
import Derived.Test.YtjjniapamdleoaaGreatDoorRPPthQ
import Derived.Test.YtjjniapamdleoaaGreatDoorRPSplD
import Derived.Test.YtjjniapamdleoaaGreatDoorRPSmT
import Derived.Test.YtjjniapamdleoaaGreatDoorRPWkI
namespace Go.Proofs.YtjjniapamdleoaaGreatDoor
open Go Go.RowKit
set_option maxHeartbeats 8000000
set_option maxRecDepth 100000

theorem bigL_any (A : Option Addr) (n cp : Nat) (w : World) :
  Calls Tryz.prog 8 #[.slice A n cp] w fun e w' => e = .returned (.bool (decide (1048576 < n))) /\ Below w.heap.size w w' := by
 by_cases h : 1048576 < n
 ·have h1 : (n : Int) > 1048576 := by omega
  have hd : decide (1048576 < n) = true := by simpa using h
  have Hd := Lib.hid hd
  go_enter Tryz.func8, Tryz.ntmps8
  go_wp2
  go_ret
  exact ⟨by first | rfl | (rw [Hd.out]; rfl), bel0 w⟩
 ·have h1 : ¬ ((n : Int) > 1048576) := by omega
  have hd : decide (1048576 < n) = false := by simpa using h
  have Hd := Lib.hid hd
  go_enter Tryz.func8, Tryz.ntmps8
  go_wp2
  go_ret
  exact ⟨by first | rfl | (rw [Hd.out]; rfl), bel0 w⟩

theorem law_fnPath (A : Option Addr) (n cp : Nat) (bt : List UInt8) (w : World) (hT : Tab w) (hr : Reads w w.heap.size 1 A n (B8 bt)) :
  Calls Tryz.prog 5 #[.slice A n cp] w fun e w' => e = .returned (.bool true) /\ Below w.heap.size w w' := by
 have HT := Lib.hid hT
 have Hr := Lib.hid hr
 clear hT hr
 by_cases hbig : 1048576 < n
 ·have Hd := Lib.hid (show decide (1048576 < n) = true by simpa using hbig)
  go_enter Tryz.func5, Tryz.ntmps5
  go_wp2_with fail
  refine (bigL_any A n cp w).mono ?_
  rintro e w1 ⟨rfl, hb1⟩
  rw [Hd.out]
  go_wp2
  go_ret
  exact ⟨rfl, hb1⟩
 have Hd := Lib.hid (show decide (1048576 < n) = false by simpa using hbig)
 go_enter Tryz.func5, Tryz.ntmps5
 go_wp2_with fail
 refine (bigL_any A n cp w).mono ?_
 rintro e w1 ⟨rfl, hb1⟩
 rw [Hd.out]
 go_wp2_with fail
 refine (drawPathOf_any A n cp bt (by omega) w1 ((Hr.out.below hb1).more hb1.size)).mono ?_
 rintro e w2 ⟨v, V, id, rfl, sm, _, hs, ⟨gy, c, us, rfl, y2⟩, hb2⟩
 have hsz : szV V <= 1048576 := by have := sm.sz; omega
 have hpz := path_sz sm id
 obtain ⟨nx, xs⟩ := V
 simp only at y2 hpz ⊢
 have Hz := Lib.hid (show ∀ x ∈ xs, ∀ e ∈ x.es, e.s.size <= 2000000 from fun x hx e he => by have := (sm.2 x hx).2.1 e he; omega)
 have B2 := belN hb1 hb2
 clear hb2 sm hb1 hs
 obtain ⟨pv, hpv⟩ : ∃ q, w2.heap.size = q := ⟨_, rfl⟩
 obtain ⟨w3, hw3⟩ : ∃ W, w2.alloc (.cells #[.int .i64 nx, .slice (some ⟨gy, 0, none⟩) xs.length c] 26) = W := ⟨_, rfl⟩
 have b3 : Below w2.heap.size w2 w3 := by rw [<- hw3]; exact belA (bel0 w2) _
 have kP3 : Blk w3 pv 26 #[.int .i64 nx, .slice (some ⟨gy, 0, none⟩) xs.length c] := by rw [<- hw3, <- hpv]; exact Blk.new' _ _ _ _ rfl
 have y3 := y2.below b3
 have B3 := belN B2 b3
 have Hw3 := Lib.hid hw3
 have Hpv := Lib.hid hpv
 clear hw3 hpv b3 y2 B2
 go_upto_region 4 with fail
 try rw [Hpv.out]
 rw [Hw3.out]
 clear Hw3 Hpv
 obtain ⟨ps, is_, hps⟩ : ∃ x y, pathP ⟨nx, xs⟩ id = (x, y) := ⟨_, _, rfl⟩
 rw [hps] at hpz
 have Hps := Lib.hid hps
 clear hps
 simp only at hpz
 obtain ⟨p_0, p_1⟩ := kP3.g2
 go_wp2_with fail
 refine (pathOf_impl _ ⟨nx, xs⟩ hsz id w3 (HT.out.bl B3) (y3.isC nx)).mono ?_
 rintro e w4 ⟨rfl, hb4⟩
 rw [Hps.out]
 simp only
 have B4 := belN B3 hb4
 have kP4 := kP3.below hb4 kP3.lt
 have y4 := y3.below hb4
 clear p_0 p_1 kP3 y3 B3 hb4
 obtain ⟨p_0, p_1⟩ := kP4.g2
 go_wp2_with fail
 refine (pathOf_spec _ ⟨nx, xs⟩ hsz id w4 (y4.isC nx)).mono ?_
 rintro e w5 ⟨rfl, hb5⟩
 rw [Hps.out]
 simp only
 have B5 := belN B4 hb5
 have kP5 := kP4.below hb5 kP4.lt
 have y5 := y4.below hb5
 clear p_0 p_1 kP4 y4 B4 hb5
 have tb : (is_ != is_) = false := by simp
 go_upto_region 8 with fail
 obtain ⟨bb, hbb⟩ : ∃ b, (is_ && decide ((ps.size : Int) <= 200)) = b := ⟨_, rfl⟩
 have Hbb := Lib.hid hbb
 clear hbb tb
 go_cut [54] from 49 to 53 (fun t wx => t = .bool bb /\ wx = w5)
 case first =>
  by_cases h2 : (ps.size : Int) <= 200
  ·cases is_
   ·go_wp2_with fail
    go_meet
    case rel => exact ⟨by rw [<- Hbb.out]; simp, rfl⟩
   ·go_wp2_with fail
    go_meet
    case rel => exact ⟨by rw [<- Hbb.out]; simp [h2], rfl⟩
  ·cases is_
   ·go_wp2_with fail
    go_meet
    case rel => exact ⟨by rw [<- Hbb.out]; simp, rfl⟩
   ·go_wp2_with fail
    go_meet
    case rel => exact ⟨by rw [<- Hbb.out]; simp [h2], rfl⟩
 case rest =>
 obtain ⟨rfl, hwc⟩ := hcut
 rw [hwc]
 clear hwc wc
 go_upto_if 54 with fail
 go_cut [2] from 55 to 90 (fun t wx => t = .bool false /\ Below w5.heap.size w5 wx)
 case first =>
  cases bb
  ·go_wp2_with fail
   go_meet
   case rel => exact ⟨rfl, Below.refl _ _⟩
  have hb3 := Hbb.out
  simp only [Bool.and_eq_true, decide_eq_true_eq] at hb3
  obtain ⟨rfl, h2⟩ := hb3
  have Hwk := Lib.hid (path_walk Hz.out Hps.out (by omega))
  have Hw1 := Lib.hid Hwk.out.1
  obtain ⟨p_0, p_1⟩ := kP5.g2
  go_wp2_with fail
  refine (walkV_impl _ ⟨nx, xs⟩ hsz ps (by omega) w5 (HT.out.bl B5) (y5.isC nx)).mono ?_
  rintro e w6 ⟨rfl, hb6⟩
  rw [Hw1.out]
  simp only
  have B6 := belN B5 hb6
  have kP6 := kP5.below hb6 kP5.lt
  have y6 := y5.below hb6
  clear p_0 p_1
  obtain ⟨p_0, p_1⟩ := kP6.g2
  have u1 : ¬ 9223372036854775807 < 2 + ps.size := by omega
  have u2 : ¬ 9223372036854775807 < 2 + ps.size + 1 := by omega
  go_wp2_with fail
  obtain ⟨t2, ht2⟩ : ∃ t : ByteArray, ⟨#[47, 46]⟩ ++ ps ++ ⟨#[47]⟩ = t := ⟨_, rfl⟩
  have hz2 : t2.size <= 2000000 := by
   have z1 : (⟨#[47, 46]⟩ : ByteArray).size = 2 := rfl
   have z2 : (⟨#[47]⟩ : ByteArray).size = 1 := rfl
   rw [<- ht2]
   simp only [ByteArray.size_append, z1, z2]
   omega
  have Hw2 := Lib.hid (show ps.size + 3 <= 200 -> walkP ⟨nx, xs⟩ (spB t2) = (id, 0) from fun h => by rw [<- ht2]; exact Hwk.out.2 h)
  rw [ht2]
  clear ht2
  refine (walkV_impl _ ⟨nx, xs⟩ hsz t2 hz2 w6 (HT.out.bl B6) (y6.isC nx)).mono ?_
  rintro e w7 ⟨rfl, hb7⟩
  have b7 := hb6.trans (hb7.mono hb6.size)
  clear p_0 p_1 u1 u2
  have ti : (id != id) = false := by simp
  have wn : IntKind.i64.wrap ((ps.size : Int) + 3) = (ps.size : Int) + 3 := by rw [IntKind.wrap_i64]; omega
  by_cases h3 : (ps.size : Int) + 3 <= 200
  ·rw [Hw2.out (by omega)]
   simp only
   go_wp2_with fail
   go_meet
   case rel => exact ⟨rfl, b7⟩
  ·obtain ⟨o1, ho1⟩ : ∃ z, (walkP ⟨nx, xs⟩ (spB t2)).1 = z := ⟨_, rfl⟩
   obtain ⟨o2, ho2⟩ : ∃ z, (walkP ⟨nx, xs⟩ (spB t2)).2 = z := ⟨_, rfl⟩
   rw [ho1, ho2]
   clear ho1 ho2
   go_wp2_with fail
   go_meet
   case rel => exact ⟨rfl, b7⟩
 case rest =>
 obtain ⟨rfl, hcb⟩ := hcut
 obtain ⟨wd, hwd⟩ : ∃ W, W = wc := ⟨_, rfl⟩
 subst hwd
 have Bd := belN B5 hcb
 clear hcb B5 Hz Hps Hbb
 go_wp2_with fail
 refine (drawSplitPath_any A n cp bt (by omega) wd ((Hr.out.below Bd).more Bd.size)).mono ?_
 rintro e w6 ⟨p, rfl, hp, hb6⟩
 have B6 := belN Bd hb6
 clear Bd hb6
 obtain ⟨L, b, hL⟩ : ∃ L b, spB p = (L, b) := ⟨_, _, rfl⟩
 have hLn : L.length <= 10000 := by have := sp_len p; rw [hL] at this; simp only at this; omega
 have HL := Lib.hid hL
 have Hok := Lib.hid (sp_of hL).2
 clear hL
 go_wp2_with fail
 refine (splitPath_impl p (by omega) w6 (HT.out.bl B6)).mono ?_
 rintro e w7 ⟨hb7, v7, rfl, ho7⟩
 rw [HL.out] at ho7 ⊢
 simp only at ho7 ⊢
 obtain ⟨A7, c7, rfl, _⟩ := own_vals ho7
 have R7 := Lib.hid (rd_of ho7)
 have B7 := belN B6 hb7
 clear ho7 B6 hb7
 go_wp2_with fail
 refine (splitPath_spec p (by omega) w7).mono ?_
 rintro e w8 ⟨hb8, v8, rfl, ho8⟩
 rw [HL.out] at ho8 ⊢
 simp only at ho8 ⊢
 obtain ⟨A8, c8, rfl, _⟩ := own_vals ho8
 have R8 := Lib.hid (rd_of ho8)
 have R78 := Lib.hid ((R7.out.below hb8).more hb8.size)
 have B8 := belN B7 hb8
 clear ho8 B7 hb8 R7
 have tb : (b != b) = false := by simp
 go_wp2_with fail
 refine (sameT_self A7 A8 c7 c8 L (by omega) w8 R78.out R8.out).mono ?_
 rintro e w9 ⟨rfl, hb9⟩
 have R9 := Lib.hid ((R78.out.below hb9).more hb9.size)
 have B9 := belN B8 hb9
 clear hb9 B8 R78 R8 tb
 go_wp2
 go_loopw [18, 19] (fun ag i wr => ∃ (q : Nat) (G : ByteArray), q <= L.length /\ ag = .string G /\ i = .int .i64 q /\ Hid (G = agn (L.take q)) /\ Below w9.heap.size w9 wr) (fun _ i _ => L.length - (intOf i).toNat)
 case atStart => exact ⟨0, _, Nat.zero_le _, rfl, rfl, Lib.hid rfl, Below.refl _ _⟩
 case round =>
  obtain ⟨q, G, hq, rfl, rfl, hG, hbel⟩ := hrel
  have hGz : G.size <= 1 + 25 * q := by have h1 := agn_size (l := L.take q) (fun m hm => Hok.out m (List.mem_of_mem_take hm)); rw [hG.out, List.length_take] at *; omega
  by_cases hlt : q < L.length
  ·obtain ⟨_, bl, ol, hA, _, zl⟩ := reads_strF (R9.out.below hbel) hlt
   subst hA
   have hn2 : L[q].size <= 24 := name_le (Hok.out _ (List.getElem_mem hlt))
   have hG2 : G ++ L[q] ++ ⟨#[47]⟩ = agn (L.take (q + 1)) := by rw [hG.out, List.take_succ_eq_append_getElem hlt, agn_snoc]
   have HG2 := Lib.hid hG2
   clear hG2
   obtain ⟨e, he⟩ : ∃ e, L[q] = e := ⟨_, rfl⟩
   rw [he] at zl hn2 HG2
   clear he
   have q0 : (0 : Int) <= (q : Int) := by omega
   have q1 : (q : Int) < ((L.length : Nat) : Int) := by omega
   have u1 : ¬ 9223372036854775807 < G.size + e.size := by omega
   have u2 : ¬ 9223372036854775807 < G.size + e.size + 1 := by omega
   go_wp2
   go_roundw
   case rel => exact ⟨q + 1, _, by omega, rfl, by go_num, HG2, hbel⟩
   case measure => simp [intOf]; omega
  obtain rfl : q = L.length := by omega
  have q1 : ¬ (((L.length : Nat) : Int) < ((L.length : Nat) : Int)) := by omega
  rw [List.take_length] at hG
  have Bq := belN B9 hbel
  have Rq := Lib.hid ((R9.out.below hbel).more hbel.size)
  clear B9 hbel R9
  go_wp2_with fail
  refine (splitPath_impl G (by omega) _ (HT.out.bl Bq)).mono ?_
  rintro e w10 ⟨hb10, v10, rfl, ho10⟩
  have B10 := belN Bq hb10
  have R10 := Lib.hid ((Rq.out.below hb10).more hb10.size)
  clear Bq Rq
  cases b
  ·go_wp2_with fail
   go_ret
   exact ⟨rfl, B10⟩
  by_cases h200 : (G.size : Int) > 200
  ·go_wp2_with fail
   go_ret
   exact ⟨rfl, B10⟩
  have hsp : spB G = (L, true) := by rw [hG.out]; exact agn_sp HL.out (by rw [<- hG.out]; omega)
  rw [hsp] at ho10 ⊢
  simp only at ho10 ⊢
  obtain ⟨A10, c10, rfl, _⟩ := own_vals ho10
  have R11 := Lib.hid (rd_of ho10)
  clear ho10 hsp hb10
  go_wp2_with fail
  refine (sameT_self A10 A7 c10 c7 L (by omega) w10 R11.out R10.out).mono ?_
  rintro e w11 ⟨rfl, hb11⟩
  have B11 := belN B10 hb11
  go_wp2
  go_ret
  exact ⟨rfl, B11⟩

end Go.Proofs.YtjjniapamdleoaaGreatDoor
