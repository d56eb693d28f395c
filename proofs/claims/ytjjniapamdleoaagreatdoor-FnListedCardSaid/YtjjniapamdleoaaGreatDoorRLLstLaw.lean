/- The law FnListed, walked: a directory's list has all its names, each once, in the order of its entries. -/
import Derived.Test.YtjjniapamdleoaaGreatDoorRLLstD
import Derived.Test.YtjjniapamdleoaaGreatDoorRLListS
import Derived.Test.YtjjniapamdleoaaGreatDoorRLWkV3
namespace Go.Proofs.YtjjniapamdleoaaGreatDoor
open Go Go.RowKit
set_option maxHeartbeats 8000000
set_option maxRecDepth 100000

theorem bigL_any (A : Option Addr) (n cp : Nat) (w : World) :
  Calls Tryz.prog 8 #[.slice A n cp] w fun e w' => e = .returned (.bool (decide (1048576 < n))) /\ Below w.heap.size w w' := by
 by_cases h : 1048576 < n
 ·have h1 : (n : Int) > 1048576 := by omega
  have hd : decide (1048576 < n) = true := by simpa using h
  have Hd := Lib.hid hd
  go_enter Tryz.func8, Tryz.ntmps8
  go_wp2
  go_ret
  exact ⟨by first | rfl | (rw [Hd.out]; rfl), bel0 w⟩
 ·have h1 : ¬ ((n : Int) > 1048576) := by omega
  have hd : decide (1048576 < n) = false := by simpa using h
  have Hd := Lib.hid hd
  go_enter Tryz.func8, Tryz.ntmps8
  go_wp2
  go_ret
  exact ⟨by first | rfl | (rw [Hd.out]; rfl), bel0 w⟩
/-- What a list that is right says of the inodes. -/
theorem list_says {nx : Int} {xs : List InoD} {s : ByteArray} {L : List ByteArray} (h : listW ⟨nx, xs⟩ s = (L, 0)) : ∀ (q : Nat) (hq : q < xs.length), xs[q].id = (walkP ⟨nx, xs⟩ (spB s)).1 -> L = namesOf xs[q].es := by
 intro q hq hid
 have h0 : (curP ⟨nx, xs⟩ s).2 = 0 := by
  by_cases h1 : (curP ⟨nx, xs⟩ s).2 = 0
  ·exact h1
  ·rw [listW_bad h1] at h
   exact absurd (congrArg Prod.snd h) h1
 obtain ⟨hv, a, k, hk, hc, hp, _, _⟩ := cur_full h0
 have ha : a = (walkP ⟨nx, xs⟩ (spB s)).1 := by
  have h2 := hc
  unfold curP at h2
  split at h2
  ·rename_i h3
   exact absurd (congrArg Prod.snd h2) h3
  ·split at h2
   ·have h4 := congrArg Prod.snd h2
    simp at h4
   ·split at h2
    ·have h4 := congrArg (fun z => z.1.d) h2
     exact h4.symm
    ·have h4 := congrArg Prod.snd h2
     simp at h4
 have hl := listW_ok hk h0 (by rw [hc]; exact hp)
 rw [h] at hl
 have h5 : L = namesOf xs[k].es := congrArg Prod.fst hl
 have h6 : plc xs xs[q].id = (q : Int) := plc_own hv.grow hq
 have h8 : (q : Int) = (k : Int) := by rw [<- h6, <- hp, hid, ha]
 have h9 : q = k := by omega
 subst h9
 exact h5

theorem law_fnListed (A : Option Addr) (n cp : Nat) (bt : List UInt8) (w : World) (hT : Tab w) (hr : Reads w w.heap.size 1 A n (B8 bt)) :
  Calls Tryz.prog 3 #[.slice A n cp] w fun e w' => e = .returned (.bool true) /\ Below w.heap.size w w' := by
 have HT := Lib.hid hT
 have Hr := Lib.hid hr
 clear hT hr
 by_cases hbig : 1048576 < n
 ·have Hd := Lib.hid (show decide (1048576 < n) = true by simpa using hbig)
  go_enter Tryz.func3, Tryz.ntmps3
  go_wp2_with fail
  refine (bigL_any A n cp w).mono ?_
  rintro e w1 ⟨rfl, hb1⟩
  rw [Hd.out]
  go_wp2
  go_ret
  exact ⟨rfl, hb1⟩
 have Hd := Lib.hid (show decide (1048576 < n) = false by simpa using hbig)
 go_enter Tryz.func3, Tryz.ntmps3
 go_wp2_with fail
 refine (bigL_any A n cp w).mono ?_
 rintro e w1 ⟨rfl, hb1⟩
 rw [Hd.out]
 go_wp2_with fail
 refine (drawListDir_any A n cp bt (by omega) w1 ((Hr.out.below hb1).more hb1.size)).mono ?_
 rintro e w2 ⟨v, V, s, rfl, sm, _, hs, ⟨gy, c, us, rfl, y2⟩, hb2⟩
 have hsz : szV V <= 1048576 := by have := sm.sz; omega
 obtain ⟨nx, xs⟩ := V
 simp only at y2 ⊢
 have hn17 : xs.length <= 17 := sm.1
 have Sm := Lib.hid sm
 have B2 := belN hb1 hb2
 clear hb2 sm hb1
 obtain ⟨pv, hpv⟩ : ∃ q, w2.heap.size = q := ⟨_, rfl⟩
 obtain ⟨w3, hw3⟩ : ∃ W, w2.alloc (.cells #[.int .i64 nx, .slice (some ⟨gy, 0, none⟩) xs.length c] 26) = W := ⟨_, rfl⟩
 have b3 : Below w2.heap.size w2 w3 := by rw [<- hw3]; exact belA (bel0 w2) _
 have kP3 : Blk w3 pv 26 #[.int .i64 nx, .slice (some ⟨gy, 0, none⟩) xs.length c] := by rw [<- hw3, <- hpv]; exact Blk.new' _ _ _ _ rfl
 have y3 := y2.below b3
 have B3 := belN B2 b3
 have Hw3 := Lib.hid hw3
 have Hpv := Lib.hid hpv
 clear hw3 hpv b3 y2 B2
 go_upto_region 4 with fail
 try rw [Hpv.out]
 rw [Hw3.out]
 clear Hw3 Hpv
 obtain ⟨p_0, p_1⟩ := kP3.g2
 go_wp2_with fail
 refine (listDir_impl _ ⟨nx, xs⟩ hsz s (by omega) w3 (HT.out.bl B3) (y3.isC nx)).mono ?_
 rintro e w4 ⟨hb4, vL, rfl, ho4⟩
 obtain ⟨L, cc, hP⟩ : ∃ L cc, listW ⟨nx, xs⟩ s = (L, cc) := ⟨_, _, rfl⟩
 rw [hP] at ho4 ⊢
 simp only at ho4 ⊢
 have HP := Lib.hid hP
 have hLz : L.length <= 10000000 := by have := listW_len hsz s; rw [hP] at this; exact this
 clear hP
 obtain ⟨AL, cL, rfl, _⟩ := own_vals ho4
 have B4 := belN B3 hb4
 have kP4 := kP3.below hb4 kP3.lt
 have y4 := y3.below hb4
 have HL4 := Lib.hid ((rd_of ho4))
 clear p_0 p_1 kP3 y3 B3 hb4 ho4
 obtain ⟨p_0, p_1⟩ := kP4.g2
 go_wp2_with fail
 refine (listDir_spec _ ⟨nx, xs⟩ hsz s (by omega) w4 (y4.isC nx)).mono ?_
 rintro e w5 ⟨hb5, vM, rfl, _⟩
 rw [HP.out]
 simp only
 have B5 := belN B4 hb5
 have kP5 := kP4.below hb5 kP4.lt
 have y5 := y4.below hb5
 have HL5 := Lib.hid ((HL4.out.below hb5).more hb5.size)
 clear p_0 p_1 kP4 y4 B4 hb5 HL4
 have tc : (cc != cc) = false := by simp
 by_cases hc : cc = 0
 ·subst hc
  have Hls := Lib.hid (list_says HP.out)
  clear HP
  obtain ⟨p_0, p_1⟩ := kP5.g2
  go_wp2_with fail
  refine (walkV_spec _ ⟨nx, xs⟩ hsz s (by omega) w5 (y5.isC nx)).mono ?_
  rintro e w6 ⟨rfl, hb6⟩
  have B6 := belN B5 hb6
  have kP6 := kP5.below hb6 kP5.lt
  have y6 := y5.below hb6
  have HL6 := Lib.hid ((HL5.out.below hb6).more hb6.size)
  clear p_0 p_1 kP5 y5 B5 hb6 HL5
  obtain ⟨wi, hwi⟩ : ∃ z, (walkP ⟨nx, xs⟩ (spB s)).1 = z := ⟨_, rfl⟩
  rw [hwi] at Hls ⊢
  clear hwi tc
  go_wp2
  go_loopw [11] (fun i wr => ∃ q : Nat, q <= xs.length /\ i = .int .i64 q /\ Below w6.heap.size w6 wr) (fun i _ => xs.length - (intOf i).toNat)
  case atStart => exact ⟨0, Nat.zero_le _, rfl, Below.refl _ _⟩
  case round =>
   obtain ⟨q, hq, rfl, hbel⟩ := hrel
   obtain ⟨wo, hwo⟩ : ∃ W, W = wr := ⟨_, rfl⟩
   subst hwo
   have kP := kP6.below hbel kP6.lt
   have y := y6.below hbel
   have p_1 := kP.get 1 rfl
   by_cases hlt : q < xs.length
   ·have hI : (q : Int) < ((xs.length : Nat) : Int) := by omega
    have q0 : (0 : Int) <= (q : Int) := by omega
    obtain ⟨u, _, hrow, z0, z1, z2, z3, z4⟩ := y.at_ hlt
    obtain ⟨A3, c3, rfl, _⟩ := own_vals hrow
    have hls := Hls.out q hlt
    obtain ⟨x, hx⟩ : ∃ x, xs[q] = x := ⟨_, rfl⟩
    rw [hx] at hrow z0 z1 z2 z3 z4 hls
    clear hx
    obtain ⟨xi, xk, xl, xt, es⟩ := x
    simp only at hrow z0 z1 z2 z3 z4 hls
    have Hls2 := Lib.hid hls
    obtain ⟨m, hm⟩ : ∃ m, es.length = m := ⟨_, rfl⟩
    rw [hm] at z4 hrow
    have Hm := Lib.hid hm
    have Hrow := Lib.hid (rd_of hrow)
    clear hrow hm hls
    obtain ⟨W2, hW2⟩ : ∃ W, wo.alloc (.cells #[.int .i64 xi, .int .i64 xk, .int .i64 xl, .string xt, .slice A3 m c3] 36) = W := ⟨_, rfl⟩
    have b2 : Below wo.heap.size wo W2 := by rw [<- hW2]; exact belA (bel0 wo) _
    have kE : Blk W2 wo.heap.size 36 #[.int .i64 xi, .int .i64 xk, .int .i64 xl, .string xt, .slice A3 m c3] := by rw [<- hW2]; exact Blk.new' _ _ _ _ rfl
    have HW2 := Lib.hid hW2
    clear hW2
    go_upto_region 15 with fail
    rw [HW2.out]
    clear HW2 z0 z1 z2 z3 z4 p_1
    have bw2 : Below w6.heap.size w6 W2 := hbel.trans (b2.mono hbel.size)
    have e_0 := kE.get 0 rfl
    have e_4 := kE.get 4 rfl
    by_cases hid : xi = wi
    ·have t15 : (xi != wi) = false := by simpa using hid
     have hLn := Hls2.out hid
     have HLn := Lib.hid hLn
     have hlen : L.length = m := by rw [hLn, names_len]; exact Hm.out
     have t16 : (((L.length : Nat) : Int) != ((m : Nat) : Int)) = false := by rw [hlen]; simp
     have Hlen := Lib.hid hlen
     clear hid hLn hlen
     go_wp2
     go_loopw [13] (fun i wr => ∃ k : Nat, k <= L.length /\ i = .int .i64 k /\ Below W2.heap.size W2 wr) (fun i _ => L.length - (intOf i).toNat)
     case atStart => exact ⟨0, Nat.zero_le _, rfl, Below.refl _ _⟩
     case round =>
      obtain ⟨k, hk, rfl, hb⟩ := hrel
      have kE2 := kE.below hb kE.lt
      have e_4 := kE2.get 4 rfl
      by_cases hk2 : k < L.length
      ·have hK : (k : Int) < ((L.length : Nat) : Int) := by omega
       have k0 : (0 : Int) <= (k : Int) := by omega
       have hKm : (k : Int) < ((m : Nat) : Int) := by have := Hlen.out; omega
       have bwo : Below w6.heap.size w6 wr := bw2.trans (hb.mono bw2.size)
       obtain ⟨hkL, bL, oL, hAL, _, zl⟩ := reads_strF (HL6.out.below bwo) hk2
       subst hAL
       obtain ⟨hkE, b4, o4, hA4, _, _, _, ze, _⟩ := reads_ent (Hrow.out.below (b2.trans (hb.mono b2.size))) (show k < m by omega)
       subst hA4
       have hsame : es[k].s = L[k] := by
        have h1 := HLn.out
        subst h1
        simp [namesOf]
       rw [hsame] at ze
       obtain ⟨nme, hnme⟩ : ∃ z, L[k] = z := ⟨_, rfl⟩
       rw [hnme] at zl ze
       clear hsame hnme
       go_upto_region 21 with fail
       go_region
       go_wp2_with fail
       go_roundw
       case rel => exact ⟨k + 1, by omega, by go_num, hb.drew⟩
       case measure => simp [intOf]; omega
      ·obtain rfl : k = L.length := by omega
       have hK : ¬ (((L.length : Nat) : Int) < ((L.length : Nat) : Int)) := by omega
       go_wp2
       go_roundw
       case rel => exact ⟨q + 1, by omega, by go_num, bw2.trans (hb.mono bw2.size)⟩
       case measure => simp [intOf]; omega
    ·have t15 : (xi != wi) = true := by simpa using hid
     clear hid
     go_wp2
     go_roundw
     case rel => exact ⟨q + 1, by omega, by go_num, bw2⟩
     case measure => simp [intOf]; omega
   ·obtain rfl : q = xs.length := by omega
    have hI : ¬ (((xs.length : Nat) : Int) < ((xs.length : Nat) : Int)) := by omega
    go_wp2
    go_ret
    exact ⟨rfl, belN B6 hbel⟩
 ·have tz : (cc != 0) = true := by simpa using hc
  have hL0 : L = [] := by
   have h0 := HP.out
   by_cases h1 : (curP ⟨nx, xs⟩ s).2 = 0
   ·unfold listW at h0; rw [if_pos h1] at h0; exact absurd (congrArg Prod.snd h0).symm hc
   ·rw [listW_bad h1] at h0; exact (congrArg Prod.fst h0).symm
  subst hL0
  clear hc
  go_wp2
  go_ret
  exact ⟨rfl, B5⟩

end Go.Proofs.YtjjniapamdleoaaGreatDoor
