/- The law of BookFall: what the program's BookFall gives is what the reference's gives, in new memory. The table of known signs is held as the program's text lays it. -/
import Derived.Test.YthdbomkddpnhaaaGreatDoorFallL
import Derived.Test.YthdbomkddpnhaaaGreatDoorFrameV
import Derived.Test.YthdbomkddpnhaaaGreatDoorFrameD
import Derived.Deep.RegionHeld3
namespace Go.Proofs.YthdbomkddpnhaaaGreatDoor
open Go Go.RowKit Go.ChangeShapes Go.WideShapes Go.ChangeAt Go.Joins
theorem Blk.betw {w w' : World} {lo hi g : Nat} {t : TypeId} {cs : Array Value} (h : Blk w g t cs) (hb : Betw lo hi w w') (hd : g < lo ∨ hi ≤ g) : Blk w' g t cs := (hb.block g h.lt hd).trans h
set_option maxRecDepth 100000 in
set_option maxHeartbeats 8000000 in
theorem law_fnExactBookFall (va : Value) (B : BookD) (hza : BookBig B) (_hna : True) (mk : Int) (hmk : mk ≤ 9223372036854775807) (w : World) (hT : Tab w) (ha : IsBook w va B) :
    Calls Tryz.prog 6 #[va, .int .i64 mk] w fun e w' => e = .returned (.bool true) ∧ Below w.heap.size w w' := by
  have HT0 := Lib.hid hT
  clear hT
  obtain ⟨a1, ac1, a2, ac2, a3, ac3, a4, ac4, rfl, ha'⟩ := ha
  have HA := Lib.hid (show IsBook w (.agg #[.slice a1 B.rg.length ac1, .slice a2 B.hm.length ac2, .slice a3 B.pd.length ac3, .slice a4 B.dr.length ac4, .int .i64 B.sq, .int .i64 B.bs, .int .i64 B.sf, .int .i64 B.at_, .int .i64 B.df]) B from ⟨_, _, _, _, _, _, _, _, rfl, ha'⟩)
  have Hza := Lib.hid hza
  clear ha' hza
  go_enter Tryz.func6, Tryz.ntmps6
  go_wp2_with fail
  obtain ⟨w1, hw1⟩ : ∃ W, w.alloc (.cells #[.slice a1 B.rg.length ac1, .slice a2 B.hm.length ac2, .slice a3 B.pd.length ac3, .slice a4 B.dr.length ac4, .int .i64 B.sq, .int .i64 B.bs, .int .i64 B.sf, .int .i64 B.at_, .int .i64 B.df] 45) = W := ⟨_, rfl⟩
  have hb1 : Below w.heap.size w w1 := by rw [← hw1]; exact belA (bel0 w) _
  have hO : Blk w1 w.heap.size 45 #[.slice a1 B.rg.length ac1, .slice a2 B.hm.length ac2, .slice a3 B.pd.length ac3, .slice a4 B.dr.length ac4, .int .i64 B.sq, .int .i64 B.bs, .int .i64 B.sf, .int .i64 B.at_, .int .i64 B.df] := by rw [← hw1]; exact Blk.new' _ _ _ _ rfl
  have ga : w.heap.size < w1.heap.size := hO.lt
  rw [hw1]
  clear hw1
  have B1 := hb1
  have z1 := hb1.size
  have Ka1 := Lib.hid hO
  clear hO
  have HA1 := Lib.hid (HA.out.next hb1)
  have HA0 := Lib.hid HA.out
  clear HA
  refine (szBk_is _ B Hza.out trivial 1048576 (by omega) (by omega) _ HA1.out).mono ?_
  rintro e w2 ⟨r, rfl, hr, hb2⟩
  have B2 := belN B1 hb2
  have z2 := hb2.size
  have Ka2 := Lib.hid (Ka1.out.below hb2 Ka1.out.lt)
  clear Ka1
  have HA2 := Lib.hid (HA1.out.next hb2)
  clear HA1
  by_cases neg : r < 0
  · go_wp2
    go_ret
    exact ⟨rfl, B2⟩
  have sm : szBk B ≤ 1048576 := by omega
  clear hr Hza
  obtain ⟨F, fb, hP⟩ : ∃ F fb, fallP B mk = (F, fb) := ⟨_, _, rfl⟩
  have HP := Lib.hid hP
  have hsmF := fall_small sm hP
  have hlF : F.rg.length ≤ 10000000 ∧ F.hm.length ≤ 10000000 ∧ F.pd.length ≤ 10000000 ∧ F.dr.length ≤ 10000000 := by obtain ⟨q1, q2, q3, q4⟩ := hsmF; omega
  have hcF : 0 ≤ cntBk F := by unfold cntBk; omega
  have hlB := bk_len sm
  have hsB : BkSmall B := ⟨by have := szT_len B.rg; unfold szBk at sm; omega, by have := szT_len B.hm; unfold szBk at sm; omega, by have := szW_len B.pd; unfold szBk at sm; omega, by have := szS_n B.dr; unfold szBk at sm; omega⟩
  have hcB : 0 ≤ cntBk B := by unfold cntBk; omega
  obtain ⟨mF, hmF⟩ : ∃ m : Int, 1 + cntBk F = m := ⟨_, rfl⟩
  have hmF0 : ¬ mF < 0 := by omega
  obtain ⟨mB, hmB⟩ : ∃ m : Int, 1 + cntBk B = m := ⟨_, rfl⟩
  have hmB0 : ¬ mB < 0 := by omega
  have HhmF := Lib.hid hmF
  have HhmB := Lib.hid hmB
  have HhsmF := Lib.hid hsmF
  have HhlF := Lib.hid hlF
  have HhsB := Lib.hid hsB
  clear hP hmF hmB hsmF hlF hsB hcF hcB hlB
  have cKa0 := Ka2.out.get 0 rfl
  have cKa1 := Ka2.out.get 1 rfl
  have cKa2 := Ka2.out.get 2 rfl
  have cKa3 := Ka2.out.get 3 rfl
  have cKa4 := Ka2.out.get 4 rfl
  have cKa5 := Ka2.out.get 5 rfl
  have cKa6 := Ka2.out.get 6 rfl
  have cKa7 := Ka2.out.get 7 rfl
  have cKa8 := Ka2.out.get 8 rfl
  have lKa := Ka2.out.lt
  go_wp2_with fail
  clear cKa0 cKa1 cKa2 cKa3 cKa4 cKa5 cKa6 cKa7 cKa8 lKa
  refine (toBk_is _ B sm _ HA2.out).mono ?_
  rintro e w3 ⟨y, rfl, hIy, hb3⟩
  have B3 := belN B2 hb3
  have z3 := hb3.size
  have Ka3 := Lib.hid (Ka2.out.below hb3 Ka2.out.lt)
  clear Ka2
  have HA3 := Lib.hid (HA2.out.next hb3)
  clear HA2
  have Iy3 := Lib.hid hIy
  clear hIy
  have cKa0 := Ka3.out.get 0 rfl
  have cKa1 := Ka3.out.get 1 rfl
  have cKa2 := Ka3.out.get 2 rfl
  have cKa3 := Ka3.out.get 3 rfl
  have cKa4 := Ka3.out.get 4 rfl
  have cKa5 := Ka3.out.get 5 rfl
  have cKa6 := Ka3.out.get 6 rfl
  have cKa7 := Ka3.out.get 7 rfl
  have cKa8 := Ka3.out.get 8 rfl
  have lKa := Ka3.out.lt
  go_wp2_with fail
  clear cKa0 cKa1 cKa2 cKa3 cKa4 cKa5 cKa6 cKa7 cKa8 lKa
  refine (fall_spec y B sm mk hmk HP.out _ Iy3.out).mono ?_
  rintro e w4 ⟨p, lop, upp, rfl, hlop, hp, hb4⟩
  have B4 := belN B3 hb4
  have z4 := hb4.size
  have Ka4 := Lib.hid (Ka3.out.below hb4 Ka3.out.lt)
  clear Ka3
  have HA4 := Lib.hid (HA3.out.next hb4)
  clear HA3
  have Iy4 := Lib.hid (Iy3.out.next hb4)
  clear Iy3
  obtain ⟨_, _, _, _, ⟨p1, pc1, p2, pc2, p3, pc3, p4, pc4, rfl, rfl, rfl, rfl, rfl⟩, _⟩ := BkH.of hp
  have hupp := hp.1
  have Np4 := Lib.hid hp
  clear hp
  have cKa0 := Ka4.out.get 0 rfl
  have cKa1 := Ka4.out.get 1 rfl
  have cKa2 := Ka4.out.get 2 rfl
  have cKa3 := Ka4.out.get 3 rfl
  have cKa4 := Ka4.out.get 4 rfl
  have cKa5 := Ka4.out.get 5 rfl
  have cKa6 := Ka4.out.get 6 rfl
  have cKa7 := Ka4.out.get 7 rfl
  have cKa8 := Ka4.out.get 8 rfl
  have lKa := Ka4.out.lt
  go_wp2_with fail
  clear cKa0 cKa1 cKa2 cKa3 cKa4 cKa5 cKa6 cKa7 cKa8 lKa
  obtain ⟨w5, hw5⟩ : ∃ W, w4.alloc (.cells #[.slice p1 F.rg.length pc1, .slice p2 F.hm.length pc2, .slice p3 F.pd.length pc3, .slice p4 F.dr.length pc4, .int .i64 F.sq, .int .i64 F.bs, .int .i64 F.sf, .int .i64 F.at_, .int .i64 F.df] 50) = W := ⟨_, rfl⟩
  have hb5 : Below w4.heap.size w4 w5 := by rw [← hw5]; exact belA (bel0 _) _
  have hO : Blk w5 w4.heap.size 50 #[.slice p1 F.rg.length pc1, .slice p2 F.hm.length pc2, .slice p3 F.pd.length pc3, .slice p4 F.dr.length pc4, .int .i64 F.sq, .int .i64 F.bs, .int .i64 F.sf, .int .i64 F.at_, .int .i64 F.df] := by rw [← hw5]; exact Blk.new' _ _ _ _ rfl
  have gp : w4.heap.size < w5.heap.size := hO.lt
  rw [hw5]
  clear hw5
  have B5 := belN B4 hb5
  have z5 := hb5.size
  have Ka5 := Lib.hid (Ka4.out.below hb5 Ka4.out.lt)
  clear Ka4
  have HA5 := Lib.hid (HA4.out.next hb5)
  clear HA4
  have Iy5 := Lib.hid (Iy4.out.next hb5)
  clear Iy4
  have Np5 := Lib.hid (Np4.out.next hb5)
  clear Np4
  have Kp5 := Lib.hid hO
  clear hO
  clear Iy5
  refine (toBk_in _ B sm _ HA5.out).mono ?_
  rintro e w6 ⟨x, lox, upx, rfl, hlox, hx, hb6⟩
  have B6 := belN B5 hb6
  have z6 := hb6.size
  have Ka6 := Lib.hid (Ka5.out.below hb6 Ka5.out.lt)
  clear Ka5
  have HA6 := Lib.hid (HA5.out.next hb6)
  clear HA5
  have Np6 := Lib.hid (Np5.out.next hb6)
  clear Np5
  have Kp6 := Lib.hid (Kp5.out.below hb6 Kp5.out.lt)
  clear Kp5
  obtain ⟨_, _, _, _, ⟨x1, xc1, x2, xc2, x3, xc3, x4, xc4, rfl, rfl, rfl, rfl, rfl⟩, _⟩ := BkH.of hx
  have hupx := hx.1
  have Nx6 := Lib.hid hx
  clear hx
  have cKa0 := Ka6.out.get 0 rfl
  have cKa1 := Ka6.out.get 1 rfl
  have cKa2 := Ka6.out.get 2 rfl
  have cKa3 := Ka6.out.get 3 rfl
  have cKa4 := Ka6.out.get 4 rfl
  have cKa5 := Ka6.out.get 5 rfl
  have cKa6 := Ka6.out.get 6 rfl
  have cKa7 := Ka6.out.get 7 rfl
  have cKa8 := Ka6.out.get 8 rfl
  have lKa := Ka6.out.lt
  have cKp0 := Kp6.out.get 0 rfl
  have cKp1 := Kp6.out.get 1 rfl
  have cKp2 := Kp6.out.get 2 rfl
  have cKp3 := Kp6.out.get 3 rfl
  have cKp4 := Kp6.out.get 4 rfl
  have cKp5 := Kp6.out.get 5 rfl
  have cKp6 := Kp6.out.get 6 rfl
  have cKp7 := Kp6.out.get 7 rfl
  have cKp8 := Kp6.out.get 8 rfl
  have lKp := Kp6.out.lt
  go_wp2_with fail
  clear cKa0 cKa1 cKa2 cKa3 cKa4 cKa5 cKa6 cKa7 cKa8 lKa
  clear cKp0 cKp1 cKp2 cKp3 cKp4 cKp5 cKp6 cKp7 cKp8 lKp
  obtain ⟨w7, hw7⟩ : ∃ W, w6.alloc (.cells #[.slice x1 B.rg.length xc1, .slice x2 B.hm.length xc2, .slice x3 B.pd.length xc3, .slice x4 B.dr.length xc4, .int .i64 B.sq, .int .i64 B.bs, .int .i64 B.sf, .int .i64 B.at_, .int .i64 B.df] 50) = W := ⟨_, rfl⟩
  have hb7 : Below w6.heap.size w6 w7 := by rw [← hw7]; exact belA (bel0 _) _
  have hO : Blk w7 w6.heap.size 50 #[.slice x1 B.rg.length xc1, .slice x2 B.hm.length xc2, .slice x3 B.pd.length xc3, .slice x4 B.dr.length xc4, .int .i64 B.sq, .int .i64 B.bs, .int .i64 B.sf, .int .i64 B.at_, .int .i64 B.df] := by rw [← hw7]; exact Blk.new' _ _ _ _ rfl
  have gx : w6.heap.size < w7.heap.size := hO.lt
  rw [hw7]
  clear hw7
  have B7 := belN B6 hb7
  have z7 := hb7.size
  have Ka7 := Lib.hid (Ka6.out.below hb7 Ka6.out.lt)
  clear Ka6
  have HA7 := Lib.hid (HA6.out.next hb7)
  clear HA6
  have Np7 := Lib.hid (Np6.out.next hb7)
  clear Np6
  have Kp7 := Lib.hid (Kp6.out.below hb7 Kp6.out.lt)
  clear Kp6
  have Nx7 := Lib.hid (Nx6.out.next hb7)
  clear Nx6
  have Kx7 := Lib.hid hO
  clear hO
  refine (fall_impl (.agg #[.slice x1 B.rg.length xc1, .slice x2 B.hm.length xc2, .slice x3 B.pd.length xc3, .slice x4 B.dr.length xc4, .int .i64 B.sq, .int .i64 B.bs, .int .i64 B.sf, .int .i64 B.at_, .int .i64 B.df]) B sm mk hmk HP.out _ (HT0.out.bl B7) Nx7.out.is.isBk).mono ?_
  rintro e w8 ⟨g, log, upg, rfl, hlog, hg, hb8⟩
  have B8 := belN B7 hb8
  have z8 := hb8.size
  have Ka8 := Lib.hid (Ka7.out.below hb8 Ka7.out.lt)
  clear Ka7
  have HA8 := Lib.hid (HA7.out.next hb8)
  clear HA7
  have Np8 := Lib.hid (Np7.out.next hb8)
  clear Np7
  have Kp8 := Lib.hid (Kp7.out.below hb8 Kp7.out.lt)
  clear Kp7
  have Nx8 := Lib.hid (Nx7.out.next hb8)
  clear Nx7
  have Kx8 := Lib.hid (Kx7.out.below hb8 Kx7.out.lt)
  clear Kx7
  obtain ⟨_, _, _, _, ⟨g1, gc1, g2, gc2, g3, gc3, g4, gc4, rfl, rfl, rfl, rfl, rfl⟩, _⟩ := BkH.of hg
  have hupg := hg.1
  have Ng8 := Lib.hid hg
  clear hg
  have cKa0 := Ka8.out.get 0 rfl
  have cKa1 := Ka8.out.get 1 rfl
  have cKa2 := Ka8.out.get 2 rfl
  have cKa3 := Ka8.out.get 3 rfl
  have cKa4 := Ka8.out.get 4 rfl
  have cKa5 := Ka8.out.get 5 rfl
  have cKa6 := Ka8.out.get 6 rfl
  have cKa7 := Ka8.out.get 7 rfl
  have cKa8 := Ka8.out.get 8 rfl
  have lKa := Ka8.out.lt
  have cKp0 := Kp8.out.get 0 rfl
  have cKp1 := Kp8.out.get 1 rfl
  have cKp2 := Kp8.out.get 2 rfl
  have cKp3 := Kp8.out.get 3 rfl
  have cKp4 := Kp8.out.get 4 rfl
  have cKp5 := Kp8.out.get 5 rfl
  have cKp6 := Kp8.out.get 6 rfl
  have cKp7 := Kp8.out.get 7 rfl
  have cKp8 := Kp8.out.get 8 rfl
  have lKp := Kp8.out.lt
  have cKx0 := Kx8.out.get 0 rfl
  have cKx1 := Kx8.out.get 1 rfl
  have cKx2 := Kx8.out.get 2 rfl
  have cKx3 := Kx8.out.get 3 rfl
  have cKx4 := Kx8.out.get 4 rfl
  have cKx5 := Kx8.out.get 5 rfl
  have cKx6 := Kx8.out.get 6 rfl
  have cKx7 := Kx8.out.get 7 rfl
  have cKx8 := Kx8.out.get 8 rfl
  have lKx := Kx8.out.lt
  go_wp2_with fail
  clear cKa0 cKa1 cKa2 cKa3 cKa4 cKa5 cKa6 cKa7 cKa8 lKa
  clear cKp0 cKp1 cKp2 cKp3 cKp4 cKp5 cKp6 cKp7 cKp8 lKp
  clear cKx0 cKx1 cKx2 cKx3 cKx4 cKx5 cKx6 cKx7 cKx8 lKx
  obtain ⟨w9, hw9⟩ : ∃ W, w8.alloc (.cells #[.slice g1 F.rg.length gc1, .slice g2 F.hm.length gc2, .slice g3 F.pd.length gc3, .slice g4 F.dr.length gc4, .int .i64 F.sq, .int .i64 F.bs, .int .i64 F.sf, .int .i64 F.at_, .int .i64 F.df] 50) = W := ⟨_, rfl⟩
  have hb9 : Below w8.heap.size w8 w9 := by rw [← hw9]; exact belA (bel0 _) _
  have hO : Blk w9 w8.heap.size 50 #[.slice g1 F.rg.length gc1, .slice g2 F.hm.length gc2, .slice g3 F.pd.length gc3, .slice g4 F.dr.length gc4, .int .i64 F.sq, .int .i64 F.bs, .int .i64 F.sf, .int .i64 F.at_, .int .i64 F.df] := by rw [← hw9]; exact Blk.new' _ _ _ _ rfl
  have gg : w8.heap.size < w9.heap.size := hO.lt
  rw [hw9]
  clear hw9
  have B9 := belN B8 hb9
  have z9 := hb9.size
  have Ka9 := Lib.hid (Ka8.out.below hb9 Ka8.out.lt)
  clear Ka8
  have HA9 := Lib.hid (HA8.out.next hb9)
  clear HA8
  have Np9 := Lib.hid (Np8.out.next hb9)
  clear Np8
  have Kp9 := Lib.hid (Kp8.out.below hb9 Kp8.out.lt)
  clear Kp8
  have Nx9 := Lib.hid (Nx8.out.next hb9)
  clear Nx8
  have Kx9 := Lib.hid (Kx8.out.below hb9 Kx8.out.lt)
  clear Kx8
  have Ng9 := Lib.hid (Ng8.out.next hb9)
  clear Ng8
  have Kg9 := Lib.hid hO
  clear hO
  refine (eqBk_len (.agg #[.slice g1 F.rg.length gc1, .slice g2 F.hm.length gc2, .slice g3 F.pd.length gc3, .slice g4 F.dr.length gc4, .int .i64 F.sq, .int .i64 F.bs, .int .i64 F.sf, .int .i64 F.at_, .int .i64 F.df]) (.agg #[.slice p1 F.rg.length pc1, .slice p2 F.hm.length pc2, .slice p3 F.pd.length pc3, .slice p4 F.dr.length pc4, .int .i64 F.sq, .int .i64 F.bs, .int .i64 F.sf, .int .i64 F.at_, .int .i64 F.df]) F HhlF.out _ Ng9.out.is.isBk Np9.out.is.isBk).mono ?_
  rintro e w10 ⟨rfl, hb10⟩
  have B10 := belN B9 hb10
  have z10 := hb10.size
  have Ka10 := Lib.hid (Ka9.out.below hb10 Ka9.out.lt)
  clear Ka9
  have HA10 := Lib.hid (HA9.out.next hb10)
  clear HA9
  have Np10 := Lib.hid (Np9.out.next hb10)
  clear Np9
  have Kp10 := Lib.hid (Kp9.out.below hb10 Kp9.out.lt)
  clear Kp9
  have Nx10 := Lib.hid (Nx9.out.next hb10)
  clear Nx9
  have Kx10 := Lib.hid (Kx9.out.below hb10 Kx9.out.lt)
  clear Kx9
  have Ng10 := Lib.hid (Ng9.out.next hb10)
  clear Ng9
  have Kg10 := Lib.hid (Kg9.out.below hb10 Kg9.out.lt)
  clear Kg9
  have cKa0 := Ka10.out.get 0 rfl
  have cKa1 := Ka10.out.get 1 rfl
  have cKa2 := Ka10.out.get 2 rfl
  have cKa3 := Ka10.out.get 3 rfl
  have cKa4 := Ka10.out.get 4 rfl
  have cKa5 := Ka10.out.get 5 rfl
  have cKa6 := Ka10.out.get 6 rfl
  have cKa7 := Ka10.out.get 7 rfl
  have cKa8 := Ka10.out.get 8 rfl
  have lKa := Ka10.out.lt
  have cKp0 := Kp10.out.get 0 rfl
  have cKp1 := Kp10.out.get 1 rfl
  have cKp2 := Kp10.out.get 2 rfl
  have cKp3 := Kp10.out.get 3 rfl
  have cKp4 := Kp10.out.get 4 rfl
  have cKp5 := Kp10.out.get 5 rfl
  have cKp6 := Kp10.out.get 6 rfl
  have cKp7 := Kp10.out.get 7 rfl
  have cKp8 := Kp10.out.get 8 rfl
  have lKp := Kp10.out.lt
  have cKx0 := Kx10.out.get 0 rfl
  have cKx1 := Kx10.out.get 1 rfl
  have cKx2 := Kx10.out.get 2 rfl
  have cKx3 := Kx10.out.get 3 rfl
  have cKx4 := Kx10.out.get 4 rfl
  have cKx5 := Kx10.out.get 5 rfl
  have cKx6 := Kx10.out.get 6 rfl
  have cKx7 := Kx10.out.get 7 rfl
  have cKx8 := Kx10.out.get 8 rfl
  have lKx := Kx10.out.lt
  have cKg0 := Kg10.out.get 0 rfl
  have cKg1 := Kg10.out.get 1 rfl
  have cKg2 := Kg10.out.get 2 rfl
  have cKg3 := Kg10.out.get 3 rfl
  have cKg4 := Kg10.out.get 4 rfl
  have cKg5 := Kg10.out.get 5 rfl
  have cKg6 := Kg10.out.get 6 rfl
  have cKg7 := Kg10.out.get 7 rfl
  have cKg8 := Kg10.out.get 8 rfl
  have lKg := Kg10.out.lt
  go_wp2_with fail
  clear cKp0 cKp1 cKp2 cKp3 cKp4 cKp5 cKp6 cKp7 cKp8 lKp
  clear cKg0 cKg1 cKg2 cKg3 cKg4 cKg5 cKg6 cKg7 cKg8 lKg
  go_region_held3 (fun w' => w'.cell? ⟨w.heap.size, 0, none⟩ = some (.slice a1 B.rg.length ac1) ∧ w'.cell? ⟨w.heap.size, 1, none⟩ = some (.slice a2 B.hm.length ac2) ∧ w'.cell? ⟨w.heap.size, 2, none⟩ = some (.slice a3 B.pd.length ac3) ∧ w'.cell? ⟨w.heap.size, 3, none⟩ = some (.slice a4 B.dr.length ac4) ∧ w'.cell? ⟨w.heap.size, 4, none⟩ = some (.int .i64 B.sq) ∧ w'.cell? ⟨w.heap.size, 5, none⟩ = some (.int .i64 B.bs) ∧ w'.cell? ⟨w.heap.size, 6, none⟩ = some (.int .i64 B.sf) ∧ w'.cell? ⟨w.heap.size, 7, none⟩ = some (.int .i64 B.at_) ∧ w'.cell? ⟨w.heap.size, 8, none⟩ = some (.int .i64 B.df) ∧ w'.cell? ⟨w6.heap.size, 0, none⟩ = some (.slice x1 B.rg.length xc1) ∧ w'.cell? ⟨w6.heap.size, 1, none⟩ = some (.slice x2 B.hm.length xc2) ∧ w'.cell? ⟨w6.heap.size, 2, none⟩ = some (.slice x3 B.pd.length xc3) ∧ w'.cell? ⟨w6.heap.size, 3, none⟩ = some (.slice x4 B.dr.length xc4) ∧ w'.cell? ⟨w6.heap.size, 4, none⟩ = some (.int .i64 B.sq) ∧ w'.cell? ⟨w6.heap.size, 5, none⟩ = some (.int .i64 B.bs) ∧ w'.cell? ⟨w6.heap.size, 6, none⟩ = some (.int .i64 B.sf) ∧ w'.cell? ⟨w6.heap.size, 7, none⟩ = some (.int .i64 B.at_) ∧ w'.cell? ⟨w6.heap.size, 8, none⟩ = some (.int .i64 B.df))
    (first | go_keep | (refine ⟨keep1 hb12 ?_, keep1 hb12 ?_, keep1 hb12 ?_, keep1 hb12 ?_, keep1 hb12 ?_, keep1 hb12 ?_, keep1 hb12 ?_, keep1 hb12 ?_, keep1 hb12 ?_, keep1 hb12 ?_, keep1 hb12 ?_, keep1 hb12 ?_, keep1 hb12 ?_, keep1 hb12 ?_, keep1 hb12 ?_, keep1 hb12 ?_, keep1 hb12 ?_, keep1 hb12 ?_⟩ <;> go_keep) | (refine ⟨keep1 hb11 ?_, keep1 hb11 ?_, keep1 hb11 ?_, keep1 hb11 ?_, keep1 hb11 ?_, keep1 hb11 ?_, keep1 hb11 ?_, keep1 hb11 ?_, keep1 hb11 ?_, keep1 hb11 ?_, keep1 hb11 ?_, keep1 hb11 ?_, keep1 hb11 ?_, keep1 hb11 ?_, keep1 hb11 ?_, keep1 hb11 ?_, keep1 hb11 ?_, keep1 hb11 ?_⟩ <;> go_keep))
    (first
      | (go_at_call 27; refine (toBk_is _ B sm _ (HA10.out.next (bel0 w10).drew)).mono ?_; rintro e w11 ⟨u, rfl, hIu, hb11⟩)
      | (go_at_call 29; refine (eqBk_is (.agg #[.slice x1 B.rg.length xc1, .slice x2 B.hm.length xc2, .slice x3 B.pd.length xc3, .slice x4 B.dr.length xc4, .int .i64 B.sq, .int .i64 B.bs, .int .i64 B.sf, .int .i64 B.at_, .int .i64 B.df]) u B sm _ ((Nx10.out.is.isBk.next (bel0 w10).drew).next hb11) hIu).mono ?_; rintro e w12 ⟨rfl, hb12⟩))
  clear cKa0 cKa1 cKa2 cKa3 cKa4 cKa5 cKa6 cKa7 cKa8 lKa
  clear cKx0 cKx1 cKx2 cKx3 cKx4 cKx5 cKx6 cKx7 cKx8 lKx
  have hbq : Below w10.heap.size w10 w12 := ((bel0 w10).drew.trans hb11).trans (hb12.mono hb11.size)
  have B12 := belN B10 hbq
  have z12 := hbq.size
  have Ka12 := Lib.hid (Ka10.out.below hbq Ka10.out.lt)
  clear Ka10
  have HA12 := Lib.hid (HA10.out.next hbq)
  clear HA10
  have Np12 := Lib.hid (Np10.out.next hbq)
  clear Np10
  have Kp12 := Lib.hid (Kp10.out.below hbq Kp10.out.lt)
  clear Kp10
  have Nx12 := Lib.hid (Nx10.out.next hbq)
  clear Nx10
  have Kx12 := Lib.hid (Kx10.out.below hbq Kx10.out.lt)
  clear Kx10
  have Ng12 := Lib.hid (Ng10.out.next hbq)
  clear Ng10
  have Kg12 := Lib.hid (Kg10.out.below hbq Kg10.out.lt)
  clear Kg10
  have cKa0 := Ka12.out.get 0 rfl
  have cKa1 := Ka12.out.get 1 rfl
  have cKa2 := Ka12.out.get 2 rfl
  have cKa3 := Ka12.out.get 3 rfl
  have cKa4 := Ka12.out.get 4 rfl
  have cKa5 := Ka12.out.get 5 rfl
  have cKa6 := Ka12.out.get 6 rfl
  have cKa7 := Ka12.out.get 7 rfl
  have cKa8 := Ka12.out.get 8 rfl
  have lKa := Ka12.out.lt
  have cKp0 := Kp12.out.get 0 rfl
  have cKp1 := Kp12.out.get 1 rfl
  have cKp2 := Kp12.out.get 2 rfl
  have cKp3 := Kp12.out.get 3 rfl
  have cKp4 := Kp12.out.get 4 rfl
  have cKp5 := Kp12.out.get 5 rfl
  have cKp6 := Kp12.out.get 6 rfl
  have cKp7 := Kp12.out.get 7 rfl
  have cKp8 := Kp12.out.get 8 rfl
  have lKp := Kp12.out.lt
  have cKx0 := Kx12.out.get 0 rfl
  have cKx1 := Kx12.out.get 1 rfl
  have cKx2 := Kx12.out.get 2 rfl
  have cKx3 := Kx12.out.get 3 rfl
  have cKx4 := Kx12.out.get 4 rfl
  have cKx5 := Kx12.out.get 5 rfl
  have cKx6 := Kx12.out.get 6 rfl
  have cKx7 := Kx12.out.get 7 rfl
  have cKx8 := Kx12.out.get 8 rfl
  have lKx := Kx12.out.lt
  have cKg0 := Kg12.out.get 0 rfl
  have cKg1 := Kg12.out.get 1 rfl
  have cKg2 := Kg12.out.get 2 rfl
  have cKg3 := Kg12.out.get 3 rfl
  have cKg4 := Kg12.out.get 4 rfl
  have cKg5 := Kg12.out.get 5 rfl
  have cKg6 := Kg12.out.get 6 rfl
  have cKg7 := Kg12.out.get 7 rfl
  have cKg8 := Kg12.out.get 8 rfl
  have lKg := Kg12.out.lt
  go_wp2_with fail
  clear cKa0 cKa1 cKa2 cKa3 cKa4 cKa5 cKa6 cKa7 cKa8 lKa
  clear cKp0 cKp1 cKp2 cKp3 cKp4 cKp5 cKp6 cKp7 cKp8 lKp
  clear cKx0 cKx1 cKx2 cKx3 cKx4 cKx5 cKx6 cKx7 cKx8 lKx
  clear cKg0 cKg1 cKg2 cKg3 cKg4 cKg5 cKg6 cKg7 cKg8 lKg
  refine (markBk_in (.agg #[.slice x1 B.rg.length xc1, .slice x2 B.hm.length xc2, .slice x3 B.pd.length xc3, .slice x4 B.dr.length xc4, .int .i64 B.sq, .int .i64 B.bs, .int .i64 B.sf, .int .i64 B.at_, .int .i64 B.df]) B HhsB.out 1 (by omega) (by omega) _ _ _ Nx12.out).mono ?_
  rintro e w13 ⟨rfl, hN13, hbt13⟩
  have z13 := hbt13.size
  have B13 := B12.trans (hbt13.bel (by omega) (by omega))
  have Ka13 := Lib.hid (Ka12.out.betw hbt13 (by omega))
  clear Ka12
  have HA13 := Lib.hid (HA0.out.next B13)
  clear HA12
  have Np13 := Lib.hid (Np12.out.betw hbt13 (by omega))
  clear Np12
  have Kp13 := Lib.hid (Kp12.out.betw hbt13 (by omega))
  clear Kp12
  have Kx13 := Lib.hid (Kx12.out.betw hbt13 (by omega))
  clear Kx12
  have Ng13 := Lib.hid (Ng12.out.betw hbt13 (by omega))
  clear Ng12
  have Kg13 := Lib.hid (Kg12.out.betw hbt13 (by omega))
  clear Kg12
  have Nx13 := Lib.hid hN13
  clear Nx12 hN13
  rw [HhmB.out]
  clear Nx13
  clear Kx13
  have cKa0 := Ka13.out.get 0 rfl
  have cKa1 := Ka13.out.get 1 rfl
  have cKa2 := Ka13.out.get 2 rfl
  have cKa3 := Ka13.out.get 3 rfl
  have cKa4 := Ka13.out.get 4 rfl
  have cKa5 := Ka13.out.get 5 rfl
  have cKa6 := Ka13.out.get 6 rfl
  have cKa7 := Ka13.out.get 7 rfl
  have cKa8 := Ka13.out.get 8 rfl
  have lKa := Ka13.out.lt
  have cKp0 := Kp13.out.get 0 rfl
  have cKp1 := Kp13.out.get 1 rfl
  have cKp2 := Kp13.out.get 2 rfl
  have cKp3 := Kp13.out.get 3 rfl
  have cKp4 := Kp13.out.get 4 rfl
  have cKp5 := Kp13.out.get 5 rfl
  have cKp6 := Kp13.out.get 6 rfl
  have cKp7 := Kp13.out.get 7 rfl
  have cKp8 := Kp13.out.get 8 rfl
  have lKp := Kp13.out.lt
  have cKg0 := Kg13.out.get 0 rfl
  have cKg1 := Kg13.out.get 1 rfl
  have cKg2 := Kg13.out.get 2 rfl
  have cKg3 := Kg13.out.get 3 rfl
  have cKg4 := Kg13.out.get 4 rfl
  have cKg5 := Kg13.out.get 5 rfl
  have cKg6 := Kg13.out.get 6 rfl
  have cKg7 := Kg13.out.get 7 rfl
  have cKg8 := Kg13.out.get 8 rfl
  have lKg := Kg13.out.lt
  go_wp2_with fail
  clear cKa0 cKa1 cKa2 cKa3 cKa4 cKa5 cKa6 cKa7 cKa8 lKa
  clear cKp0 cKp1 cKp2 cKp3 cKp4 cKp5 cKp6 cKp7 cKp8 lKp
  clear cKg0 cKg1 cKg2 cKg3 cKg4 cKg5 cKg6 cKg7 cKg8 lKg
  refine (eqBk_len (.agg #[.slice g1 F.rg.length gc1, .slice g2 F.hm.length gc2, .slice g3 F.pd.length gc3, .slice g4 F.dr.length gc4, .int .i64 F.sq, .int .i64 F.bs, .int .i64 F.sf, .int .i64 F.at_, .int .i64 F.df]) (.agg #[.slice p1 F.rg.length pc1, .slice p2 F.hm.length pc2, .slice p3 F.pd.length pc3, .slice p4 F.dr.length pc4, .int .i64 F.sq, .int .i64 F.bs, .int .i64 F.sf, .int .i64 F.at_, .int .i64 F.df]) F HhlF.out _ Ng13.out.is.isBk Np13.out.is.isBk).mono ?_
  rintro e w14 ⟨rfl, hb14⟩
  have B14 := belN B13 hb14
  have z14 := hb14.size
  have Ka14 := Lib.hid (Ka13.out.below hb14 Ka13.out.lt)
  clear Ka13
  have HA14 := Lib.hid (HA13.out.next hb14)
  clear HA13
  have Np14 := Lib.hid (Np13.out.next hb14)
  clear Np13
  have Kp14 := Lib.hid (Kp13.out.below hb14 Kp13.out.lt)
  clear Kp13
  have Ng14 := Lib.hid (Ng13.out.next hb14)
  clear Ng13
  have Kg14 := Lib.hid (Kg13.out.below hb14 Kg13.out.lt)
  clear Kg13
  have cKa0 := Ka14.out.get 0 rfl
  have cKa1 := Ka14.out.get 1 rfl
  have cKa2 := Ka14.out.get 2 rfl
  have cKa3 := Ka14.out.get 3 rfl
  have cKa4 := Ka14.out.get 4 rfl
  have cKa5 := Ka14.out.get 5 rfl
  have cKa6 := Ka14.out.get 6 rfl
  have cKa7 := Ka14.out.get 7 rfl
  have cKa8 := Ka14.out.get 8 rfl
  have lKa := Ka14.out.lt
  have cKp0 := Kp14.out.get 0 rfl
  have cKp1 := Kp14.out.get 1 rfl
  have cKp2 := Kp14.out.get 2 rfl
  have cKp3 := Kp14.out.get 3 rfl
  have cKp4 := Kp14.out.get 4 rfl
  have cKp5 := Kp14.out.get 5 rfl
  have cKp6 := Kp14.out.get 6 rfl
  have cKp7 := Kp14.out.get 7 rfl
  have cKp8 := Kp14.out.get 8 rfl
  have lKp := Kp14.out.lt
  have cKg0 := Kg14.out.get 0 rfl
  have cKg1 := Kg14.out.get 1 rfl
  have cKg2 := Kg14.out.get 2 rfl
  have cKg3 := Kg14.out.get 3 rfl
  have cKg4 := Kg14.out.get 4 rfl
  have cKg5 := Kg14.out.get 5 rfl
  have cKg6 := Kg14.out.get 6 rfl
  have cKg7 := Kg14.out.get 7 rfl
  have cKg8 := Kg14.out.get 8 rfl
  have lKg := Kg14.out.lt
  go_wp2_with fail
  clear cKa0 cKa1 cKa2 cKa3 cKa4 cKa5 cKa6 cKa7 cKa8 lKa
  clear cKp0 cKp1 cKp2 cKp3 cKp4 cKp5 cKp6 cKp7 cKp8 lKp
  clear cKg0 cKg1 cKg2 cKg3 cKg4 cKg5 cKg6 cKg7 cKg8 lKg
  refine (markBk_in (.agg #[.slice g1 F.rg.length gc1, .slice g2 F.hm.length gc2, .slice g3 F.pd.length gc3, .slice g4 F.dr.length gc4, .int .i64 F.sq, .int .i64 F.bs, .int .i64 F.sf, .int .i64 F.at_, .int .i64 F.df]) F HhsmF.out 1 (by omega) (by omega) _ _ _ Ng14.out).mono ?_
  rintro e w15 ⟨rfl, hN15, hbt15⟩
  have z15 := hbt15.size
  have B15 := B14.trans (hbt15.bel (by omega) (by omega))
  have Ka15 := Lib.hid (Ka14.out.betw hbt15 (by omega))
  clear Ka14
  have HA15 := Lib.hid (HA0.out.next B15)
  clear HA14
  have Np15 := Lib.hid (Np14.out.betw hbt15 (by omega))
  clear Np14
  have Kp15 := Lib.hid (Kp14.out.betw hbt15 (by omega))
  clear Kp14
  have Kg15 := Lib.hid (Kg14.out.betw hbt15 (by omega))
  clear Kg14
  have Ng15 := Lib.hid hN15
  clear Ng14 hN15
  rw [HhmF.out]
  have cKa0 := Ka15.out.get 0 rfl
  have cKa1 := Ka15.out.get 1 rfl
  have cKa2 := Ka15.out.get 2 rfl
  have cKa3 := Ka15.out.get 3 rfl
  have cKa4 := Ka15.out.get 4 rfl
  have cKa5 := Ka15.out.get 5 rfl
  have cKa6 := Ka15.out.get 6 rfl
  have cKa7 := Ka15.out.get 7 rfl
  have cKa8 := Ka15.out.get 8 rfl
  have lKa := Ka15.out.lt
  have cKp0 := Kp15.out.get 0 rfl
  have cKp1 := Kp15.out.get 1 rfl
  have cKp2 := Kp15.out.get 2 rfl
  have cKp3 := Kp15.out.get 3 rfl
  have cKp4 := Kp15.out.get 4 rfl
  have cKp5 := Kp15.out.get 5 rfl
  have cKp6 := Kp15.out.get 6 rfl
  have cKp7 := Kp15.out.get 7 rfl
  have cKp8 := Kp15.out.get 8 rfl
  have lKp := Kp15.out.lt
  have cKg0 := Kg15.out.get 0 rfl
  have cKg1 := Kg15.out.get 1 rfl
  have cKg2 := Kg15.out.get 2 rfl
  have cKg3 := Kg15.out.get 3 rfl
  have cKg4 := Kg15.out.get 4 rfl
  have cKg5 := Kg15.out.get 5 rfl
  have cKg6 := Kg15.out.get 6 rfl
  have cKg7 := Kg15.out.get 7 rfl
  have cKg8 := Kg15.out.get 8 rfl
  have lKg := Kg15.out.lt
  go_wp2_with fail
  clear cKa0 cKa1 cKa2 cKa3 cKa4 cKa5 cKa6 cKa7 cKa8 lKa
  clear cKp0 cKp1 cKp2 cKp3 cKp4 cKp5 cKp6 cKp7 cKp8 lKp
  clear cKg0 cKg1 cKg2 cKg3 cKg4 cKg5 cKg6 cKg7 cKg8 lKg
  refine (heldBk_in (.agg #[.slice g1 F.rg.length gc1, .slice g2 F.hm.length gc2, .slice g3 F.pd.length gc3, .slice g4 F.dr.length gc4, .int .i64 F.sq, .int .i64 F.bs, .int .i64 F.sf, .int .i64 F.at_, .int .i64 F.df]) F HhsmF.out 1 (by omega) (by omega) _ Ng15.out.is.isBk).mono ?_
  rintro e w16 ⟨rfl, hb16⟩
  have B16 := belN B15 hb16
  have z16 := hb16.size
  have Ka16 := Lib.hid (Ka15.out.below hb16 Ka15.out.lt)
  clear Ka15
  have HA16 := Lib.hid (HA15.out.next hb16)
  clear HA15
  have Np16 := Lib.hid (Np15.out.next hb16)
  clear Np15
  have Kp16 := Lib.hid (Kp15.out.below hb16 Kp15.out.lt)
  clear Kp15
  have Ng16 := Lib.hid (Ng15.out.next hb16)
  clear Ng15
  have Kg16 := Lib.hid (Kg15.out.below hb16 Kg15.out.lt)
  clear Kg15
  rw [HhmF.out]
  have cKa0 := Ka16.out.get 0 rfl
  have cKa1 := Ka16.out.get 1 rfl
  have cKa2 := Ka16.out.get 2 rfl
  have cKa3 := Ka16.out.get 3 rfl
  have cKa4 := Ka16.out.get 4 rfl
  have cKa5 := Ka16.out.get 5 rfl
  have cKa6 := Ka16.out.get 6 rfl
  have cKa7 := Ka16.out.get 7 rfl
  have cKa8 := Ka16.out.get 8 rfl
  have lKa := Ka16.out.lt
  have cKp0 := Kp16.out.get 0 rfl
  have cKp1 := Kp16.out.get 1 rfl
  have cKp2 := Kp16.out.get 2 rfl
  have cKp3 := Kp16.out.get 3 rfl
  have cKp4 := Kp16.out.get 4 rfl
  have cKp5 := Kp16.out.get 5 rfl
  have cKp6 := Kp16.out.get 6 rfl
  have cKp7 := Kp16.out.get 7 rfl
  have cKp8 := Kp16.out.get 8 rfl
  have lKp := Kp16.out.lt
  have cKg0 := Kg16.out.get 0 rfl
  have cKg1 := Kg16.out.get 1 rfl
  have cKg2 := Kg16.out.get 2 rfl
  have cKg3 := Kg16.out.get 3 rfl
  have cKg4 := Kg16.out.get 4 rfl
  have cKg5 := Kg16.out.get 5 rfl
  have cKg6 := Kg16.out.get 6 rfl
  have cKg7 := Kg16.out.get 7 rfl
  have cKg8 := Kg16.out.get 8 rfl
  have lKg := Kg16.out.lt
  go_wp2_with fail
  clear cKa0 cKa1 cKa2 cKa3 cKa4 cKa5 cKa6 cKa7 cKa8 lKa
  clear cKp0 cKp1 cKp2 cKp3 cKp4 cKp5 cKp6 cKp7 cKp8 lKp
  clear cKg0 cKg1 cKg2 cKg3 cKg4 cKg5 cKg6 cKg7 cKg8 lKg
  refine (toBk_is _ B sm _ HA16.out).mono ?_
  rintro e w17 ⟨t, rfl, hIt, hb17⟩
  have B17 := belN B16 hb17
  have z17 := hb17.size
  have Ka17 := Lib.hid (Ka16.out.below hb17 Ka16.out.lt)
  clear Ka16
  have HA17 := Lib.hid (HA16.out.next hb17)
  clear HA16
  have Np17 := Lib.hid (Np16.out.next hb17)
  clear Np16
  have Kp17 := Lib.hid (Kp16.out.below hb17 Kp16.out.lt)
  clear Kp16
  have Ng17 := Lib.hid (Ng16.out.next hb17)
  clear Ng16
  have Kg17 := Lib.hid (Kg16.out.below hb17 Kg16.out.lt)
  clear Kg16
  have It17 := Lib.hid hIt
  clear hIt
  have cKa0 := Ka17.out.get 0 rfl
  have cKa1 := Ka17.out.get 1 rfl
  have cKa2 := Ka17.out.get 2 rfl
  have cKa3 := Ka17.out.get 3 rfl
  have cKa4 := Ka17.out.get 4 rfl
  have cKa5 := Ka17.out.get 5 rfl
  have cKa6 := Ka17.out.get 6 rfl
  have cKa7 := Ka17.out.get 7 rfl
  have cKa8 := Ka17.out.get 8 rfl
  have lKa := Ka17.out.lt
  have cKp0 := Kp17.out.get 0 rfl
  have cKp1 := Kp17.out.get 1 rfl
  have cKp2 := Kp17.out.get 2 rfl
  have cKp3 := Kp17.out.get 3 rfl
  have cKp4 := Kp17.out.get 4 rfl
  have cKp5 := Kp17.out.get 5 rfl
  have cKp6 := Kp17.out.get 6 rfl
  have cKp7 := Kp17.out.get 7 rfl
  have cKp8 := Kp17.out.get 8 rfl
  have lKp := Kp17.out.lt
  have cKg0 := Kg17.out.get 0 rfl
  have cKg1 := Kg17.out.get 1 rfl
  have cKg2 := Kg17.out.get 2 rfl
  have cKg3 := Kg17.out.get 3 rfl
  have cKg4 := Kg17.out.get 4 rfl
  have cKg5 := Kg17.out.get 5 rfl
  have cKg6 := Kg17.out.get 6 rfl
  have cKg7 := Kg17.out.get 7 rfl
  have cKg8 := Kg17.out.get 8 rfl
  have lKg := Kg17.out.lt
  go_wp2_with fail
  clear cKa0 cKa1 cKa2 cKa3 cKa4 cKa5 cKa6 cKa7 cKa8 lKa
  clear cKp0 cKp1 cKp2 cKp3 cKp4 cKp5 cKp6 cKp7 cKp8 lKp
  clear cKg0 cKg1 cKg2 cKg3 cKg4 cKg5 cKg6 cKg7 cKg8 lKg
  refine (fall_impl t B sm mk hmk HP.out _ (HT0.out.bl B17) It17.out).mono ?_
  rintro e w18 ⟨h, loh, uph, rfl, hloh, hh, hb18⟩
  have B18 := belN B17 hb18
  have z18 := hb18.size
  have Ka18 := Lib.hid (Ka17.out.below hb18 Ka17.out.lt)
  clear Ka17
  have HA18 := Lib.hid (HA17.out.next hb18)
  clear HA17
  have Np18 := Lib.hid (Np17.out.next hb18)
  clear Np17
  have Kp18 := Lib.hid (Kp17.out.below hb18 Kp17.out.lt)
  clear Kp17
  have Ng18 := Lib.hid (Ng17.out.next hb18)
  clear Ng17
  have Kg18 := Lib.hid (Kg17.out.below hb18 Kg17.out.lt)
  clear Kg17
  have It18 := Lib.hid (It17.out.next hb18)
  clear It17
  obtain ⟨_, _, _, _, ⟨h1, hc1, h2, hc2, h3, hc3, h4, hc4, rfl, rfl, rfl, rfl, rfl⟩, _⟩ := BkH.of hh
  have huph := hh.1
  have Nh18 := Lib.hid hh
  clear hh
  have cKa0 := Ka18.out.get 0 rfl
  have cKa1 := Ka18.out.get 1 rfl
  have cKa2 := Ka18.out.get 2 rfl
  have cKa3 := Ka18.out.get 3 rfl
  have cKa4 := Ka18.out.get 4 rfl
  have cKa5 := Ka18.out.get 5 rfl
  have cKa6 := Ka18.out.get 6 rfl
  have cKa7 := Ka18.out.get 7 rfl
  have cKa8 := Ka18.out.get 8 rfl
  have lKa := Ka18.out.lt
  have cKp0 := Kp18.out.get 0 rfl
  have cKp1 := Kp18.out.get 1 rfl
  have cKp2 := Kp18.out.get 2 rfl
  have cKp3 := Kp18.out.get 3 rfl
  have cKp4 := Kp18.out.get 4 rfl
  have cKp5 := Kp18.out.get 5 rfl
  have cKp6 := Kp18.out.get 6 rfl
  have cKp7 := Kp18.out.get 7 rfl
  have cKp8 := Kp18.out.get 8 rfl
  have lKp := Kp18.out.lt
  have cKg0 := Kg18.out.get 0 rfl
  have cKg1 := Kg18.out.get 1 rfl
  have cKg2 := Kg18.out.get 2 rfl
  have cKg3 := Kg18.out.get 3 rfl
  have cKg4 := Kg18.out.get 4 rfl
  have cKg5 := Kg18.out.get 5 rfl
  have cKg6 := Kg18.out.get 6 rfl
  have cKg7 := Kg18.out.get 7 rfl
  have cKg8 := Kg18.out.get 8 rfl
  have lKg := Kg18.out.lt
  go_wp2_with fail
  clear cKa0 cKa1 cKa2 cKa3 cKa4 cKa5 cKa6 cKa7 cKa8 lKa
  clear cKp0 cKp1 cKp2 cKp3 cKp4 cKp5 cKp6 cKp7 cKp8 lKp
  clear cKg0 cKg1 cKg2 cKg3 cKg4 cKg5 cKg6 cKg7 cKg8 lKg
  obtain ⟨w19, hw19⟩ : ∃ W, w18.alloc (.cells #[.slice h1 F.rg.length hc1, .slice h2 F.hm.length hc2, .slice h3 F.pd.length hc3, .slice h4 F.dr.length hc4, .int .i64 F.sq, .int .i64 F.bs, .int .i64 F.sf, .int .i64 F.at_, .int .i64 F.df] 50) = W := ⟨_, rfl⟩
  have hb19 : Below w18.heap.size w18 w19 := by rw [← hw19]; exact belA (bel0 _) _
  have hO : Blk w19 w18.heap.size 50 #[.slice h1 F.rg.length hc1, .slice h2 F.hm.length hc2, .slice h3 F.pd.length hc3, .slice h4 F.dr.length hc4, .int .i64 F.sq, .int .i64 F.bs, .int .i64 F.sf, .int .i64 F.at_, .int .i64 F.df] := by rw [← hw19]; exact Blk.new' _ _ _ _ rfl
  have gh : w18.heap.size < w19.heap.size := hO.lt
  rw [hw19]
  clear hw19
  have B19 := belN B18 hb19
  have z19 := hb19.size
  have Ka19 := Lib.hid (Ka18.out.below hb19 Ka18.out.lt)
  clear Ka18
  have HA19 := Lib.hid (HA18.out.next hb19)
  clear HA18
  have Np19 := Lib.hid (Np18.out.next hb19)
  clear Np18
  have Kp19 := Lib.hid (Kp18.out.below hb19 Kp18.out.lt)
  clear Kp18
  have Ng19 := Lib.hid (Ng18.out.next hb19)
  clear Ng18
  have Kg19 := Lib.hid (Kg18.out.below hb19 Kg18.out.lt)
  clear Kg18
  have It19 := Lib.hid (It18.out.next hb19)
  clear It18
  have Nh19 := Lib.hid (Nh18.out.next hb19)
  clear Nh18
  have Kh19 := Lib.hid hO
  clear hO
  clear It19
  refine (eqBk_len (.agg #[.slice h1 F.rg.length hc1, .slice h2 F.hm.length hc2, .slice h3 F.pd.length hc3, .slice h4 F.dr.length hc4, .int .i64 F.sq, .int .i64 F.bs, .int .i64 F.sf, .int .i64 F.at_, .int .i64 F.df]) (.agg #[.slice p1 F.rg.length pc1, .slice p2 F.hm.length pc2, .slice p3 F.pd.length pc3, .slice p4 F.dr.length pc4, .int .i64 F.sq, .int .i64 F.bs, .int .i64 F.sf, .int .i64 F.at_, .int .i64 F.df]) F HhlF.out _ Nh19.out.is.isBk Np19.out.is.isBk).mono ?_
  rintro e w20 ⟨rfl, hb20⟩
  have B20 := belN B19 hb20
  have z20 := hb20.size
  have Ka20 := Lib.hid (Ka19.out.below hb20 Ka19.out.lt)
  clear Ka19
  have HA20 := Lib.hid (HA19.out.next hb20)
  clear HA19
  have Np20 := Lib.hid (Np19.out.next hb20)
  clear Np19
  have Kp20 := Lib.hid (Kp19.out.below hb20 Kp19.out.lt)
  clear Kp19
  have Ng20 := Lib.hid (Ng19.out.next hb20)
  clear Ng19
  have Kg20 := Lib.hid (Kg19.out.below hb20 Kg19.out.lt)
  clear Kg19
  have Nh20 := Lib.hid (Nh19.out.next hb20)
  clear Nh19
  have Kh20 := Lib.hid (Kh19.out.below hb20 Kh19.out.lt)
  clear Kh19
  have cKa0 := Ka20.out.get 0 rfl
  have cKa1 := Ka20.out.get 1 rfl
  have cKa2 := Ka20.out.get 2 rfl
  have cKa3 := Ka20.out.get 3 rfl
  have cKa4 := Ka20.out.get 4 rfl
  have cKa5 := Ka20.out.get 5 rfl
  have cKa6 := Ka20.out.get 6 rfl
  have cKa7 := Ka20.out.get 7 rfl
  have cKa8 := Ka20.out.get 8 rfl
  have lKa := Ka20.out.lt
  have cKp0 := Kp20.out.get 0 rfl
  have cKp1 := Kp20.out.get 1 rfl
  have cKp2 := Kp20.out.get 2 rfl
  have cKp3 := Kp20.out.get 3 rfl
  have cKp4 := Kp20.out.get 4 rfl
  have cKp5 := Kp20.out.get 5 rfl
  have cKp6 := Kp20.out.get 6 rfl
  have cKp7 := Kp20.out.get 7 rfl
  have cKp8 := Kp20.out.get 8 rfl
  have lKp := Kp20.out.lt
  have cKg0 := Kg20.out.get 0 rfl
  have cKg1 := Kg20.out.get 1 rfl
  have cKg2 := Kg20.out.get 2 rfl
  have cKg3 := Kg20.out.get 3 rfl
  have cKg4 := Kg20.out.get 4 rfl
  have cKg5 := Kg20.out.get 5 rfl
  have cKg6 := Kg20.out.get 6 rfl
  have cKg7 := Kg20.out.get 7 rfl
  have cKg8 := Kg20.out.get 8 rfl
  have lKg := Kg20.out.lt
  have cKh0 := Kh20.out.get 0 rfl
  have cKh1 := Kh20.out.get 1 rfl
  have cKh2 := Kh20.out.get 2 rfl
  have cKh3 := Kh20.out.get 3 rfl
  have cKh4 := Kh20.out.get 4 rfl
  have cKh5 := Kh20.out.get 5 rfl
  have cKh6 := Kh20.out.get 6 rfl
  have cKh7 := Kh20.out.get 7 rfl
  have cKh8 := Kh20.out.get 8 rfl
  have lKh := Kh20.out.lt
  go_wp2_with fail
  clear cKa0 cKa1 cKa2 cKa3 cKa4 cKa5 cKa6 cKa7 cKa8 lKa
  clear cKp0 cKp1 cKp2 cKp3 cKp4 cKp5 cKp6 cKp7 cKp8 lKp
  clear cKg0 cKg1 cKg2 cKg3 cKg4 cKg5 cKg6 cKg7 cKg8 lKg
  clear cKh0 cKh1 cKh2 cKh3 cKh4 cKh5 cKh6 cKh7 cKh8 lKh
  refine (heldBk_in (.agg #[.slice g1 F.rg.length gc1, .slice g2 F.hm.length gc2, .slice g3 F.pd.length gc3, .slice g4 F.dr.length gc4, .int .i64 F.sq, .int .i64 F.bs, .int .i64 F.sf, .int .i64 F.at_, .int .i64 F.df]) F HhsmF.out 1 (by omega) (by omega) _ Ng20.out.is.isBk).mono ?_
  rintro e w21 ⟨rfl, hb21⟩
  have B21 := belN B20 hb21
  have z21 := hb21.size
  have Ka21 := Lib.hid (Ka20.out.below hb21 Ka20.out.lt)
  clear Ka20
  have HA21 := Lib.hid (HA20.out.next hb21)
  clear HA20
  have Np21 := Lib.hid (Np20.out.next hb21)
  clear Np20
  have Kp21 := Lib.hid (Kp20.out.below hb21 Kp20.out.lt)
  clear Kp20
  have Ng21 := Lib.hid (Ng20.out.next hb21)
  clear Ng20
  have Kg21 := Lib.hid (Kg20.out.below hb21 Kg20.out.lt)
  clear Kg20
  have Nh21 := Lib.hid (Nh20.out.next hb21)
  clear Nh20
  have Kh21 := Lib.hid (Kh20.out.below hb21 Kh20.out.lt)
  clear Kh20
  rw [HhmF.out]
  have cKa0 := Ka21.out.get 0 rfl
  have cKa1 := Ka21.out.get 1 rfl
  have cKa2 := Ka21.out.get 2 rfl
  have cKa3 := Ka21.out.get 3 rfl
  have cKa4 := Ka21.out.get 4 rfl
  have cKa5 := Ka21.out.get 5 rfl
  have cKa6 := Ka21.out.get 6 rfl
  have cKa7 := Ka21.out.get 7 rfl
  have cKa8 := Ka21.out.get 8 rfl
  have lKa := Ka21.out.lt
  have cKp0 := Kp21.out.get 0 rfl
  have cKp1 := Kp21.out.get 1 rfl
  have cKp2 := Kp21.out.get 2 rfl
  have cKp3 := Kp21.out.get 3 rfl
  have cKp4 := Kp21.out.get 4 rfl
  have cKp5 := Kp21.out.get 5 rfl
  have cKp6 := Kp21.out.get 6 rfl
  have cKp7 := Kp21.out.get 7 rfl
  have cKp8 := Kp21.out.get 8 rfl
  have lKp := Kp21.out.lt
  have cKg0 := Kg21.out.get 0 rfl
  have cKg1 := Kg21.out.get 1 rfl
  have cKg2 := Kg21.out.get 2 rfl
  have cKg3 := Kg21.out.get 3 rfl
  have cKg4 := Kg21.out.get 4 rfl
  have cKg5 := Kg21.out.get 5 rfl
  have cKg6 := Kg21.out.get 6 rfl
  have cKg7 := Kg21.out.get 7 rfl
  have cKg8 := Kg21.out.get 8 rfl
  have lKg := Kg21.out.lt
  have cKh0 := Kh21.out.get 0 rfl
  have cKh1 := Kh21.out.get 1 rfl
  have cKh2 := Kh21.out.get 2 rfl
  have cKh3 := Kh21.out.get 3 rfl
  have cKh4 := Kh21.out.get 4 rfl
  have cKh5 := Kh21.out.get 5 rfl
  have cKh6 := Kh21.out.get 6 rfl
  have cKh7 := Kh21.out.get 7 rfl
  have cKh8 := Kh21.out.get 8 rfl
  have lKh := Kh21.out.lt
  go_wp2
  go_ret
  exact ⟨rfl, B21⟩

set_option maxRecDepth 100000 in
theorem fnExactBookFall_contract (H : Type) (enc : TypeId × Value → H) (W : World) (base : Nat) (args : Array Value) (ds gs : List (DataW H)) (before : List MemPlace)
    (hval : ∀ (j : Nat) t v, Tryz.f6.params[j]? = some t → args[j]? = some v → Value.okWide Tryz.prog W .any base t v)
    (hW : DataW.Whole enc Tryz.prog Tryz.f6.params.toList Rows.fnExactBookFallSpec.vars false W args.toList ds gs before) (hL : laidMetH Tryz.prog Rows.fnExactBookFallRow.laid W) :
    Calls Tryz.prog 6 args W fun e W' => ∃ v, e = .returned v ∧ Rows.fnExactBookFallSpec.post enc Tryz.prog Tryz.f6 false true false false W args v W' := by
  have hW' := hW
  obtain ⟨p, q, hA0, hV, rfl, hfz, hnd⟩ := hW
  have hA : DataW.TrodAll enc Tryz.prog W 0 (fun _ => true) true Tryz.f6.params.toList args.toList ds p := hA0
  rw [Tryz.params6] at hA hval
  have hT := tab_of hL
  obtain ⟨_, _, _, g1, _, _, rfl, _⟩ := trodVars_one hV
  obtain ⟨v0, v1, d0, d1, p0, p1, rfl, rfl, rfl, h0, h1⟩ := trodAll_two hA
  obtain ⟨a, hza, hna, hIa⟩ := open_book_is (hval 0 45 v0 rfl rfl) h0
  obtain ⟨mk, rfl, rfl, rfl, wmk⟩ := open_int Tryz.underlying3 (hval 1 3 v1 rfl rfl) h1
  clear hA0
  refine (law_fnExactBookFall _ a hza hna mk (by have h := wmk; unfold Lit.wf at h; rw [Bool.and_eq_true] at h; exact of_decide_eq_true h.2) W hT hIa).mono fun e W' ⟨he, hw⟩ => ?_
  subst he
  exact ⟨_, rfl, law_postD Tryz.laidOut (by kernel_rfl) rfl Tryz.underlying4 (Tryz.varsOk hT) rfl hW' hw⟩

theorem fnExactBookFall_laid_met (os : Os) : laidMet Tryz.prog Rows.fnExactBookFallRow.laid ((laidWorld os #[.agg #[.slice none 0 0, .slice none 0 0, .slice none 0 0, .slice none 0 0, .int .i64 0, .int .i64 0, .int .i64 0, .int .i64 0, .int .i64 0], .int .i64 0]).forCall (fun _ _ => 0) ⟨#[], #[.agg #[.slice none 0 0, .slice none 0 0, .slice none 0 0, .slice none 0 0, .int .i64 0, .int .i64 0, .int .i64 0, .int .i64 0, .int .i64 0], .int .i64 0], []⟩).memory :=
  laidMet_of_run' 8 (by kernel_rfl) (by kernel_rfl)
theorem fnExactBookFall_reads (os : Os) {H : Type} (enc : TypeId × Value → H) : DataW.whole enc Tryz.prog ((laidWorld os #[.agg #[.slice none 0 0, .slice none 0 0, .slice none 0 0, .slice none 0 0, .int .i64 0, .int .i64 0, .int .i64 0, .int .i64 0, .int .i64 0], .int .i64 0]).forCall (fun _ _ => 0) ⟨#[], #[.agg #[.slice none 0 0, .slice none 0 0, .slice none 0 0, .slice none 0 0, .int .i64 0, .int .i64 0, .int .i64 0, .int .i64 0, .int .i64 0], .int .i64 0], []⟩).memory Tryz.f6.params.toList Rows.fnExactBookFallSpec.vars false (#[.agg #[.slice none 0 0, .slice none 0 0, .slice none 0 0, .slice none 0 0, .int .i64 0, .int .i64 0, .int .i64 0, .int .i64 0, .int .i64 0], .int .i64 0] : Array Value).toList 8 = some ([.agg [.nil, .nil, .nil, .nil, .lit (.int .i64 0), .lit (.int .i64 0), .lit (.int .i64 0), .lit (.int .i64 0), .lit (.int .i64 0)], .lit (.int .i64 0)], [Rows.laid_loop_example_g00773_impl_knownParts], [] ++ MemPlace.row ⟨0, 0, none⟩ 54) := by kernel_rfl

set_option maxRecDepth 100000 in
theorem fnExactBookFall_lifted (os : Os) (started : os.Started) (H : Type) (enc : TypeId × Value → H) (F : Stop.Interp) :
    ReturnsInHanded {} Tryz.checked os 6 .any ((OpenSpec.ofChange Rows.fnExactBookFallSpec).preRow enc Tryz.prog Tryz.f6 Rows.fnExactBookFallRow.domain false Rows.fnExactBookFallRow.laid) (((OpenSpec.ofChange Rows.fnExactBookFallSpec).at F).post enc Tryz.prog Tryz.f6 false true false false) := by
  refine returnsInHanded_of_row (C := Tryz.checked) (s := OpenSpec.ofChange Rows.fnExactBookFallSpec) Tryz.own started (by as_aux_lemma => kernel_rfl) Tryz.func6
    (witness_row_at (enc := enc) (C := Tryz.checked) false (laidWorld os #[.agg #[.slice none 0 0, .slice none 0 0, .slice none 0 0, .slice none 0 0, .int .i64 0, .int .i64 0, .int .i64 0, .int .i64 0, .int .i64 0], .int .i64 0]) #[.agg #[.slice none 0 0, .slice none 0 0, .slice none 0 0, .slice none 0 0, .int .i64 0, .int .i64 0, .int .i64 0, .int .i64 0, .int .i64 0], .int .i64 0] rfl (by as_aux_lemma => kernel_rfl) (by as_aux_lemma => kernel_rfl) (by as_aux_lemma => kernel_rfl)
      (OpenSpec.preRow_of_cond 8 (fnExactBookFall_reads os enc) (by as_aux_lemma => kernel_rfl) (fun k hk => by cases hk) (by as_aux_lemma => kernel_rfl) (fnExactBookFall_laid_met os))) ?_
  intro W base args ds gs before hval hW _ _ _ hL _ _
  exact fnExactBookFall_contract H enc W base args ds gs before hval hW hL

set_option maxHeartbeats 4000000 in
theorem fnExactBookFall_facts : joinedFacts Tryz.pinned.checked.prog 6 Tryz.f6 (OpenSpec.ofChange Rows.fnExactBookFallSpec).bare Rows.fnExactBookFallRow = true := by
  simp only [joinedFacts, Bool.and_eq_true]
  repeat' (refine And.intro ?_ ?_)
  all_goals (as_aux_lemma => kernel_rfl)
theorem fnExactBookFall_said : Rows.FnExactBookFallSaid :=
  OpenClaim.holds_of_cond 6 Tryz.f6 rfl rfl rfl rfl rfl rfl rfl ⟨rfl, rfl, rfl, rfl, rfl⟩ rfl rfl rfl rfl rfl (by as_aux_lemma => kernel_rfl) Tryz.func6 fnExactBookFall_facts
    (of_decide_eq_true (by as_aux_lemma => kernel_rfl)) (by unfold Func.isWrapper; rw [if_neg (of_decide_eq_false (by as_aux_lemma => kernel_rfl))]; exact ⟨rfl, rfl⟩)
    (fun os started H enc _ F => by rw [OpenClaim.pre_eq_preRow]; exact fnExactBookFall_lifted os started H enc F)

theorem fnExactBookFall_plain (f : FuncId) (fn : Func) (hf : Tryz.pinned.checked.prog.funcNamed "loop.example/g00773/laws.FnExactBookFall" = some f) (hfn : Tryz.pinned.checked.prog.funcs[f]? = some fn) :
    false = Tryz.pinned.checked.prog.looks [] ∧ ∀ (j : Nat) t, fn.params[j]? = some t → Tryz.pinned.checked.prog.wantsStandIn t = false := by
  obtain rfl : f = 6 := Option.some.inj ((show Tryz.prog.funcNamed "loop.example/g00773/laws.FnExactBookFall" = some 6 by kernel_rfl).symm.trans hf) |>.symm
  obtain rfl : fn = Tryz.f6 := (Option.some.inj (Tryz.func6.symm.trans hfn)).symm
  refine ⟨by kernel_rfl, fun j t ht => ?_⟩
  rw [Tryz.params6] at ht
  have ht' := Array.mem_of_getElem? ht
  simp at ht'
  rcases ht' with rfl | rfl
  · exact (show Tryz.prog.wantsStandIn 45 = false by kernel_rfl)
  · exact (show Tryz.prog.wantsStandIn 3 = false by kernel_rfl)

theorem fnExactBookFall_card : Rows.FnExactBookFallCardSaid :=
  Claim7.holds_tied_plain_at .later [] _ _ _ _ fnExactBookFall_said (fun _ h => by cases h) (by as_aux_lemma => kernel_rfl) (fun _ h => by cases h) fnExactBookFall_row_tie rfl ⟨rfl, rfl⟩ (by as_aux_lemma => kernel_rfl) rfl fnExactBookFall_plain (by as_aux_lemma => kernel_rfl)

end Go.Proofs.YthdbomkddpnhaaaGreatDoor
