/- The law of NewBook: what the program's NewBook gives is what the reference's gives, in new memory. The table of known signs is held as the program's text lays it. -/
import Derived.Test.YtlgjehdocppofaaDoorNewBkS
import Derived.Test.YtlgjehdocppofaaDoorFrameD
namespace Go.Proofs.YtlgjehdocppofaaDoor
open Go Go.RowKit Go.ChangeShapes Go.WideShapes Go.ChangeAt Go.Joins

theorem Blk.betw {w w' : World} {lo hi g : Nat} {t : TypeId} {cs : Array Value} (h : Blk w g t cs) (hb : Betw lo hi w w') (hd : g < lo ∨ hi ≤ g) : Blk w' g t cs := (hb.block g h.lt hd).trans h
theorem newB_small : BkSmall newB := ⟨by simp [newB], by simp [newB], by simp [newB], by simp [newB]⟩
theorem newB_sz : szBk newB ≤ 1048576 := by
  have h : (showHomeB 0 []).size ≤ 2000 := by
    unfold showHomeB
    split
    · rw [sumB_size]; have := homeBody_size (n := 0) 0 [] rfl (by omega) (by simp); omega
    · simp [str_size]
  simp only [szBk, newB, szT, szW, szS, List.length_cons, List.length_nil, List.map_cons, List.map_nil, List.sum_cons, List.sum_nil, str_size]
  omega

set_option maxRecDepth 100000 in
set_option maxHeartbeats 4000000 in
theorem law_fnExactNewBook (w : World) (hT : Tab w) : Calls Tryd.prog 3 #[] w fun e w' => e = .returned (.bool true) ∧ Below w.heap.size w w' := by
  have HT0 := Lib.hid hT
  clear hT
  have hsm := newB_small
  have hsz := newB_sz
  have nS := newBook_spec
  have nI := newBook_impl
  obtain ⟨B, hB⟩ : ∃ B, newB = B := ⟨_, rfl⟩
  rw [hB] at hsm hsz nS nI
  have hcn : 0 ≤ cntBk B := by unfold cntBk; omega
  obtain ⟨m, hm⟩ : ∃ m : Int, 1 + cntBk B = m := ⟨_, rfl⟩
  have hm0 : ¬ m < 0 := by omega
  have Hm := Lib.hid hm
  have Hsm := Lib.hid hsm
  have Hsz := Lib.hid hsz
  have HS := Lib.hid nS
  have HI := Lib.hid nI
  clear hB hm hsm hsz nS nI hcn
  go_enter Tryd.func3, Tryd.ntmps3
  go_wp2_with fail
  refine (HS.out w).mono ?_
  rintro e w1 ⟨p, lop, upp, rfl, hlop, hp, hb1⟩
  have B1 := hb1
  have z1 := hb1.size
  obtain ⟨_, _, _, _, ⟨p1, pc1, p2, pc2, p3, pc3, p4, pc4, rfl, rfl, rfl, rfl, rfl⟩, _⟩ := BkH.of hp
  have hupp := hp.1
  have Np1 := Lib.hid hp
  clear hp
  go_wp2_with fail
  obtain ⟨w2, hw2⟩ : ∃ W, w1.alloc (.cells #[.slice p1 B.rg.length pc1, .slice p2 B.hm.length pc2, .slice p3 B.pd.length pc3, .slice p4 B.dr.length pc4, .int .i64 B.sq, .int .i64 B.bs, .int .i64 B.sf, .int .i64 B.at_, .int .i64 B.df] 26) = W := ⟨_, rfl⟩
  have hb2 : Below w1.heap.size w1 w2 := by rw [← hw2]; exact belA (bel0 _) _
  have hO : Blk w2 w1.heap.size 26 #[.slice p1 B.rg.length pc1, .slice p2 B.hm.length pc2, .slice p3 B.pd.length pc3, .slice p4 B.dr.length pc4, .int .i64 B.sq, .int .i64 B.bs, .int .i64 B.sf, .int .i64 B.at_, .int .i64 B.df] := by rw [← hw2]; exact Blk.new' _ _ _ _ rfl
  have gp : w1.heap.size < w2.heap.size := hO.lt
  rw [hw2]
  clear hw2
  have B2 := belN B1 hb2
  have z2 := hb2.size
  have Np2 := Lib.hid (Np1.out.next hb2)
  clear Np1
  have Kp2 := Lib.hid hO
  clear hO
  refine (HI.out w2 (HT0.out.bl B2)).mono ?_
  rintro e w3 ⟨g, log, upg, rfl, hlog, hg, hb3⟩
  have B3 := belN B2 hb3
  have z3 := hb3.size
  have Np3 := Lib.hid (Np2.out.next hb3)
  clear Np2
  have Kp3 := Lib.hid (Kp2.out.below hb3 Kp2.out.lt)
  clear Kp2
  obtain ⟨_, _, _, _, ⟨g1, gc1, g2, gc2, g3, gc3, g4, gc4, rfl, rfl, rfl, rfl, rfl⟩, _⟩ := BkH.of hg
  have hupg := hg.1
  have Ng3 := Lib.hid hg
  clear hg
  have cKp0 := Kp3.out.get 0 rfl
  have cKp1 := Kp3.out.get 1 rfl
  have cKp2 := Kp3.out.get 2 rfl
  have cKp3 := Kp3.out.get 3 rfl
  have cKp4 := Kp3.out.get 4 rfl
  have cKp5 := Kp3.out.get 5 rfl
  have cKp6 := Kp3.out.get 6 rfl
  have cKp7 := Kp3.out.get 7 rfl
  have cKp8 := Kp3.out.get 8 rfl
  have lKp := Kp3.out.lt
  go_wp2_with fail
  clear cKp0 cKp1 cKp2 cKp3 cKp4 cKp5 cKp6 cKp7 cKp8 lKp
  obtain ⟨w4, hw4⟩ : ∃ W, w3.alloc (.cells #[.slice g1 B.rg.length gc1, .slice g2 B.hm.length gc2, .slice g3 B.pd.length gc3, .slice g4 B.dr.length gc4, .int .i64 B.sq, .int .i64 B.bs, .int .i64 B.sf, .int .i64 B.at_, .int .i64 B.df] 26) = W := ⟨_, rfl⟩
  have hb4 : Below w3.heap.size w3 w4 := by rw [← hw4]; exact belA (bel0 _) _
  have hO : Blk w4 w3.heap.size 26 #[.slice g1 B.rg.length gc1, .slice g2 B.hm.length gc2, .slice g3 B.pd.length gc3, .slice g4 B.dr.length gc4, .int .i64 B.sq, .int .i64 B.bs, .int .i64 B.sf, .int .i64 B.at_, .int .i64 B.df] := by rw [← hw4]; exact Blk.new' _ _ _ _ rfl
  have gg : w3.heap.size < w4.heap.size := hO.lt
  rw [hw4]
  clear hw4
  have B4 := belN B3 hb4
  have z4 := hb4.size
  have Np4 := Lib.hid (Np3.out.next hb4)
  clear Np3
  have Kp4 := Lib.hid (Kp3.out.below hb4 Kp3.out.lt)
  clear Kp3
  have Ng4 := Lib.hid (Ng3.out.next hb4)
  clear Ng3
  have Kg4 := Lib.hid hO
  clear hO
  refine (eqBk_is (.agg #[.slice g1 B.rg.length gc1, .slice g2 B.hm.length gc2, .slice g3 B.pd.length gc3, .slice g4 B.dr.length gc4, .int .i64 B.sq, .int .i64 B.bs, .int .i64 B.sf, .int .i64 B.at_, .int .i64 B.df]) (.agg #[.slice p1 B.rg.length pc1, .slice p2 B.hm.length pc2, .slice p3 B.pd.length pc3, .slice p4 B.dr.length pc4, .int .i64 B.sq, .int .i64 B.bs, .int .i64 B.sf, .int .i64 B.at_, .int .i64 B.df]) B Hsz.out _ Ng4.out.is.isBk Np4.out.is.isBk).mono ?_
  rintro e w5 ⟨rfl, hb5⟩
  have B5 := belN B4 hb5
  have z5 := hb5.size
  have Np5 := Lib.hid (Np4.out.next hb5)
  clear Np4
  have Kp5 := Lib.hid (Kp4.out.below hb5 Kp4.out.lt)
  clear Kp4
  have Ng5 := Lib.hid (Ng4.out.next hb5)
  clear Ng4
  have Kg5 := Lib.hid (Kg4.out.below hb5 Kg4.out.lt)
  clear Kg4
  have cKp0 := Kp5.out.get 0 rfl
  have cKp1 := Kp5.out.get 1 rfl
  have cKp2 := Kp5.out.get 2 rfl
  have cKp3 := Kp5.out.get 3 rfl
  have cKp4 := Kp5.out.get 4 rfl
  have cKp5 := Kp5.out.get 5 rfl
  have cKp6 := Kp5.out.get 6 rfl
  have cKp7 := Kp5.out.get 7 rfl
  have cKp8 := Kp5.out.get 8 rfl
  have lKp := Kp5.out.lt
  have cKg0 := Kg5.out.get 0 rfl
  have cKg1 := Kg5.out.get 1 rfl
  have cKg2 := Kg5.out.get 2 rfl
  have cKg3 := Kg5.out.get 3 rfl
  have cKg4 := Kg5.out.get 4 rfl
  have cKg5 := Kg5.out.get 5 rfl
  have cKg6 := Kg5.out.get 6 rfl
  have cKg7 := Kg5.out.get 7 rfl
  have cKg8 := Kg5.out.get 8 rfl
  have lKg := Kg5.out.lt
  go_wp2_with fail
  clear cKp0 cKp1 cKp2 cKp3 cKp4 cKp5 cKp6 cKp7 cKp8 lKp
  clear cKg0 cKg1 cKg2 cKg3 cKg4 cKg5 cKg6 cKg7 cKg8 lKg
  refine (markBk_in (.agg #[.slice g1 B.rg.length gc1, .slice g2 B.hm.length gc2, .slice g3 B.pd.length gc3, .slice g4 B.dr.length gc4, .int .i64 B.sq, .int .i64 B.bs, .int .i64 B.sf, .int .i64 B.at_, .int .i64 B.df]) B Hsm.out 1 (by omega) (by omega) _ _ _ Ng5.out).mono ?_
  rintro e w6 ⟨rfl, hN6, hbt6⟩
  have z6 := hbt6.size
  have B6 := B5.trans (hbt6.bel (by omega) (by omega))
  have Np6 := Lib.hid (Np5.out.betw hbt6 (by omega))
  clear Np5
  have Kp6 := Lib.hid (Kp5.out.betw hbt6 (by omega))
  clear Kp5
  have Kg6 := Lib.hid (Kg5.out.betw hbt6 (by omega))
  clear Kg5
  have Ng6 := Lib.hid hN6
  clear Ng5 hN6
  rw [Hm.out]
  have cKp0 := Kp6.out.get 0 rfl
  have cKp1 := Kp6.out.get 1 rfl
  have cKp2 := Kp6.out.get 2 rfl
  have cKp3 := Kp6.out.get 3 rfl
  have cKp4 := Kp6.out.get 4 rfl
  have cKp5 := Kp6.out.get 5 rfl
  have cKp6 := Kp6.out.get 6 rfl
  have cKp7 := Kp6.out.get 7 rfl
  have cKp8 := Kp6.out.get 8 rfl
  have lKp := Kp6.out.lt
  have cKg0 := Kg6.out.get 0 rfl
  have cKg1 := Kg6.out.get 1 rfl
  have cKg2 := Kg6.out.get 2 rfl
  have cKg3 := Kg6.out.get 3 rfl
  have cKg4 := Kg6.out.get 4 rfl
  have cKg5 := Kg6.out.get 5 rfl
  have cKg6 := Kg6.out.get 6 rfl
  have cKg7 := Kg6.out.get 7 rfl
  have cKg8 := Kg6.out.get 8 rfl
  have lKg := Kg6.out.lt
  go_wp2_with fail
  clear cKp0 cKp1 cKp2 cKp3 cKp4 cKp5 cKp6 cKp7 cKp8 lKp
  clear cKg0 cKg1 cKg2 cKg3 cKg4 cKg5 cKg6 cKg7 cKg8 lKg
  refine (heldBk_in (.agg #[.slice g1 B.rg.length gc1, .slice g2 B.hm.length gc2, .slice g3 B.pd.length gc3, .slice g4 B.dr.length gc4, .int .i64 B.sq, .int .i64 B.bs, .int .i64 B.sf, .int .i64 B.at_, .int .i64 B.df]) B Hsm.out 1 (by omega) (by omega) _ Ng6.out.is.isBk).mono ?_
  rintro e w7 ⟨rfl, hb7⟩
  have B7 := belN B6 hb7
  have z7 := hb7.size
  have Np7 := Lib.hid (Np6.out.next hb7)
  clear Np6
  have Kp7 := Lib.hid (Kp6.out.below hb7 Kp6.out.lt)
  clear Kp6
  have Ng7 := Lib.hid (Ng6.out.next hb7)
  clear Ng6
  have Kg7 := Lib.hid (Kg6.out.below hb7 Kg6.out.lt)
  clear Kg6
  rw [Hm.out]
  have cKp0 := Kp7.out.get 0 rfl
  have cKp1 := Kp7.out.get 1 rfl
  have cKp2 := Kp7.out.get 2 rfl
  have cKp3 := Kp7.out.get 3 rfl
  have cKp4 := Kp7.out.get 4 rfl
  have cKp5 := Kp7.out.get 5 rfl
  have cKp6 := Kp7.out.get 6 rfl
  have cKp7 := Kp7.out.get 7 rfl
  have cKp8 := Kp7.out.get 8 rfl
  have lKp := Kp7.out.lt
  have cKg0 := Kg7.out.get 0 rfl
  have cKg1 := Kg7.out.get 1 rfl
  have cKg2 := Kg7.out.get 2 rfl
  have cKg3 := Kg7.out.get 3 rfl
  have cKg4 := Kg7.out.get 4 rfl
  have cKg5 := Kg7.out.get 5 rfl
  have cKg6 := Kg7.out.get 6 rfl
  have cKg7 := Kg7.out.get 7 rfl
  have cKg8 := Kg7.out.get 8 rfl
  have lKg := Kg7.out.lt
  go_wp2_with fail
  clear cKp0 cKp1 cKp2 cKp3 cKp4 cKp5 cKp6 cKp7 cKp8 lKp
  clear cKg0 cKg1 cKg2 cKg3 cKg4 cKg5 cKg6 cKg7 cKg8 lKg
  refine (HI.out w7 (HT0.out.bl B7)).mono ?_
  rintro e w8 ⟨h, loh, uph, rfl, hloh, hh, hb8⟩
  have B8 := belN B7 hb8
  have z8 := hb8.size
  have Np8 := Lib.hid (Np7.out.next hb8)
  clear Np7
  have Kp8 := Lib.hid (Kp7.out.below hb8 Kp7.out.lt)
  clear Kp7
  have Ng8 := Lib.hid (Ng7.out.next hb8)
  clear Ng7
  have Kg8 := Lib.hid (Kg7.out.below hb8 Kg7.out.lt)
  clear Kg7
  obtain ⟨_, _, _, _, ⟨h1, hc1, h2, hc2, h3, hc3, h4, hc4, rfl, rfl, rfl, rfl, rfl⟩, _⟩ := BkH.of hh
  have huph := hh.1
  have Nh8 := Lib.hid hh
  clear hh
  have cKp0 := Kp8.out.get 0 rfl
  have cKp1 := Kp8.out.get 1 rfl
  have cKp2 := Kp8.out.get 2 rfl
  have cKp3 := Kp8.out.get 3 rfl
  have cKp4 := Kp8.out.get 4 rfl
  have cKp5 := Kp8.out.get 5 rfl
  have cKp6 := Kp8.out.get 6 rfl
  have cKp7 := Kp8.out.get 7 rfl
  have cKp8 := Kp8.out.get 8 rfl
  have lKp := Kp8.out.lt
  have cKg0 := Kg8.out.get 0 rfl
  have cKg1 := Kg8.out.get 1 rfl
  have cKg2 := Kg8.out.get 2 rfl
  have cKg3 := Kg8.out.get 3 rfl
  have cKg4 := Kg8.out.get 4 rfl
  have cKg5 := Kg8.out.get 5 rfl
  have cKg6 := Kg8.out.get 6 rfl
  have cKg7 := Kg8.out.get 7 rfl
  have cKg8 := Kg8.out.get 8 rfl
  have lKg := Kg8.out.lt
  go_wp2_with fail
  clear cKp0 cKp1 cKp2 cKp3 cKp4 cKp5 cKp6 cKp7 cKp8 lKp
  clear cKg0 cKg1 cKg2 cKg3 cKg4 cKg5 cKg6 cKg7 cKg8 lKg
  obtain ⟨w9, hw9⟩ : ∃ W, w8.alloc (.cells #[.slice h1 B.rg.length hc1, .slice h2 B.hm.length hc2, .slice h3 B.pd.length hc3, .slice h4 B.dr.length hc4, .int .i64 B.sq, .int .i64 B.bs, .int .i64 B.sf, .int .i64 B.at_, .int .i64 B.df] 26) = W := ⟨_, rfl⟩
  have hb9 : Below w8.heap.size w8 w9 := by rw [← hw9]; exact belA (bel0 _) _
  have hO : Blk w9 w8.heap.size 26 #[.slice h1 B.rg.length hc1, .slice h2 B.hm.length hc2, .slice h3 B.pd.length hc3, .slice h4 B.dr.length hc4, .int .i64 B.sq, .int .i64 B.bs, .int .i64 B.sf, .int .i64 B.at_, .int .i64 B.df] := by rw [← hw9]; exact Blk.new' _ _ _ _ rfl
  have gh : w8.heap.size < w9.heap.size := hO.lt
  rw [hw9]
  clear hw9
  have B9 := belN B8 hb9
  have z9 := hb9.size
  have Np9 := Lib.hid (Np8.out.next hb9)
  clear Np8
  have Kp9 := Lib.hid (Kp8.out.below hb9 Kp8.out.lt)
  clear Kp8
  have Ng9 := Lib.hid (Ng8.out.next hb9)
  clear Ng8
  have Kg9 := Lib.hid (Kg8.out.below hb9 Kg8.out.lt)
  clear Kg8
  have Nh9 := Lib.hid (Nh8.out.next hb9)
  clear Nh8
  have Kh9 := Lib.hid hO
  clear hO
  refine (eqBk_is (.agg #[.slice h1 B.rg.length hc1, .slice h2 B.hm.length hc2, .slice h3 B.pd.length hc3, .slice h4 B.dr.length hc4, .int .i64 B.sq, .int .i64 B.bs, .int .i64 B.sf, .int .i64 B.at_, .int .i64 B.df]) (.agg #[.slice p1 B.rg.length pc1, .slice p2 B.hm.length pc2, .slice p3 B.pd.length pc3, .slice p4 B.dr.length pc4, .int .i64 B.sq, .int .i64 B.bs, .int .i64 B.sf, .int .i64 B.at_, .int .i64 B.df]) B Hsz.out _ Nh9.out.is.isBk Np9.out.is.isBk).mono ?_
  rintro e w10 ⟨rfl, hb10⟩
  have B10 := belN B9 hb10
  have z10 := hb10.size
  have Np10 := Lib.hid (Np9.out.next hb10)
  clear Np9
  have Kp10 := Lib.hid (Kp9.out.below hb10 Kp9.out.lt)
  clear Kp9
  have Ng10 := Lib.hid (Ng9.out.next hb10)
  clear Ng9
  have Kg10 := Lib.hid (Kg9.out.below hb10 Kg9.out.lt)
  clear Kg9
  have Nh10 := Lib.hid (Nh9.out.next hb10)
  clear Nh9
  have Kh10 := Lib.hid (Kh9.out.below hb10 Kh9.out.lt)
  clear Kh9
  have cKp0 := Kp10.out.get 0 rfl
  have cKp1 := Kp10.out.get 1 rfl
  have cKp2 := Kp10.out.get 2 rfl
  have cKp3 := Kp10.out.get 3 rfl
  have cKp4 := Kp10.out.get 4 rfl
  have cKp5 := Kp10.out.get 5 rfl
  have cKp6 := Kp10.out.get 6 rfl
  have cKp7 := Kp10.out.get 7 rfl
  have cKp8 := Kp10.out.get 8 rfl
  have lKp := Kp10.out.lt
  have cKg0 := Kg10.out.get 0 rfl
  have cKg1 := Kg10.out.get 1 rfl
  have cKg2 := Kg10.out.get 2 rfl
  have cKg3 := Kg10.out.get 3 rfl
  have cKg4 := Kg10.out.get 4 rfl
  have cKg5 := Kg10.out.get 5 rfl
  have cKg6 := Kg10.out.get 6 rfl
  have cKg7 := Kg10.out.get 7 rfl
  have cKg8 := Kg10.out.get 8 rfl
  have lKg := Kg10.out.lt
  have cKh0 := Kh10.out.get 0 rfl
  have cKh1 := Kh10.out.get 1 rfl
  have cKh2 := Kh10.out.get 2 rfl
  have cKh3 := Kh10.out.get 3 rfl
  have cKh4 := Kh10.out.get 4 rfl
  have cKh5 := Kh10.out.get 5 rfl
  have cKh6 := Kh10.out.get 6 rfl
  have cKh7 := Kh10.out.get 7 rfl
  have cKh8 := Kh10.out.get 8 rfl
  have lKh := Kh10.out.lt
  go_wp2_with fail
  clear cKp0 cKp1 cKp2 cKp3 cKp4 cKp5 cKp6 cKp7 cKp8 lKp
  clear cKg0 cKg1 cKg2 cKg3 cKg4 cKg5 cKg6 cKg7 cKg8 lKg
  clear cKh0 cKh1 cKh2 cKh3 cKh4 cKh5 cKh6 cKh7 cKh8 lKh
  refine (heldBk_in (.agg #[.slice g1 B.rg.length gc1, .slice g2 B.hm.length gc2, .slice g3 B.pd.length gc3, .slice g4 B.dr.length gc4, .int .i64 B.sq, .int .i64 B.bs, .int .i64 B.sf, .int .i64 B.at_, .int .i64 B.df]) B Hsm.out 1 (by omega) (by omega) _ Ng10.out.is.isBk).mono ?_
  rintro e w11 ⟨rfl, hb11⟩
  have B11 := belN B10 hb11
  have z11 := hb11.size
  have Np11 := Lib.hid (Np10.out.next hb11)
  clear Np10
  have Kp11 := Lib.hid (Kp10.out.below hb11 Kp10.out.lt)
  clear Kp10
  have Ng11 := Lib.hid (Ng10.out.next hb11)
  clear Ng10
  have Kg11 := Lib.hid (Kg10.out.below hb11 Kg10.out.lt)
  clear Kg10
  have Nh11 := Lib.hid (Nh10.out.next hb11)
  clear Nh10
  have Kh11 := Lib.hid (Kh10.out.below hb11 Kh10.out.lt)
  clear Kh10
  rw [Hm.out]
  have cKp0 := Kp11.out.get 0 rfl
  have cKp1 := Kp11.out.get 1 rfl
  have cKp2 := Kp11.out.get 2 rfl
  have cKp3 := Kp11.out.get 3 rfl
  have cKp4 := Kp11.out.get 4 rfl
  have cKp5 := Kp11.out.get 5 rfl
  have cKp6 := Kp11.out.get 6 rfl
  have cKp7 := Kp11.out.get 7 rfl
  have cKp8 := Kp11.out.get 8 rfl
  have lKp := Kp11.out.lt
  have cKg0 := Kg11.out.get 0 rfl
  have cKg1 := Kg11.out.get 1 rfl
  have cKg2 := Kg11.out.get 2 rfl
  have cKg3 := Kg11.out.get 3 rfl
  have cKg4 := Kg11.out.get 4 rfl
  have cKg5 := Kg11.out.get 5 rfl
  have cKg6 := Kg11.out.get 6 rfl
  have cKg7 := Kg11.out.get 7 rfl
  have cKg8 := Kg11.out.get 8 rfl
  have lKg := Kg11.out.lt
  have cKh0 := Kh11.out.get 0 rfl
  have cKh1 := Kh11.out.get 1 rfl
  have cKh2 := Kh11.out.get 2 rfl
  have cKh3 := Kh11.out.get 3 rfl
  have cKh4 := Kh11.out.get 4 rfl
  have cKh5 := Kh11.out.get 5 rfl
  have cKh6 := Kh11.out.get 6 rfl
  have cKh7 := Kh11.out.get 7 rfl
  have cKh8 := Kh11.out.get 8 rfl
  have lKh := Kh11.out.lt
  go_wp2
  go_ret
  exact ⟨rfl, B11⟩

set_option maxRecDepth 100000 in
theorem fnExactNewBook_contract (H : Type) (enc : TypeId × Value → H) (W : World) (base : Nat) (args : Array Value) (ds gs : List (DataW H)) (before : List MemPlace)
    (hval : ∀ (j : Nat) t v, Tryd.f3.params[j]? = some t → args[j]? = some v → Value.okWide Tryd.prog W .any base t v)
    (hW : DataW.Whole enc Tryd.prog Tryd.f3.params.toList Rows.fnExactNewBookSpec.vars false W args.toList ds gs before) (hL : laidMetH Tryd.prog Rows.fnExactNewBookRow.laid W) :
    Calls Tryd.prog 3 args W fun e W' => ∃ v, e = .returned v ∧ Rows.fnExactNewBookSpec.post enc Tryd.prog Tryd.f3 false true false false W args v W' := by
  have hW' := hW
  obtain ⟨p, q, hA0, hV, rfl, hfz, hnd⟩ := hW
  have hA : DataW.TrodAll enc Tryd.prog W 0 (fun _ => true) true Tryd.f3.params.toList args.toList ds p := hA0
  rw [Tryd.params3] at hA hval
  have hT := tab_of hL
  obtain ⟨_, _, _, g1, _, _, rfl, _⟩ := trodVars_one hV
  obtain ⟨rfl, rfl, rfl⟩ := trodAll_none hA
  
  clear hA0
  refine (law_fnExactNewBook  W hT ).mono fun e W' ⟨he, hw⟩ => ?_
  subst he
  exact ⟨_, rfl, law_postD Tryd.laidOut (by kernel_rfl) rfl Tryd.underlying4 (Tryd.varsOk hT) rfl hW' hw⟩

theorem fnExactNewBook_laid_met (os : Os) : laidMet Tryd.prog Rows.fnExactNewBookRow.laid ((laidWorld os #[]).forCall (fun _ _ => 0) ⟨#[], #[], []⟩).memory :=
  laidMet_of_run' 8 (by kernel_rfl) (by kernel_rfl)
theorem fnExactNewBook_reads (os : Os) {H : Type} (enc : TypeId × Value → H) : DataW.whole enc Tryd.prog ((laidWorld os #[]).forCall (fun _ _ => 0) ⟨#[], #[], []⟩).memory Tryd.f3.params.toList Rows.fnExactNewBookSpec.vars false (#[] : Array Value).toList 8 = some ([], [Rows.laid_loop_example_g00773_impl_knownParts], [] ++ MemPlace.row ⟨0, 0, none⟩ 54) := by kernel_rfl

set_option maxRecDepth 100000 in
theorem fnExactNewBook_lifted (os : Os) (started : os.Started) (H : Type) (enc : TypeId × Value → H) (F : Stop.Interp) :
    ReturnsInHanded {} Tryd.checked os 3 .any ((OpenSpec.ofChange Rows.fnExactNewBookSpec).preRow enc Tryd.prog Tryd.f3 Rows.fnExactNewBookRow.domain false Rows.fnExactNewBookRow.laid) (((OpenSpec.ofChange Rows.fnExactNewBookSpec).at F).post enc Tryd.prog Tryd.f3 false true false false) := by
  refine returnsInHanded_of_row (C := Tryd.checked) (s := OpenSpec.ofChange Rows.fnExactNewBookSpec) Tryd.own started (by kernel_rfl) Tryd.func3
    (witness_row_at (enc := enc) (C := Tryd.checked) false (laidWorld os #[]) #[] rfl (by kernel_rfl) (by kernel_rfl) (by kernel_rfl)
      (OpenSpec.preRow_of_cond 8 (fnExactNewBook_reads os enc) (by kernel_rfl) (fun k hk => by cases hk) (by kernel_rfl) (fnExactNewBook_laid_met os))) ?_
  intro W base args ds gs before hval hW _ _ _ hL _ _
  exact fnExactNewBook_contract H enc W base args ds gs before hval hW hL

theorem fnExactNewBook_said : Rows.FnExactNewBookSaid :=
  OpenClaim.holds_of_cond 3 Tryd.f3 rfl rfl rfl rfl rfl rfl rfl ⟨rfl, rfl, rfl, rfl, rfl⟩ rfl rfl rfl rfl rfl (by kernel_rfl) Tryd.func3 (by kernel_rfl)
    (of_decide_eq_true (by kernel_rfl)) (by unfold Func.isWrapper; rw [if_neg (of_decide_eq_false (by kernel_rfl))]; exact ⟨rfl, rfl⟩)
    (fun os started H enc _ F => by rw [OpenClaim.pre_eq_preRow]; exact fnExactNewBook_lifted os started H enc F)

theorem fnExactNewBook_plain (f : FuncId) (fn : Func) (hf : Tryd.pinned.checked.prog.funcNamed "loop.example/g00773/laws.FnExactNewBook" = some f) (hfn : Tryd.pinned.checked.prog.funcs[f]? = some fn) :
    false = Tryd.pinned.checked.prog.looks [] ∧ ∀ (j : Nat) t, fn.params[j]? = some t → Tryd.pinned.checked.prog.wantsStandIn t = false := by
  obtain rfl : f = 3 := Option.some.inj ((show Tryd.prog.funcNamed "loop.example/g00773/laws.FnExactNewBook" = some 3 by kernel_rfl).symm.trans hf) |>.symm
  obtain rfl : fn = Tryd.f3 := (Option.some.inj (Tryd.func3.symm.trans hfn)).symm
  refine ⟨by kernel_rfl, fun j t ht => ?_⟩
  rw [Tryd.params3] at ht
  simp at ht

theorem fnExactNewBook_card : Rows.FnExactNewBookCardSaid :=
  Claim7.holds_tied_plain_at .later [] _ _ _ _ fnExactNewBook_said (fun _ h => by cases h) (by kernel_rfl) (fun _ h => by cases h) fnExactNewBook_row_tie rfl ⟨rfl, rfl⟩ (by kernel_rfl) rfl fnExactNewBook_plain (by kernel_rfl)

end Go.Proofs.YtlgjehdocppofaaDoor
