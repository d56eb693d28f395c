/- The law of BookOk: what the program's BookOk says is what the reference's says. The table of known signs is held as the program's text lays it. -/
import Derived.Test.YtijfjgenbdbafaaDoorBkOkS
import Derived.Test.YtijfjgenbdbafaaDoorFrameVol
import Derived.Test.YtijfjgenbdbafaaDoorFrameD
namespace Go.Proofs.YtijfjgenbdbafaaDoor
open Go Go.RowKit Go.ChangeShapes Go.WideShapes Go.ChangeAt Go.Joins
open Go.ChangeMaps (open_string)

set_option maxRecDepth 100000 in
set_option maxHeartbeats 4000000 in
theorem law_fnExactBookOk (va : Value) (a : BookD) (hza : (BookBig a)) (hna : True) (w : World) (hT : Tab w) (ha : IsBook w va a) :
    Calls Tryd.prog 7 #[va] w fun e w' => e = .returned (.bool true) ∧ Below w.heap.size w w' := by
  have HT0 := Lib.hid hT
  clear hT
  obtain ⟨A0a, c0a, A1a, c1a, A2a, c2a, A3a, c3a, ea, ha⟩ := ha
  subst ea
  have HAa0 := Lib.hid (show IsBook w (.agg #[.slice A0a a.rg.length c0a, .slice A1a a.hm.length c1a, .slice A2a a.pd.length c2a, .slice A3a a.dr.length c3a, .int .i64 a.sq, .int .i64 a.bs, .int .i64 a.sf, .int .i64 a.at_, .int .i64 a.df]) a from ⟨A0a, c0a, A1a, c1a, A2a, c2a, A3a, c3a, rfl, ha⟩)
  have Hza := Lib.hid hza
  clear ha hza
  go_enter Tryd.func7, Tryd.ntmps7
  go_wp2_with fail
  obtain ⟨w0, hw0⟩ : ∃ w0, w.alloc (.cells #[.slice A0a a.rg.length c0a, .slice A1a a.hm.length c1a, .slice A2a a.pd.length c2a, .slice A3a a.dr.length c3a, .int .i64 a.sq, .int .i64 a.bs, .int .i64 a.sf, .int .i64 a.at_, .int .i64 a.df] 47) = w0 := ⟨_, rfl⟩
  have Bx : Below w.heap.size w w0 := by rw [← hw0]; exact belA (bel0 w) _
  have hO : Blk w0 w.heap.size 47 #[.slice A0a a.rg.length c0a, .slice A1a a.hm.length c1a, .slice A2a a.pd.length c2a, .slice A3a a.dr.length c3a, .int .i64 a.sq, .int .i64 a.bs, .int .i64 a.sf, .int .i64 a.at_, .int .i64 a.df] := by rw [← hw0]; exact Blk.new' _ _ _ _ rfl
  have X0_0 := Lib.hid (hO.get 0 rfl)
  have X1_0 := Lib.hid (hO.get 1 rfl)
  have X2_0 := Lib.hid (hO.get 2 rfl)
  have X3_0 := Lib.hid (hO.get 3 rfl)
  have X4_0 := Lib.hid (hO.get 4 rfl)
  have X5_0 := Lib.hid (hO.get 5 rfl)
  have X6_0 := Lib.hid (hO.get 6 rfl)
  have X7_0 := Lib.hid (hO.get 7 rfl)
  have X8_0 := Lib.hid (hO.get 8 rfl)
  rw [hw0]
  clear hw0 hO
  replace HT0 := Lib.hid (HT0.out.bl Bx)
  replace HAa0 := Lib.hid (HAa0.out.next Bx)
  refine (szBk_is (.agg #[.slice A0a a.rg.length c0a, .slice A1a a.hm.length c1a, .slice A2a a.pd.length c2a, .slice A3a a.dr.length c3a, .int .i64 a.sq, .int .i64 a.bs, .int .i64 a.sf, .int .i64 a.at_, .int .i64 a.df]) a Hza.out hna 1048576 (by omega) (by omega) _ HAa0.out).mono ?_
  rintro e w1 ⟨ra, rfl, hra, hb1⟩
  have B1 := hb1
  have HT1 := Lib.hid (HT0.out.bl hb1)
  clear HT0
  have HAa1 := Lib.hid (HAa0.out.next hb1)
  clear HAa0
  have X0_1 := Lib.hid (keep1 hb1 X0_0.out (Nat.le_refl _))
  clear X0_0
  have X1_1 := Lib.hid (keep1 hb1 X1_0.out (Nat.le_refl _))
  clear X1_0
  have X2_1 := Lib.hid (keep1 hb1 X2_0.out (Nat.le_refl _))
  clear X2_0
  have X3_1 := Lib.hid (keep1 hb1 X3_0.out (Nat.le_refl _))
  clear X3_0
  have X4_1 := Lib.hid (keep1 hb1 X4_0.out (Nat.le_refl _))
  clear X4_0
  have X5_1 := Lib.hid (keep1 hb1 X5_0.out (Nat.le_refl _))
  clear X5_0
  have X6_1 := Lib.hid (keep1 hb1 X6_0.out (Nat.le_refl _))
  clear X6_0
  have X7_1 := Lib.hid (keep1 hb1 X7_0.out (Nat.le_refl _))
  clear X7_0
  have X8_1 := Lib.hid (keep1 hb1 X8_0.out (Nat.le_refl _))
  clear X8_0
  by_cases nega : ra < 0
  · go_wp2
    go_ret
    exact ⟨rfl, belN Bx B1⟩
  have sma : szBk a ≤ 1048576 := by omega
  clear hra hna Hza
  have cX0_ := X0_1.out
  have cX1_ := X1_1.out
  have cX2_ := X2_1.out
  have cX3_ := X3_1.out
  have cX4_ := X4_1.out
  have cX5_ := X5_1.out
  have cX6_ := X6_1.out
  have cX7_ := X7_1.out
  have cX8_ := X8_1.out
  go_wp2_with fail
  clear cX0_ cX1_ cX2_ cX3_ cX4_ cX5_ cX6_ cX7_ cX8_
  refine (toBk_is (.agg #[.slice A0a a.rg.length c0a, .slice A1a a.hm.length c1a, .slice A2a a.pd.length c2a, .slice A3a a.dr.length c3a, .int .i64 a.sq, .int .i64 a.bs, .int .i64 a.sf, .int .i64 a.at_, .int .i64 a.df]) a sma _ HAa1.out).mono ?_
  rintro e w2 ⟨ya, rfl, frya, hb2⟩
  have B2 := belN B1 hb2
  have HT2 := Lib.hid (HT1.out.bl hb2)
  clear HT1
  have HAa2 := Lib.hid (HAa1.out.next hb2)
  clear HAa1
  have X0_2 := Lib.hid (keep1 hb2 X0_1.out (Nat.le_refl _))
  clear X0_1
  have X1_2 := Lib.hid (keep1 hb2 X1_1.out (Nat.le_refl _))
  clear X1_1
  have X2_2 := Lib.hid (keep1 hb2 X2_1.out (Nat.le_refl _))
  clear X2_1
  have X3_2 := Lib.hid (keep1 hb2 X3_1.out (Nat.le_refl _))
  clear X3_1
  have X4_2 := Lib.hid (keep1 hb2 X4_1.out (Nat.le_refl _))
  clear X4_1
  have X5_2 := Lib.hid (keep1 hb2 X5_1.out (Nat.le_refl _))
  clear X5_1
  have X6_2 := Lib.hid (keep1 hb2 X6_1.out (Nat.le_refl _))
  clear X6_1
  have X7_2 := Lib.hid (keep1 hb2 X7_1.out (Nat.le_refl _))
  clear X7_1
  have X8_2 := Lib.hid (keep1 hb2 X8_1.out (Nat.le_refl _))
  clear X8_1
  obtain ⟨A0ya, c0ya, A1ya, c1ya, A2ya, c2ya, A3ya, c3ya, eya, qya⟩ := frya
  subst eya
  have Hya2 := Lib.hid (show IsBook w2 (.agg #[.slice A0ya a.rg.length c0ya, .slice A1ya a.hm.length c1ya, .slice A2ya a.pd.length c2ya, .slice A3ya a.dr.length c3ya, .int .i64 a.sq, .int .i64 a.bs, .int .i64 a.sf, .int .i64 a.at_, .int .i64 a.df]) a from ⟨A0ya, c0ya, A1ya, c1ya, A2ya, c2ya, A3ya, c3ya, rfl, qya⟩)
  clear qya
  have cX0_ := X0_2.out
  have cX1_ := X1_2.out
  have cX2_ := X2_2.out
  have cX3_ := X3_2.out
  have cX4_ := X4_2.out
  have cX5_ := X5_2.out
  have cX6_ := X6_2.out
  have cX7_ := X7_2.out
  have cX8_ := X8_2.out
  go_wp2_with fail
  clear cX0_ cX1_ cX2_ cX3_ cX4_ cX5_ cX6_ cX7_ cX8_
  refine (bookOk_spec (.agg #[.slice A0ya a.rg.length c0ya, .slice A1ya a.hm.length c1ya, .slice A2ya a.pd.length c2ya, .slice A3ya a.dr.length c3ya, .int .i64 a.sq, .int .i64 a.bs, .int .i64 a.sf, .int .i64 a.at_, .int .i64 a.df]) a sma _  Hya2.out).mono ?_
  rintro e w3 ⟨rfl, hb3⟩
  have B3 := belN B2 hb3
  have HT3 := Lib.hid (HT2.out.bl hb3)
  clear HT2
  have HAa3 := Lib.hid (HAa2.out.next hb3)
  clear HAa2
  have X0_3 := Lib.hid (keep1 hb3 X0_2.out (Nat.le_refl _))
  clear X0_2
  have X1_3 := Lib.hid (keep1 hb3 X1_2.out (Nat.le_refl _))
  clear X1_2
  have X2_3 := Lib.hid (keep1 hb3 X2_2.out (Nat.le_refl _))
  clear X2_2
  have X3_3 := Lib.hid (keep1 hb3 X3_2.out (Nat.le_refl _))
  clear X3_2
  have X4_3 := Lib.hid (keep1 hb3 X4_2.out (Nat.le_refl _))
  clear X4_2
  have X5_3 := Lib.hid (keep1 hb3 X5_2.out (Nat.le_refl _))
  clear X5_2
  have X6_3 := Lib.hid (keep1 hb3 X6_2.out (Nat.le_refl _))
  clear X6_2
  have X7_3 := Lib.hid (keep1 hb3 X7_2.out (Nat.le_refl _))
  clear X7_2
  have X8_3 := Lib.hid (keep1 hb3 X8_2.out (Nat.le_refl _))
  clear X8_2
  have Hya3 := Lib.hid (Hya2.out.next hb3)
  clear Hya2
  clear Hya3
  have cX0_ := X0_3.out
  have cX1_ := X1_3.out
  have cX2_ := X2_3.out
  have cX3_ := X3_3.out
  have cX4_ := X4_3.out
  have cX5_ := X5_3.out
  have cX6_ := X6_3.out
  have cX7_ := X7_3.out
  have cX8_ := X8_3.out
  go_wp2_with fail
  clear cX0_ cX1_ cX2_ cX3_ cX4_ cX5_ cX6_ cX7_ cX8_
  refine (toBk_is (.agg #[.slice A0a a.rg.length c0a, .slice A1a a.hm.length c1a, .slice A2a a.pd.length c2a, .slice A3a a.dr.length c3a, .int .i64 a.sq, .int .i64 a.bs, .int .i64 a.sf, .int .i64 a.at_, .int .i64 a.df]) a sma _ HAa3.out).mono ?_
  rintro e w4 ⟨xa, rfl, frxa, hb4⟩
  have B4 := belN B3 hb4
  have HT4 := Lib.hid (HT3.out.bl hb4)
  clear HT3
  have HAa4 := Lib.hid (HAa3.out.next hb4)
  clear HAa3
  have X0_4 := Lib.hid (keep1 hb4 X0_3.out (Nat.le_refl _))
  clear X0_3
  have X1_4 := Lib.hid (keep1 hb4 X1_3.out (Nat.le_refl _))
  clear X1_3
  have X2_4 := Lib.hid (keep1 hb4 X2_3.out (Nat.le_refl _))
  clear X2_3
  have X3_4 := Lib.hid (keep1 hb4 X3_3.out (Nat.le_refl _))
  clear X3_3
  have X4_4 := Lib.hid (keep1 hb4 X4_3.out (Nat.le_refl _))
  clear X4_3
  have X5_4 := Lib.hid (keep1 hb4 X5_3.out (Nat.le_refl _))
  clear X5_3
  have X6_4 := Lib.hid (keep1 hb4 X6_3.out (Nat.le_refl _))
  clear X6_3
  have X7_4 := Lib.hid (keep1 hb4 X7_3.out (Nat.le_refl _))
  clear X7_3
  have X8_4 := Lib.hid (keep1 hb4 X8_3.out (Nat.le_refl _))
  clear X8_3
  obtain ⟨A0xa, c0xa, A1xa, c1xa, A2xa, c2xa, A3xa, c3xa, exa, qxa⟩ := frxa
  subst exa
  have Hxa4 := Lib.hid (show IsBook w4 (.agg #[.slice A0xa a.rg.length c0xa, .slice A1xa a.hm.length c1xa, .slice A2xa a.pd.length c2xa, .slice A3xa a.dr.length c3xa, .int .i64 a.sq, .int .i64 a.bs, .int .i64 a.sf, .int .i64 a.at_, .int .i64 a.df]) a from ⟨A0xa, c0xa, A1xa, c1xa, A2xa, c2xa, A3xa, c3xa, rfl, qxa⟩)
  clear qxa
  have cX0_ := X0_4.out
  have cX1_ := X1_4.out
  have cX2_ := X2_4.out
  have cX3_ := X3_4.out
  have cX4_ := X4_4.out
  have cX5_ := X5_4.out
  have cX6_ := X6_4.out
  have cX7_ := X7_4.out
  have cX8_ := X8_4.out
  go_wp2_with fail
  clear cX0_ cX1_ cX2_ cX3_ cX4_ cX5_ cX6_ cX7_ cX8_
  obtain ⟨w5, hw5⟩ : ∃ W, w4.alloc (.cells #[.slice A0xa a.rg.length c0xa, .slice A1xa a.hm.length c1xa, .slice A2xa a.pd.length c2xa, .slice A3xa a.dr.length c3xa, .int .i64 a.sq, .int .i64 a.bs, .int .i64 a.sf, .int .i64 a.at_, .int .i64 a.df] 52) = W := ⟨_, rfl⟩
  have hb5 : Below w4.heap.size w4 w5 := by rw [← hw5]; exact belA (bel0 _) _
  have hO : Blk w5 w4.heap.size 52 #[.slice A0xa a.rg.length c0xa, .slice A1xa a.hm.length c1xa, .slice A2xa a.pd.length c2xa, .slice A3xa a.dr.length c3xa, .int .i64 a.sq, .int .i64 a.bs, .int .i64 a.sf, .int .i64 a.at_, .int .i64 a.df] := by rw [← hw5]; exact Blk.new' _ _ _ _ rfl
  have Ka0_5 := Lib.hid (hO.get 0 rfl)
  have Ka1_5 := Lib.hid (hO.get 1 rfl)
  have Ka2_5 := Lib.hid (hO.get 2 rfl)
  have Ka3_5 := Lib.hid (hO.get 3 rfl)
  have Ka4_5 := Lib.hid (hO.get 4 rfl)
  have Ka5_5 := Lib.hid (hO.get 5 rfl)
  have Ka6_5 := Lib.hid (hO.get 6 rfl)
  have Ka7_5 := Lib.hid (hO.get 7 rfl)
  have Ka8_5 := Lib.hid (hO.get 8 rfl)
  rw [hw5]
  clear hw5 hO
  have B5 := belN B4 hb5
  have HT5 := Lib.hid (HT4.out.bl hb5)
  clear HT4
  have HAa5 := Lib.hid (HAa4.out.next hb5)
  clear HAa4
  have X0_5 := Lib.hid (keep1 hb5 X0_4.out (Nat.le_refl _))
  clear X0_4
  have X1_5 := Lib.hid (keep1 hb5 X1_4.out (Nat.le_refl _))
  clear X1_4
  have X2_5 := Lib.hid (keep1 hb5 X2_4.out (Nat.le_refl _))
  clear X2_4
  have X3_5 := Lib.hid (keep1 hb5 X3_4.out (Nat.le_refl _))
  clear X3_4
  have X4_5 := Lib.hid (keep1 hb5 X4_4.out (Nat.le_refl _))
  clear X4_4
  have X5_5 := Lib.hid (keep1 hb5 X5_4.out (Nat.le_refl _))
  clear X5_4
  have X6_5 := Lib.hid (keep1 hb5 X6_4.out (Nat.le_refl _))
  clear X6_4
  have X7_5 := Lib.hid (keep1 hb5 X7_4.out (Nat.le_refl _))
  clear X7_4
  have X8_5 := Lib.hid (keep1 hb5 X8_4.out (Nat.le_refl _))
  clear X8_4
  have Hxa5 := Lib.hid (Hxa4.out.next hb5)
  clear Hxa4
  refine (bookOk_impl (.agg #[.slice A0xa a.rg.length c0xa, .slice A1xa a.hm.length c1xa, .slice A2xa a.pd.length c2xa, .slice A3xa a.dr.length c3xa, .int .i64 a.sq, .int .i64 a.bs, .int .i64 a.sf, .int .i64 a.at_, .int .i64 a.df]) a sma _ HT5.out Hxa5.out).mono ?_
  rintro e w6 ⟨rfl, hb6⟩
  have B6 := belN B5 hb6
  have HT6 := Lib.hid (HT5.out.bl hb6)
  clear HT5
  have HAa6 := Lib.hid (HAa5.out.next hb6)
  clear HAa5
  have X0_6 := Lib.hid (keep1 hb6 X0_5.out (Nat.le_refl _))
  clear X0_5
  have X1_6 := Lib.hid (keep1 hb6 X1_5.out (Nat.le_refl _))
  clear X1_5
  have X2_6 := Lib.hid (keep1 hb6 X2_5.out (Nat.le_refl _))
  clear X2_5
  have X3_6 := Lib.hid (keep1 hb6 X3_5.out (Nat.le_refl _))
  clear X3_5
  have X4_6 := Lib.hid (keep1 hb6 X4_5.out (Nat.le_refl _))
  clear X4_5
  have X5_6 := Lib.hid (keep1 hb6 X5_5.out (Nat.le_refl _))
  clear X5_5
  have X6_6 := Lib.hid (keep1 hb6 X6_5.out (Nat.le_refl _))
  clear X6_5
  have X7_6 := Lib.hid (keep1 hb6 X7_5.out (Nat.le_refl _))
  clear X7_5
  have X8_6 := Lib.hid (keep1 hb6 X8_5.out (Nat.le_refl _))
  clear X8_5
  have Hxa6 := Lib.hid (Hxa5.out.next hb6)
  clear Hxa5
  have Ka0_6 := Lib.hid (keep1 hb6 Ka0_5.out (Nat.le_refl _))
  clear Ka0_5
  have Ka1_6 := Lib.hid (keep1 hb6 Ka1_5.out (Nat.le_refl _))
  clear Ka1_5
  have Ka2_6 := Lib.hid (keep1 hb6 Ka2_5.out (Nat.le_refl _))
  clear Ka2_5
  have Ka3_6 := Lib.hid (keep1 hb6 Ka3_5.out (Nat.le_refl _))
  clear Ka3_5
  have Ka4_6 := Lib.hid (keep1 hb6 Ka4_5.out (Nat.le_refl _))
  clear Ka4_5
  have Ka5_6 := Lib.hid (keep1 hb6 Ka5_5.out (Nat.le_refl _))
  clear Ka5_5
  have Ka6_6 := Lib.hid (keep1 hb6 Ka6_5.out (Nat.le_refl _))
  clear Ka6_5
  have Ka7_6 := Lib.hid (keep1 hb6 Ka7_5.out (Nat.le_refl _))
  clear Ka7_5
  have Ka8_6 := Lib.hid (keep1 hb6 Ka8_5.out (Nat.le_refl _))
  clear Ka8_5
  have cX0_ := X0_6.out
  have cX1_ := X1_6.out
  have cX2_ := X2_6.out
  have cX3_ := X3_6.out
  have cX4_ := X4_6.out
  have cX5_ := X5_6.out
  have cX6_ := X6_6.out
  have cX7_ := X7_6.out
  have cX8_ := X8_6.out
  have cKa0_ := Ka0_6.out
  have cKa1_ := Ka1_6.out
  have cKa2_ := Ka2_6.out
  have cKa3_ := Ka3_6.out
  have cKa4_ := Ka4_6.out
  have cKa5_ := Ka5_6.out
  have cKa6_ := Ka6_6.out
  have cKa7_ := Ka7_6.out
  have cKa8_ := Ka8_6.out
  go_wp2_with fail
  go_region_held3 (fun w' => w'.cell? ⟨w.heap.size, 0, none⟩ = some (.slice A0a a.rg.length c0a) ∧ w'.cell? ⟨w.heap.size, 1, none⟩ = some (.slice A1a a.hm.length c1a) ∧ w'.cell? ⟨w.heap.size, 2, none⟩ = some (.slice A2a a.pd.length c2a) ∧ w'.cell? ⟨w.heap.size, 3, none⟩ = some (.slice A3a a.dr.length c3a) ∧ w'.cell? ⟨w.heap.size, 4, none⟩ = some (.int .i64 a.sq) ∧ w'.cell? ⟨w.heap.size, 5, none⟩ = some (.int .i64 a.bs) ∧ w'.cell? ⟨w.heap.size, 6, none⟩ = some (.int .i64 a.sf) ∧ w'.cell? ⟨w.heap.size, 7, none⟩ = some (.int .i64 a.at_) ∧ w'.cell? ⟨w.heap.size, 8, none⟩ = some (.int .i64 a.df) ∧ w'.cell? ⟨w4.heap.size, 0, none⟩ = some (.slice A0xa a.rg.length c0xa) ∧ w'.cell? ⟨w4.heap.size, 1, none⟩ = some (.slice A1xa a.hm.length c1xa) ∧ w'.cell? ⟨w4.heap.size, 2, none⟩ = some (.slice A2xa a.pd.length c2xa) ∧ w'.cell? ⟨w4.heap.size, 3, none⟩ = some (.slice A3xa a.dr.length c3xa) ∧ w'.cell? ⟨w4.heap.size, 4, none⟩ = some (.int .i64 a.sq) ∧ w'.cell? ⟨w4.heap.size, 5, none⟩ = some (.int .i64 a.bs) ∧ w'.cell? ⟨w4.heap.size, 6, none⟩ = some (.int .i64 a.sf) ∧ w'.cell? ⟨w4.heap.size, 7, none⟩ = some (.int .i64 a.at_) ∧ w'.cell? ⟨w4.heap.size, 8, none⟩ = some (.int .i64 a.df))
    (first | go_keep | (refine ⟨keep1 hb8 ?_, keep1 hb8 ?_, keep1 hb8 ?_, keep1 hb8 ?_, keep1 hb8 ?_, keep1 hb8 ?_, keep1 hb8 ?_, keep1 hb8 ?_, keep1 hb8 ?_, keep1 hb8 ?_, keep1 hb8 ?_, keep1 hb8 ?_, keep1 hb8 ?_, keep1 hb8 ?_, keep1 hb8 ?_, keep1 hb8 ?_, keep1 hb8 ?_, keep1 hb8 ?_⟩ <;> go_keep) | (refine ⟨keep1 hb7 ?_, keep1 hb7 ?_, keep1 hb7 ?_, keep1 hb7 ?_, keep1 hb7 ?_, keep1 hb7 ?_, keep1 hb7 ?_, keep1 hb7 ?_, keep1 hb7 ?_, keep1 hb7 ?_, keep1 hb7 ?_, keep1 hb7 ?_, keep1 hb7 ?_, keep1 hb7 ?_, keep1 hb7 ?_, keep1 hb7 ?_, keep1 hb7 ?_, keep1 hb7 ?_⟩ <;> go_keep))
    (first
      | (go_at_call 32; refine (toBk_is (.agg #[.slice A0a a.rg.length c0a, .slice A1a a.hm.length c1a, .slice A2a a.pd.length c2a, .slice A3a a.dr.length c3a, .int .i64 a.sq, .int .i64 a.bs, .int .i64 a.sf, .int .i64 a.at_, .int .i64 a.df]) a sma _ (HAa6.out.next (bel0 w6).drew)).mono ?_; rintro e w7 ⟨za, rfl, frza, hb7⟩; obtain ⟨A0za, c0za, A1za, c1za, A2za, c2za, A3za, c3za, eza, qza⟩ := frza; subst eza)
      | (go_at_call 34; refine (eqBk_is (.agg #[.slice A0xa a.rg.length c0xa, .slice A1xa a.hm.length c1xa, .slice A2xa a.pd.length c2xa, .slice A3xa a.dr.length c3xa, .int .i64 a.sq, .int .i64 a.bs, .int .i64 a.sf, .int .i64 a.at_, .int .i64 a.df]) (.agg #[.slice A0za a.rg.length c0za, .slice A1za a.hm.length c1za, .slice A2za a.pd.length c2za, .slice A3za a.dr.length c3za, .int .i64 a.sq, .int .i64 a.bs, .int .i64 a.sf, .int .i64 a.at_, .int .i64 a.df]) a sma _ ((Hxa6.out.next (bel0 w6).drew).next hb7) (show IsBook w7 (.agg #[.slice A0za a.rg.length c0za, .slice A1za a.hm.length c1za, .slice A2za a.pd.length c2za, .slice A3za a.dr.length c3za, .int .i64 a.sq, .int .i64 a.bs, .int .i64 a.sf, .int .i64 a.at_, .int .i64 a.df]) a from ⟨A0za, c0za, A1za, c1za, A2za, c2za, A3za, c3za, rfl, qza⟩)).mono ?_; rintro e w8 ⟨rfl, hb8⟩))
  have B8 := belN (belN B6.drew hb7) hb8
  clear cX0_ cX1_ cX2_ cX3_ cX4_ cX5_ cX6_ cX7_ cX8_ cKa0_ cKa1_ cKa2_ cKa3_ cKa4_ cKa5_ cKa6_ cKa7_ cKa8_
  go_wp2
  go_ret
  exact ⟨rfl, belN Bx B8⟩

set_option maxRecDepth 100000 in
theorem fnExactBookOk_contract (H : Type) (enc : TypeId × Value → H) (W : World) (base : Nat) (args : Array Value) (ds gs : List (DataW H)) (before : List MemPlace)
    (hval : ∀ (j : Nat) t v, Tryd.f7.params[j]? = some t → args[j]? = some v → Value.okWide Tryd.prog W .any base t v)
    (hW : DataW.Whole enc Tryd.prog Tryd.f7.params.toList Rows.fnExactBookOkSpec.vars false W args.toList ds gs before) (hL : laidMetH Tryd.prog Rows.fnExactBookOkRow.laid W) :
    Calls Tryd.prog 7 args W fun e W' => ∃ v, e = .returned v ∧ Rows.fnExactBookOkSpec.post enc Tryd.prog Tryd.f7 false true false false W args v W' := by
  have hW' := hW
  obtain ⟨p, q, hA0, hV, rfl, hfz, hnd⟩ := hW
  have hA : DataW.TrodAll enc Tryd.prog W 0 (fun _ => true) true Tryd.f7.params.toList args.toList ds p := hA0
  rw [Tryd.params7] at hA hval
  have hT := tab_of hL
  obtain ⟨_, _, _, g1, _, _, rfl, _⟩ := trodVars_one hV
  obtain ⟨v0, d0, rfl, rfl, h0⟩ := trodAll_one hA
  obtain ⟨a, hza, hna, hIa⟩ := open_book_is (hval 0 47 v0 rfl rfl) h0
  clear hA0
  refine (law_fnExactBookOk _ a hza hna W hT hIa).mono fun e W' ⟨he, hw⟩ => ?_
  subst he
  exact ⟨_, rfl, law_postD Tryd.laidOut (by kernel_rfl) rfl Tryd.underlying4 (Tryd.varsOk hT) rfl hW' hw⟩

theorem fnExactBookOk_laid_met (os : Os) : laidMet Tryd.prog Rows.fnExactBookOkRow.laid ((laidWorld os #[.agg #[.slice none 0 0, .slice none 0 0, .slice none 0 0, .slice none 0 0, .int .i64 0, .int .i64 0, .int .i64 0, .int .i64 0, .int .i64 0]]).forCall (fun _ _ => 0) ⟨#[], #[.agg #[.slice none 0 0, .slice none 0 0, .slice none 0 0, .slice none 0 0, .int .i64 0, .int .i64 0, .int .i64 0, .int .i64 0, .int .i64 0]], []⟩).memory :=
  laidMet_of_run' 8 (by kernel_rfl) (by kernel_rfl)
theorem fnExactBookOk_reads (os : Os) {H : Type} (enc : TypeId × Value → H) : DataW.whole enc Tryd.prog ((laidWorld os #[.agg #[.slice none 0 0, .slice none 0 0, .slice none 0 0, .slice none 0 0, .int .i64 0, .int .i64 0, .int .i64 0, .int .i64 0, .int .i64 0]]).forCall (fun _ _ => 0) ⟨#[], #[.agg #[.slice none 0 0, .slice none 0 0, .slice none 0 0, .slice none 0 0, .int .i64 0, .int .i64 0, .int .i64 0, .int .i64 0, .int .i64 0]], []⟩).memory Tryd.f7.params.toList Rows.fnExactBookOkSpec.vars false (#[.agg #[.slice none 0 0, .slice none 0 0, .slice none 0 0, .slice none 0 0, .int .i64 0, .int .i64 0, .int .i64 0, .int .i64 0, .int .i64 0]] : Array Value).toList 8 = some ([.agg [.nil, .nil, .nil, .nil, .lit (.int .i64 0), .lit (.int .i64 0), .lit (.int .i64 0), .lit (.int .i64 0), .lit (.int .i64 0)]], [Rows.laid_loop_example_g00773_impl_knownParts], [] ++ MemPlace.row ⟨0, 0, none⟩ 54) := by kernel_rfl

set_option maxRecDepth 100000 in
theorem fnExactBookOk_lifted (os : Os) (started : os.Started) (H : Type) (enc : TypeId × Value → H) (F : Stop.Interp) :
    ReturnsInHanded {} Tryd.checked os 7 .any ((OpenSpec.ofChange Rows.fnExactBookOkSpec).preRow enc Tryd.prog Tryd.f7 Rows.fnExactBookOkRow.domain false Rows.fnExactBookOkRow.laid) (((OpenSpec.ofChange Rows.fnExactBookOkSpec).at F).post enc Tryd.prog Tryd.f7 false true false false) := by
  refine returnsInHanded_of_row (C := Tryd.checked) (s := OpenSpec.ofChange Rows.fnExactBookOkSpec) Tryd.own started (by kernel_rfl) Tryd.func7
    (witness_row_at (enc := enc) (C := Tryd.checked) false (laidWorld os #[.agg #[.slice none 0 0, .slice none 0 0, .slice none 0 0, .slice none 0 0, .int .i64 0, .int .i64 0, .int .i64 0, .int .i64 0, .int .i64 0]]) #[.agg #[.slice none 0 0, .slice none 0 0, .slice none 0 0, .slice none 0 0, .int .i64 0, .int .i64 0, .int .i64 0, .int .i64 0, .int .i64 0]] rfl (by kernel_rfl) (by kernel_rfl) (by kernel_rfl)
      (OpenSpec.preRow_of_cond 8 (fnExactBookOk_reads os enc) (by kernel_rfl) (fun k hk => by cases hk) (by kernel_rfl) (fnExactBookOk_laid_met os))) ?_
  intro W base args ds gs before hval hW _ _ _ hL _ _
  exact fnExactBookOk_contract H enc W base args ds gs before hval hW hL

theorem fnExactBookOk_said : Rows.FnExactBookOkSaid :=
  OpenClaim.holds_of_cond 7 Tryd.f7 rfl rfl rfl rfl rfl rfl rfl ⟨rfl, rfl, rfl, rfl, rfl⟩ rfl rfl rfl rfl rfl (by kernel_rfl) Tryd.func7 (by kernel_rfl)
    (of_decide_eq_true (by kernel_rfl)) (by unfold Func.isWrapper; rw [if_neg (of_decide_eq_false (by kernel_rfl))]; exact ⟨rfl, rfl⟩)
    (fun os started H enc _ F => by rw [OpenClaim.pre_eq_preRow]; exact fnExactBookOk_lifted os started H enc F)

theorem fnExactBookOk_plain (f : FuncId) (fn : Func) (hf : Tryd.pinned.checked.prog.funcNamed "loop.example/g00773/laws.FnExactBookOk" = some f) (hfn : Tryd.pinned.checked.prog.funcs[f]? = some fn) :
    false = Tryd.pinned.checked.prog.looks [] ∧ ∀ (j : Nat) t, fn.params[j]? = some t → Tryd.pinned.checked.prog.wantsStandIn t = false := by
  obtain rfl : f = 7 := Option.some.inj ((show Tryd.prog.funcNamed "loop.example/g00773/laws.FnExactBookOk" = some 7 by kernel_rfl).symm.trans hf) |>.symm
  obtain rfl : fn = Tryd.f7 := (Option.some.inj (Tryd.func7.symm.trans hfn)).symm
  refine ⟨by kernel_rfl, fun j t ht => ?_⟩
  rw [Tryd.params7] at ht
  obtain rfl : t = 47 := by simpa using Array.mem_of_getElem? ht
  exact (show Tryd.prog.wantsStandIn 47 = false by kernel_rfl)

theorem fnExactBookOk_card : Rows.FnExactBookOkCardSaid :=
  Claim7.holds_tied_plain_at .later [] _ _ _ _ fnExactBookOk_said (fun _ h => by cases h) (by kernel_rfl) (fun _ h => by cases h) fnExactBookOk_row_tie rfl ⟨rfl, rfl⟩ (by kernel_rfl) rfl fnExactBookOk_plain (by kernel_rfl)

end Go.Proofs.YtijfjgenbdbafaaDoor
