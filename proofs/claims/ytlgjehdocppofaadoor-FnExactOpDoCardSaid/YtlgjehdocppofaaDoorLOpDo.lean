/- The law of OpDo: what the program's OpDo gives is what the reference's gives, in new memory. The table of known signs is held as the program's text lays it. -/
import Derived.Test.YtlgjehdocppofaaDoorOpDo
import Derived.Test.YtlgjehdocppofaaDoorFrameIs
import Derived.Test.YtlgjehdocppofaaDoorHeld
import Derived.Test.YtlgjehdocppofaaDoorFrameD
namespace Go.Proofs.YtlgjehdocppofaaDoor
open Go Go.RowKit Go.ChangeShapes Go.WideShapes Go.ChangeAt Go.Joins
open Go.ChangeMaps (open_string)


set_option maxRecDepth 100000 in
set_option maxHeartbeats 4000000 in
theorem law_fnExactOpDo (va : Value) (a : List EntD) (hza : (∀ e ∈ a, e.s.size ≤ 9223372036854775807)) (hna : a.length ≤ 9223372036854775807) (ok : Int) (os : ByteArray) (hso : os.size ≤ 9223372036854775807) (oi : Int) (w : World) (hT : Tab w) (ha : IsS w va a) :
    Calls Tryd.prog 4 #[va, .agg #[.int .i64 ok, .string os, .int .i64 oi]] w fun e w' => e = .returned (.bool true) ∧ Below w.heap.size w w' := by
  have HT0 := Lib.hid hT
  clear hT
  have HAa0 := Lib.hid ha
  have Hza := Lib.hid hza
  clear ha hza
  go_enter Tryd.func4, Tryd.ntmps4
  go_wp2_with fail
  obtain ⟨w0, hw0⟩ : ∃ w0, w.alloc (.cells #[.int .i64 ok, .string os, .int .i64 oi] 33) = w0 := ⟨_, rfl⟩
  have Bx : Below w.heap.size w w0 := by rw [← hw0]; exact belA (bel0 w) _
  have hO : Blk w0 w.heap.size 33 #[.int .i64 ok, .string os, .int .i64 oi] := by rw [← hw0]; exact Blk.new' _ _ _ _ rfl
  have z0 : w.heap.size < w0.heap.size := hO.lt
  have Xo0_0 := Lib.hid (hO.get 0 rfl)
  have Xo1_0 := Lib.hid (hO.get 1 rfl)
  have Xo2_0 := Lib.hid (hO.get 2 rfl)
  rw [hw0]
  clear hw0 hO
  replace HT0 := Lib.hid (HT0.out.bl Bx)
  replace HAa0 := Lib.hid (HAa0.out.next Bx)
  refine (szS_is va a Hza.out hna 1048576 (by omega) (by omega) _ HAa0.out).mono ?_
  rintro e w1 ⟨ra, rfl, hra, hb1⟩
  have B1 := hb1
  have z1 := hb1.size
  have Xo0_1 := Lib.hid (keep1 hb1 Xo0_0.out (Nat.le_refl _))
  clear Xo0_0
  have Xo1_1 := Lib.hid (keep1 hb1 Xo1_0.out (Nat.le_refl _))
  clear Xo1_0
  have Xo2_1 := Lib.hid (keep1 hb1 Xo2_0.out (Nat.le_refl _))
  clear Xo2_0
  by_cases nega : ra < 0
  · go_wp2
    go_ret
    exact ⟨rfl, belN Bx B1⟩
  have sma : szS a ≤ 1048576 := by omega
  have cXo0_ := Xo0_1.out
  have cXo1_ := Xo1_1.out
  have cXo2_ := Xo2_1.out
  go_wp2_with fail
  clear cXo0_ cXo1_ cXo2_
  refine (szOp_is ok os oi hso ra (by omega) (by omega) _).mono ?_
  rintro e w2 ⟨ro, rfl, hro, hb2⟩
  have B2 := belN B1 hb2
  have z2 := hb2.size
  have Xo0_2 := Lib.hid (keep1 hb2 Xo0_1.out (Nat.le_refl _))
  clear Xo0_1
  have Xo1_2 := Lib.hid (keep1 hb2 Xo1_1.out (Nat.le_refl _))
  clear Xo1_1
  have Xo2_2 := Lib.hid (keep1 hb2 Xo2_1.out (Nat.le_refl _))
  clear Xo2_1
  by_cases nego : ro < 0
  · go_wp2
    go_ret
    exact ⟨rfl, belN Bx B2⟩
  have smo : os.size ≤ 1048576 := by omega
  obtain ⟨L, fb, hP⟩ : ∃ L fb, doP a ok os oi = (L, fb) := ⟨_, _, rfl⟩
  have HP := Lib.hid hP
  have hpL : L.length ≤ 10000000 := by have := doP_len HP.out; have := szS_n a; omega
  clear hP
  have cXo0_ := Xo0_2.out
  have cXo1_ := Xo1_2.out
  have cXo2_ := Xo2_2.out
  go_wp2_with fail
  go_region_held3 (fun w' => w'.cell? ⟨w.heap.size, 0, none⟩ = some (.int .i64 ok) ∧ w'.cell? ⟨w.heap.size, 1, none⟩ = some (.string os) ∧ w'.cell? ⟨w.heap.size, 2, none⟩ = some (.int .i64 oi))
    (first | go_keep | (refine ⟨keep1 hb5 ?_, keep1 hb5 ?_, keep1 hb5 ?_⟩ <;> go_keep) | (refine ⟨keep1 hb4 ?_, keep1 hb4 ?_, keep1 hb4 ?_⟩ <;> go_keep) | (refine ⟨keep1 hb3 ?_, keep1 hb3 ?_, keep1 hb3 ?_⟩ <;> go_keep))
    (first
      | (go_at_call 16; refine (toS_in va a sma _ ((HAa0.out.next B2).next (bel0 w2).drew)).mono ?_; rintro e w3 ⟨ya, loya, upya, rfl, hloya, frya, hb3⟩)
      | (go_at_call 17; refine (toOp_is ok os oi _).mono ?_; rintro e w4 ⟨rfl, hb4⟩)
      | (go_at_call 15; refine (opDo_spec ya a sma ok os oi (by omega) HP.out _  ((frya.next hb4).is).isS).mono ?_; rintro e w5 ⟨pL, lopL, uppL, rfl, hlopL, frpL, hb5⟩))
  clear cXo0_ cXo1_ cXo2_
  have B5 := belN (belN (belN B2.drew hb3) hb4) hb5
  have z3 : w2.heap.size ≤ w3.heap.size := hb3.size
  have z4 : w3.heap.size ≤ w4.heap.size := hb4.size
  have z5 : w4.heap.size ≤ w5.heap.size := hb5.size
  have Xo0_5 := Lib.hid (keep1 hb5 (keep1 hb4 (keep1 hb3 Xo0_2.out (Nat.le_refl _)) (Nat.le_refl _)) (Nat.le_refl _))
  clear Xo0_2
  have Xo1_5 := Lib.hid (keep1 hb5 (keep1 hb4 (keep1 hb3 Xo1_2.out (Nat.le_refl _)) (Nat.le_refl _)) (Nat.le_refl _))
  clear Xo1_2
  have Xo2_5 := Lib.hid (keep1 hb5 (keep1 hb4 (keep1 hb3 Xo2_2.out (Nat.le_refl _)) (Nat.le_refl _)) (Nat.le_refl _))
  clear Xo2_2
  have NpL_5 := Lib.hid frpL
  have huppL := frpL.1
  clear frpL
  have cXo0_ := Xo0_5.out
  have cXo1_ := Xo1_5.out
  have cXo2_ := Xo2_5.out
  go_wp2_with fail
  clear cXo0_ cXo1_ cXo2_
  refine (toS_in va a sma _ (HAa0.out.next B5)).mono ?_
  rintro e w6 ⟨xa, loxa, upxa, rfl, hloxa, frxa, hb6⟩
  have B6 := belN B5 hb6
  have z6 := hb6.size
  have Xo0_6 := Lib.hid (keep1 hb6 Xo0_5.out (Nat.le_refl _))
  clear Xo0_5
  have Xo1_6 := Lib.hid (keep1 hb6 Xo1_5.out (Nat.le_refl _))
  clear Xo1_5
  have Xo2_6 := Lib.hid (keep1 hb6 Xo2_5.out (Nat.le_refl _))
  clear Xo2_5
  have NpL_6 := Lib.hid (NpL_5.out.next hb6)
  clear NpL_5
  have Nxa_6 := Lib.hid frxa
  have hupxa := frxa.1
  clear frxa
  have cXo0_ := Xo0_6.out
  have cXo1_ := Xo1_6.out
  have cXo2_ := Xo2_6.out
  go_wp2_with fail
  clear cXo0_ cXo1_ cXo2_
  refine (toOp_is ok os oi _).mono ?_
  rintro e w7 ⟨rfl, hb7⟩
  have B7 := belN B6 hb7
  have z7 := hb7.size
  have Xo0_7 := Lib.hid (keep1 hb7 Xo0_6.out (Nat.le_refl _))
  clear Xo0_6
  have Xo1_7 := Lib.hid (keep1 hb7 Xo1_6.out (Nat.le_refl _))
  clear Xo1_6
  have Xo2_7 := Lib.hid (keep1 hb7 Xo2_6.out (Nat.le_refl _))
  clear Xo2_6
  have NpL_7 := Lib.hid (NpL_6.out.next hb7)
  clear NpL_6
  have Nxa_7 := Lib.hid (Nxa_6.out.next hb7)
  clear Nxa_6
  have cXo0_ := Xo0_7.out
  have cXo1_ := Xo1_7.out
  have cXo2_ := Xo2_7.out
  go_wp2_with fail
  clear cXo0_ cXo1_ cXo2_
  refine (opDo_impl xa a sma ok os oi (by omega) HP.out _ (HT0.out.bl B7) (Nxa_7.out.is).isS).mono ?_
  rintro e w8 ⟨gL, logL, upgL, rfl, hlogL, frgL, hb8⟩
  have B8 := belN B7 hb8
  have z8 := hb8.size
  have Xo0_8 := Lib.hid (keep1 hb8 Xo0_7.out (Nat.le_refl _))
  clear Xo0_7
  have Xo1_8 := Lib.hid (keep1 hb8 Xo1_7.out (Nat.le_refl _))
  clear Xo1_7
  have Xo2_8 := Lib.hid (keep1 hb8 Xo2_7.out (Nat.le_refl _))
  clear Xo2_7
  have NpL_8 := Lib.hid (NpL_7.out.next hb8)
  clear NpL_7
  have Nxa_8 := Lib.hid (Nxa_7.out.next hb8)
  clear Nxa_7
  have NgL_8 := Lib.hid frgL
  have hupgL := frgL.1
  clear frgL
  have cXo0_ := Xo0_8.out
  have cXo1_ := Xo1_8.out
  have cXo2_ := Xo2_8.out
  go_wp2_with fail
  clear cXo0_ cXo1_ cXo2_
  refine (eqS_in gL pL L hpL _ (OwnS.isS NgL_8.out.is) (OwnS.isS NpL_8.out.is)).mono ?_
  rintro e w9 ⟨rfl, hb9⟩
  have B9 := belN B8 hb9
  have z9 := hb9.size
  have Xo0_9 := Lib.hid (keep1 hb9 Xo0_8.out (Nat.le_refl _))
  clear Xo0_8
  have Xo1_9 := Lib.hid (keep1 hb9 Xo1_8.out (Nat.le_refl _))
  clear Xo1_8
  have Xo2_9 := Lib.hid (keep1 hb9 Xo2_8.out (Nat.le_refl _))
  clear Xo2_8
  have NpL_9 := Lib.hid (NpL_8.out.next hb9)
  clear NpL_8
  have Nxa_9 := Lib.hid (Nxa_8.out.next hb9)
  clear Nxa_8
  have NgL_9 := Lib.hid (NgL_8.out.next hb9)
  clear NgL_8
  have cXo0_ := Xo0_9.out
  have cXo1_ := Xo1_9.out
  have cXo2_ := Xo2_9.out
  go_wp2_with fail
  clear cXo0_ cXo1_ cXo2_
  refine (toS_in va a sma _ (HAa0.out.next B9)).mono ?_
  rintro e w10 ⟨ua, loua, upua, rfl, hloua, frua, hb10⟩
  have B10 := belN B9 hb10
  have z10 := hb10.size
  have Xo0_10 := Lib.hid (keep1 hb10 Xo0_9.out (Nat.le_refl _))
  clear Xo0_9
  have Xo1_10 := Lib.hid (keep1 hb10 Xo1_9.out (Nat.le_refl _))
  clear Xo1_9
  have Xo2_10 := Lib.hid (keep1 hb10 Xo2_9.out (Nat.le_refl _))
  clear Xo2_9
  have NpL_10 := Lib.hid (NpL_9.out.next hb10)
  clear NpL_9
  have Nxa_10 := Lib.hid (Nxa_9.out.next hb10)
  clear Nxa_9
  have NgL_10 := Lib.hid (NgL_9.out.next hb10)
  clear NgL_9
  have Nua_10 := Lib.hid frua
  have hupua := frua.1
  clear frua
  have cXo0_ := Xo0_10.out
  have cXo1_ := Xo1_10.out
  have cXo2_ := Xo2_10.out
  go_wp2_with fail
  clear cXo0_ cXo1_ cXo2_
  refine (eqS_is xa ua a sma _ (Nxa_10.out.is).isS (Nua_10.out.is).isS).mono ?_
  rintro e w11 ⟨rfl, hb11⟩
  have B11 := belN B10 hb11
  have z11 := hb11.size
  have Xo0_11 := Lib.hid (keep1 hb11 Xo0_10.out (Nat.le_refl _))
  clear Xo0_10
  have Xo1_11 := Lib.hid (keep1 hb11 Xo1_10.out (Nat.le_refl _))
  clear Xo1_10
  have Xo2_11 := Lib.hid (keep1 hb11 Xo2_10.out (Nat.le_refl _))
  clear Xo2_10
  have NpL_11 := Lib.hid (NpL_10.out.next hb11)
  clear NpL_10
  have Nxa_11 := Lib.hid (Nxa_10.out.next hb11)
  clear Nxa_10
  have NgL_11 := Lib.hid (NgL_10.out.next hb11)
  clear NgL_10
  have Nua_11 := Lib.hid (Nua_10.out.next hb11)
  clear Nua_10
  clear Nua_11
  have cXo0_ := Xo0_11.out
  have cXo1_ := Xo1_11.out
  have cXo2_ := Xo2_11.out
  go_wp2_with fail
  clear cXo0_ cXo1_ cXo2_
  refine (markS_in xa a (by have := szS_n a; omega) 1 (by omega) (by omega) _ _ _ Nxa_11.out).mono ?_
  rintro e w12 ⟨rfl, hN12, hbt12⟩
  have z12 := hbt12.size
  have B12 := B11.trans (hbt12.bel (by omega) (by omega))
  have Xo0_12 := Lib.hid (hbt12.cell Xo0_11.out (by simp only; omega))
  clear Xo0_11
  have Xo1_12 := Lib.hid (hbt12.cell Xo1_11.out (by simp only; omega))
  clear Xo1_11
  have Xo2_12 := Lib.hid (hbt12.cell Xo2_11.out (by simp only; omega))
  clear Xo2_11
  have NpL_12 := Lib.hid (NpL_11.out.betw hbt12 (by omega))
  clear NpL_11
  have NgL_12 := Lib.hid (NgL_11.out.betw hbt12 (by omega))
  clear NgL_11
  have Nxa_12 := Lib.hid hN12
  clear Nxa_11
  clear hN12
  have cXo0_ := Xo0_12.out
  have cXo1_ := Xo1_12.out
  have cXo2_ := Xo2_12.out
  go_wp2_with fail
  clear cXo0_ cXo1_ cXo2_
  refine (eqS_in gL pL L hpL _ (OwnS.isS NgL_12.out.is) (OwnS.isS NpL_12.out.is)).mono ?_
  rintro e w13 ⟨rfl, hb13⟩
  have B13 := belN B12 hb13
  have z13 := hb13.size
  have Xo0_13 := Lib.hid (keep1 hb13 Xo0_12.out (Nat.le_refl _))
  clear Xo0_12
  have Xo1_13 := Lib.hid (keep1 hb13 Xo1_12.out (Nat.le_refl _))
  clear Xo1_12
  have Xo2_13 := Lib.hid (keep1 hb13 Xo2_12.out (Nat.le_refl _))
  clear Xo2_12
  have NpL_13 := Lib.hid (NpL_12.out.next hb13)
  clear NpL_12
  have Nxa_13 := Lib.hid (Nxa_12.out.next hb13)
  clear Nxa_12
  have NgL_13 := Lib.hid (NgL_12.out.next hb13)
  clear NgL_12
  clear Nxa_13
  have cXo0_ := Xo0_13.out
  have cXo1_ := Xo1_13.out
  have cXo2_ := Xo2_13.out
  go_wp2_with fail
  clear cXo0_ cXo1_ cXo2_
  refine (markS_in gL L hpL 1 (by omega) (by omega) _ _ _ NgL_13.out).mono ?_
  rintro e w14 ⟨rfl, hN14, hbt14⟩
  have z14 := hbt14.size
  have B14 := B13.trans (hbt14.bel (by omega) (by omega))
  have Xo0_14 := Lib.hid (hbt14.cell Xo0_13.out (by simp only; omega))
  clear Xo0_13
  have Xo1_14 := Lib.hid (hbt14.cell Xo1_13.out (by simp only; omega))
  clear Xo1_13
  have Xo2_14 := Lib.hid (hbt14.cell Xo2_13.out (by simp only; omega))
  clear Xo2_13
  have NpL_14 := Lib.hid (NpL_13.out.betw hbt14 (by omega))
  clear NpL_13
  have NgL_14 := Lib.hid hN14
  clear NgL_13
  clear hN14
  -- held
  have cXo0_ := Xo0_14.out
  have cXo1_ := Xo1_14.out
  have cXo2_ := Xo2_14.out
  go_wp2_with fail
  clear cXo0_ cXo1_ cXo2_
  refine (heldS_in gL L.length hpL 1 (by omega) (by omega) _ (OwnS.isS NgL_14.out.is)).mono ?_
  rintro e w15 ⟨rfl, hb15⟩
  have B15 := belN B14 hb15
  have z15 := hb15.size
  have Xo0_15 := Lib.hid (keep1 hb15 Xo0_14.out (Nat.le_refl _))
  clear Xo0_14
  have Xo1_15 := Lib.hid (keep1 hb15 Xo1_14.out (Nat.le_refl _))
  clear Xo1_14
  have Xo2_15 := Lib.hid (keep1 hb15 Xo2_14.out (Nat.le_refl _))
  clear Xo2_14
  have NpL_15 := Lib.hid (NpL_14.out.next hb15)
  clear NpL_14
  have NgL_15 := Lib.hid (NgL_14.out.next hb15)
  clear NgL_14
  have cXo0_ := Xo0_15.out
  have cXo1_ := Xo1_15.out
  have cXo2_ := Xo2_15.out
  go_wp2_with fail
  go_region_held3 (fun w' => w'.cell? ⟨w.heap.size, 0, none⟩ = some (.int .i64 ok) ∧ w'.cell? ⟨w.heap.size, 1, none⟩ = some (.string os) ∧ w'.cell? ⟨w.heap.size, 2, none⟩ = some (.int .i64 oi))
    (first | go_keep | (refine ⟨keep1 hb18 ?_, keep1 hb18 ?_, keep1 hb18 ?_⟩ <;> go_keep) | (refine ⟨keep1 hb17 ?_, keep1 hb17 ?_, keep1 hb17 ?_⟩ <;> go_keep) | (refine ⟨keep1 hb16 ?_, keep1 hb16 ?_, keep1 hb16 ?_⟩ <;> go_keep))
    (first
      | (go_at_call 16; refine (toS_in va a sma _ ((HAa0.out.next B15).next (bel0 w15).drew)).mono ?_; rintro e w16 ⟨za, loza, upza, rfl, hloza, frza, hb16⟩)
      | (go_at_call 17; refine (toOp_is ok os oi _).mono ?_; rintro e w17 ⟨rfl, hb17⟩)
      | (go_at_call 18; refine (opDo_impl za a sma ok os oi (by omega) HP.out _ (HT0.out.bl (belN (belN B15.drew hb16) hb17)) ((frza.next hb17).is).isS).mono ?_; rintro e w18 ⟨qL, loqL, upqL, rfl, hloqL, frqL, hb18⟩))
  clear cXo0_ cXo1_ cXo2_
  have B18 := belN (belN (belN B15.drew hb16) hb17) hb18
  have z16 : w15.heap.size ≤ w16.heap.size := hb16.size
  have z17 : w16.heap.size ≤ w17.heap.size := hb17.size
  have z18 : w17.heap.size ≤ w18.heap.size := hb18.size
  have NpL_18 := Lib.hid ((((NpL_15.out.next (bel0 w15).drew).next hb16).next hb17).next hb18)
  clear NpL_15
  have NgL_18 := Lib.hid ((((NgL_15.out.next (bel0 w15).drew).next hb16).next hb17).next hb18)
  clear NgL_15
  have Xo0_18 := Lib.hid (keep1 hb18 (keep1 hb17 (keep1 hb16 Xo0_15.out (Nat.le_refl _)) (Nat.le_refl _)) (Nat.le_refl _))
  clear Xo0_15
  have Xo1_18 := Lib.hid (keep1 hb18 (keep1 hb17 (keep1 hb16 Xo1_15.out (Nat.le_refl _)) (Nat.le_refl _)) (Nat.le_refl _))
  clear Xo1_15
  have Xo2_18 := Lib.hid (keep1 hb18 (keep1 hb17 (keep1 hb16 Xo2_15.out (Nat.le_refl _)) (Nat.le_refl _)) (Nat.le_refl _))
  clear Xo2_15
  have NqL_18 := Lib.hid frqL
  have hupqL := frqL.1
  clear frqL
  have cXo0_ := Xo0_18.out
  have cXo1_ := Xo1_18.out
  have cXo2_ := Xo2_18.out
  go_wp2_with fail
  clear cXo0_ cXo1_ cXo2_
  refine (eqS_in qL pL L hpL _ (OwnS.isS NqL_18.out.is) (OwnS.isS NpL_18.out.is)).mono ?_
  rintro e w19 ⟨rfl, hb19⟩
  have B19 := belN B18 hb19
  have z19 := hb19.size
  have Xo0_19 := Lib.hid (keep1 hb19 Xo0_18.out (Nat.le_refl _))
  clear Xo0_18
  have Xo1_19 := Lib.hid (keep1 hb19 Xo1_18.out (Nat.le_refl _))
  clear Xo1_18
  have Xo2_19 := Lib.hid (keep1 hb19 Xo2_18.out (Nat.le_refl _))
  clear Xo2_18
  have NpL_19 := Lib.hid (NpL_18.out.next hb19)
  clear NpL_18
  have NgL_19 := Lib.hid (NgL_18.out.next hb19)
  clear NgL_18
  have NqL_19 := Lib.hid (NqL_18.out.next hb19)
  clear NqL_18
  -- held
  have cXo0_ := Xo0_19.out
  have cXo1_ := Xo1_19.out
  have cXo2_ := Xo2_19.out
  go_wp2_with fail
  clear cXo0_ cXo1_ cXo2_
  refine (heldS_in gL L.length hpL 1 (by omega) (by omega) _ (OwnS.isS NgL_19.out.is)).mono ?_
  rintro e w20 ⟨rfl, hb20⟩
  have B20 := belN B19 hb20
  have z20 := hb20.size
  have Xo0_20 := Lib.hid (keep1 hb20 Xo0_19.out (Nat.le_refl _))
  clear Xo0_19
  have Xo1_20 := Lib.hid (keep1 hb20 Xo1_19.out (Nat.le_refl _))
  clear Xo1_19
  have Xo2_20 := Lib.hid (keep1 hb20 Xo2_19.out (Nat.le_refl _))
  clear Xo2_19
  have NpL_20 := Lib.hid (NpL_19.out.next hb20)
  clear NpL_19
  have NgL_20 := Lib.hid (NgL_19.out.next hb20)
  clear NgL_19
  have NqL_20 := Lib.hid (NqL_19.out.next hb20)
  clear NqL_19
  have cXo0_ := Xo0_20.out
  have cXo1_ := Xo1_20.out
  have cXo2_ := Xo2_20.out
  go_wp2
  go_ret
  exact ⟨rfl, belN Bx B20⟩

set_option maxRecDepth 100000 in
theorem fnExactOpDo_contract (H : Type) (enc : TypeId × Value → H) (W : World) (base : Nat) (args : Array Value) (ds gs : List (DataW H)) (before : List MemPlace)
    (hval : ∀ (j : Nat) t v, Tryd.f4.params[j]? = some t → args[j]? = some v → Value.okWide Tryd.prog W .any base t v)
    (hW : DataW.Whole enc Tryd.prog Tryd.f4.params.toList Rows.fnExactOpDoSpec.vars false W args.toList ds gs before) (hL : laidMetH Tryd.prog Rows.fnExactOpDoRow.laid W) :
    Calls Tryd.prog 4 args W fun e W' => ∃ v, e = .returned v ∧ Rows.fnExactOpDoSpec.post enc Tryd.prog Tryd.f4 false true false false W args v W' := by
  have hW' := hW
  obtain ⟨p, q, hA0, hV, rfl, hfz, hnd⟩ := hW
  have hA : DataW.TrodAll enc Tryd.prog W 0 (fun _ => true) true Tryd.f4.params.toList args.toList ds p := hA0
  rw [Tryd.params4] at hA hval
  have hT := tab_of hL
  obtain ⟨_, _, _, g1, _, _, rfl, _⟩ := trodVars_one hV
  obtain ⟨v0, v1, d0, d1, p0, p1, rfl, rfl, rfl, h0, h1⟩ := trodAll_two hA
  obtain ⟨a, hza, hna, hIa⟩ := open_rows_is (hval 0 31 v0 rfl rfl) h0
  obtain ⟨c0, c1, c2, y0, y1, y2, m, rfl, rfl, rfl, hy0, hy1, hy2⟩ := open_agg3 Tryd.underlying33 (by kernel_rfl) Tryd.cells33 (hval 1 33 v1 rfl rfl) h1
  obtain ⟨ok, e0, rfl, wk⟩ := DataW.trod_int Tryd.underlying3 hy0
  obtain ⟨os, e1, rfl, ws⟩ := DataW.trod_string Tryd.underlying9 hy1
  obtain ⟨oi, e2, rfl, wi⟩ := DataW.trod_int Tryd.underlying3 hy2
  simp at e0 e1 e2
  subst e0 e1 e2
  clear hA0
  refine (law_fnExactOpDo _ a hza hna ok os (Nat.le_trans ws (by unfold maxLen; omega)) oi W hT hIa).mono fun e W' ⟨he, hw⟩ => ?_
  subst he
  exact ⟨_, rfl, law_postD Tryd.laidOut (by kernel_rfl) rfl Tryd.underlying4 (Tryd.varsOk hT) rfl hW' hw⟩

theorem fnExactOpDo_laid_met (os : Os) : laidMet Tryd.prog Rows.fnExactOpDoRow.laid ((laidWorld os #[.slice none 0 0, .agg #[.int .i64 0, .string ByteArray.empty, .int .i64 0]]).forCall (fun _ _ => 0) ⟨#[], #[.slice none 0 0, .agg #[.int .i64 0, .string ByteArray.empty, .int .i64 0]], []⟩).memory :=
  laidMet_of_run' 8 (by kernel_rfl) (by kernel_rfl)
theorem fnExactOpDo_reads (os : Os) {H : Type} (enc : TypeId × Value → H) : DataW.whole enc Tryd.prog ((laidWorld os #[.slice none 0 0, .agg #[.int .i64 0, .string ByteArray.empty, .int .i64 0]]).forCall (fun _ _ => 0) ⟨#[], #[.slice none 0 0, .agg #[.int .i64 0, .string ByteArray.empty, .int .i64 0]], []⟩).memory Tryd.f4.params.toList Rows.fnExactOpDoSpec.vars false (#[.slice none 0 0, .agg #[.int .i64 0, .string ByteArray.empty, .int .i64 0]] : Array Value).toList 8 = some ([.nil, .agg [.lit (.int .i64 0), .lit (.string []), .lit (.int .i64 0)]], [Rows.laid_loop_example_g00773_impl_knownParts], [] ++ MemPlace.row ⟨0, 0, none⟩ 54) := by kernel_rfl

set_option maxRecDepth 100000 in
theorem fnExactOpDo_lifted (os : Os) (started : os.Started) (H : Type) (enc : TypeId × Value → H) (F : Stop.Interp) :
    ReturnsInHanded {} Tryd.checked os 4 .any ((OpenSpec.ofChange Rows.fnExactOpDoSpec).preRow enc Tryd.prog Tryd.f4 Rows.fnExactOpDoRow.domain false Rows.fnExactOpDoRow.laid) (((OpenSpec.ofChange Rows.fnExactOpDoSpec).at F).post enc Tryd.prog Tryd.f4 false true false false) := by
  refine returnsInHanded_of_row (C := Tryd.checked) (s := OpenSpec.ofChange Rows.fnExactOpDoSpec) Tryd.own started (by kernel_rfl) Tryd.func4
    (witness_row_at (enc := enc) (C := Tryd.checked) false (laidWorld os #[.slice none 0 0, .agg #[.int .i64 0, .string ByteArray.empty, .int .i64 0]]) #[.slice none 0 0, .agg #[.int .i64 0, .string ByteArray.empty, .int .i64 0]] rfl (by kernel_rfl) (by kernel_rfl) (by kernel_rfl)
      (OpenSpec.preRow_of_cond 8 (fnExactOpDo_reads os enc) (by kernel_rfl) (fun k hk => by cases hk) (by kernel_rfl) (fnExactOpDo_laid_met os))) ?_
  intro W base args ds gs before hval hW _ _ _ hL _ _
  exact fnExactOpDo_contract H enc W base args ds gs before hval hW hL

theorem fnExactOpDo_said : Rows.FnExactOpDoSaid :=
  OpenClaim.holds_of_cond 4 Tryd.f4 rfl rfl rfl rfl rfl rfl rfl ⟨rfl, rfl, rfl, rfl, rfl⟩ rfl rfl rfl rfl rfl (by kernel_rfl) Tryd.func4 (by kernel_rfl)
    (of_decide_eq_true (by kernel_rfl)) (by unfold Func.isWrapper; rw [if_neg (of_decide_eq_false (by kernel_rfl))]; exact ⟨rfl, rfl⟩)
    (fun os started H enc _ F => by rw [OpenClaim.pre_eq_preRow]; exact fnExactOpDo_lifted os started H enc F)

theorem fnExactOpDo_plain (f : FuncId) (fn : Func) (hf : Tryd.pinned.checked.prog.funcNamed "loop.example/g00773/laws.FnExactOpDo" = some f) (hfn : Tryd.pinned.checked.prog.funcs[f]? = some fn) :
    false = Tryd.pinned.checked.prog.looks [] ∧ ∀ (j : Nat) t, fn.params[j]? = some t → Tryd.pinned.checked.prog.wantsStandIn t = false := by
  obtain rfl : f = 4 := Option.some.inj ((show Tryd.prog.funcNamed "loop.example/g00773/laws.FnExactOpDo" = some 4 by kernel_rfl).symm.trans hf) |>.symm
  obtain rfl : fn = Tryd.f4 := (Option.some.inj (Tryd.func4.symm.trans hfn)).symm
  refine ⟨by kernel_rfl, fun j t ht => ?_⟩
  rw [Tryd.params4] at ht
  have ht' := Array.mem_of_getElem? ht
  simp at ht'
  rcases ht' with rfl | rfl
  · exact (show Tryd.prog.wantsStandIn 31 = false by kernel_rfl)
  · exact (show Tryd.prog.wantsStandIn 33 = false by kernel_rfl)

theorem fnExactOpDo_card : Rows.FnExactOpDoCardSaid :=
  Claim7.holds_tied_plain_at .later [] _ _ _ _ fnExactOpDo_said (fun _ h => by cases h) (by kernel_rfl) (fun _ h => by cases h) fnExactOpDo_row_tie rfl ⟨rfl, rfl⟩ (by kernel_rfl) rfl fnExactOpDo_plain (by kernel_rfl)

end Go.Proofs.YtlgjehdocppofaaDoor
