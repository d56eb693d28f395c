/- The law of Grep: what the program's Grep gives is what the reference's gives, in new memory. The table of known signs is held as the program's text lays it. -/
import Derived.Test.YthdbomkddpnhaaaGreatDoorPGrepS
import Derived.Test.YthdbomkddpnhaaaGreatDoorPVolH
import Derived.Test.YthdbomkddpnhaaaGreatDoorPFrameV
import Derived.Test.YthdbomkddpnhaaaGreatDoorPFrameD
import Derived.Deep.RegionHeld3
namespace Go.Proofs.YthdbomkddpnhaaaGreatDoor
open Go Go.RowKit Go.ChangeShapes Go.WideShapes Go.ChangeAt Go.Joins
open Go.ChangeMaps (open_string)

theorem Blk.betw {w w' : World} {lo hi g : Nat} {t : TypeId} {cs : Array Value} (h : Blk w g t cs) (hb : Betw lo hi w w') (hd : g < lo ∨ hi ≤ g) : Blk w' g t cs := (hb.block g h.lt hd).trans h
theorem list_in {w w' : World} {e : Ending} {P : List ByteArray × Int} {L : List ByteArray} {cc : Int} (hP : P = (L, cc)) (h : ListPost w P e w') : ∃ v lo up, e = .returned (.tuple #[v, .int .i64 cc]) ∧ w.heap.size ≤ lo ∧ InAt (OwnT lo v L) lo up w' ∧ Below w.heap.size w w' := by
 subst hP
 obtain ⟨hb, v, he, ho⟩ := h
 exact ⟨v, _, _, he, Nat.le_refl _, own_inT rfl ho, hb⟩

set_option maxRecDepth 100000 in
set_option maxHeartbeats 8000000 in
theorem law_fnExactGrep (va : Value) (a : VolD) (hza : (VolBig a)) (_hna : True) (s : ByteArray) (hss : s.size ≤ 9223372036854775807) (pt : ByteArray) (hspt : pt.size ≤ 9223372036854775807) (w : World) (hT : TabM w) (ha : IsVol w va a) :
  Calls Tryz.prog 11 #[va, .string s, .string pt] w fun e w' => e = .returned (.bool true) ∧ Below w.heap.size w w' := by
 have HT0 := Lib.hid hT
 clear hT
 obtain ⟨Aa, ca, rfl, ha'⟩ := ha
 have HA := Lib.hid (show IsVol w (.agg #[.int .i64 a.nx, .slice Aa a.xs.length ca]) a from ⟨Aa, ca, rfl, ha'⟩)
 have Hza := Lib.hid hza
 clear ha' hza
 by_cases bigs : s.size ≤ 1048576
 rotate_left
 ·go_enter Tryz.func11, Tryz.ntmps11
  go_wp2
  go_ret
  first | exact ⟨rfl, bel0 w⟩ | exact ⟨rfl, belA (bel0 w) _⟩
 clear hss
 by_cases bigpt : pt.size ≤ 1048576
 rotate_left
 ·go_enter Tryz.func11, Tryz.ntmps11
  go_wp2
  go_ret
  first | exact ⟨rfl, bel0 w⟩ | exact ⟨rfl, belA (bel0 w) _⟩
 clear hspt
 go_enter Tryz.func11, Tryz.ntmps11
 go_wp2_with fail
 obtain ⟨w1, hw1⟩ : ∃ W, w.alloc (.cells #[.int .i64 a.nx, .slice Aa a.xs.length ca] 24) = W := ⟨_, rfl⟩
 have hb1 : Below w.heap.size w w1 := by rw [← hw1]; exact belA (bel0 w) _
 have hO : Blk w1 w.heap.size 24 #[.int .i64 a.nx, .slice Aa a.xs.length ca] := by rw [← hw1]; exact Blk.new' _ _ _ _ rfl
 have ga : w.heap.size < w1.heap.size := hO.lt
 rw [hw1]
 clear hw1
 have B1 := hb1
 have z1 := hb1.size
 have Ka1 := Lib.hid hO
 clear hO
 have HA1 := Lib.hid (HA.out.next hb1)
 have HA0 := Lib.hid HA.out
 clear HA
 have cKa0 := Ka1.out.get (x := .int .i64 a.nx) 0 rfl
 have cKa1 := Ka1.out.get (x := .slice Aa a.xs.length ca) 1 rfl
 have lKa := Ka1.out.lt
 go_wp2_with fail
 clear cKa0 cKa1 lKa
 refine (szV_is _ a Hza.out trivial 1048576 (by omega) (by omega) _ HA1.out).mono ?_
 rintro e w2 ⟨r, rfl, hr, hb2⟩
 have B2 := belN B1 hb2
 have z2 := hb2.size
 have Ka2 := Lib.hid (Ka1.out.below hb2 Ka1.out.lt)
 clear Ka1
 have HA2 := Lib.hid (HA1.out.next hb2)
 clear HA1
 by_cases neg : r < 0
 ·go_wp2
  go_ret
  exact ⟨rfl, B2⟩
 have sm : szV a ≤ 1048576 := by omega
 clear hr Hza
 obtain ⟨L, cc, hP⟩ : ∃ L cc, grepW a s pt = (L, cc) := ⟨_, _, rfl⟩
 have HP := Lib.hid hP
 have hL : L.length ≤ 10000000 := by have := grepW_len (V := a) s pt; rw [hP] at this; exact this
 obtain ⟨mB, hmB⟩ : ∃ m : Int, 1 + (mkCnt a.xs a.xs.length : Int) = m := ⟨_, rfl⟩
 have hmB0 : ¬ mB < 0 := by omega
 obtain ⟨mF, hmF⟩ : ∃ m : Int, 1 + (L.length : Int) = m := ⟨_, rfl⟩
 have hmF0 : ¬ mF < 0 := by omega
 have HmB := Lib.hid hmB
 have HmF := Lib.hid hmF
 have HL := Lib.hid hL
 clear hP hmB hmF hL
 have cKa0 := Ka2.out.get (x := .int .i64 a.nx) 0 rfl
 have cKa1 := Ka2.out.get (x := .slice Aa a.xs.length ca) 1 rfl
 have lKa := Ka2.out.lt
 go_wp2_with fail
 clear cKa0 cKa1 lKa
 refine (toVol_is _ a sm _ HA2.out).mono ?_
 rintro e w3 ⟨y, rfl, hIy, hb3⟩
 have B3 := belN B2 hb3
 have z3 := hb3.size
 have Ka3 := Lib.hid (Ka2.out.below hb3 Ka2.out.lt)
 clear Ka2
 have HA3 := Lib.hid (HA2.out.next hb3)
 clear HA2
 have Iy3 := Lib.hid hIy
 clear hIy
 have cKa0 := Ka3.out.get (x := .int .i64 a.nx) 0 rfl
 have cKa1 := Ka3.out.get (x := .slice Aa a.xs.length ca) 1 rfl
 have lKa := Ka3.out.lt
 go_wp2_with fail
 clear cKa0 cKa1 lKa
 refine ((grep_spec2 y a sm s pt (by omega) (by omega) _ (HT0.out.bl B3) Iy3.out).mono fun e w' h => list_in HP.out h).mono ?_
 rintro e w4 ⟨p, lop, upp, rfl, hlop, hp, hb4⟩
 have B4 := belN B3 hb4
 have z4 := hb4.size
 have Ka4 := Lib.hid (Ka3.out.below hb4 Ka3.out.lt)
 clear Ka3
 have HA4 := Lib.hid (HA3.out.next hb4)
 clear HA3
 have Iy4 := Lib.hid (Iy3.out.next hb4)
 clear Iy3
 have hupp := hp.1
 have Np4 := Lib.hid hp
 clear hp
 clear Iy4
 have cKa0 := Ka4.out.get (x := .int .i64 a.nx) 0 rfl
 have cKa1 := Ka4.out.get (x := .slice Aa a.xs.length ca) 1 rfl
 have lKa := Ka4.out.lt
 go_wp2_with fail
 clear cKa0 cKa1 lKa
 refine (toVol_in _ a sm _ HA4.out).mono ?_
 rintro e w5 ⟨x, lox, upx, rfl, hlox, hx, hb5⟩
 have B5 := belN B4 hb5
 have z5 := hb5.size
 have Ka5 := Lib.hid (Ka4.out.below hb5 Ka4.out.lt)
 clear Ka4
 have HA5 := Lib.hid (HA4.out.next hb5)
 clear HA4
 have Np5 := Lib.hid (Np4.out.next hb5)
 clear Np4
 obtain ⟨gx, _, rfl, _⟩ := hx.is
 have hupx := hx.1
 have Nx5 := Lib.hid hx
 clear hx
 have cKa0 := Ka5.out.get (x := .int .i64 a.nx) 0 rfl
 have cKa1 := Ka5.out.get (x := .slice Aa a.xs.length ca) 1 rfl
 have lKa := Ka5.out.lt
 go_wp2_with fail
 clear cKa0 cKa1 lKa
 obtain ⟨w6, hw6⟩ : ∃ W, w5.alloc (.cells #[.int .i64 a.nx, .slice (some ⟨gx, 0, none⟩) a.xs.length a.xs.length] 30) = W := ⟨_, rfl⟩
 have hb6 : Below w5.heap.size w5 w6 := by rw [← hw6]; exact belA (bel0 _) _
 have hO : Blk w6 w5.heap.size 30 #[.int .i64 a.nx, .slice (some ⟨gx, 0, none⟩) a.xs.length a.xs.length] := by rw [← hw6]; exact Blk.new' _ _ _ _ rfl
 have ggx : w5.heap.size < w6.heap.size := hO.lt
 rw [hw6]
 clear hw6
 have B6 := belN B5 hb6
 have z6 := hb6.size
 have Ka6 := Lib.hid (Ka5.out.below hb6 Ka5.out.lt)
 clear Ka5
 have HA6 := Lib.hid (HA5.out.next hb6)
 clear HA5
 have Np6 := Lib.hid (Np5.out.next hb6)
 clear Np5
 have Nx6 := Lib.hid (Nx5.out.next hb6)
 clear Nx5
 have Kx6 := Lib.hid hO
 clear hO
 have cKa0 := Ka6.out.get (x := .int .i64 a.nx) 0 rfl
 have cKa1 := Ka6.out.get (x := .slice Aa a.xs.length ca) 1 rfl
 have lKa := Ka6.out.lt
 have cKx0 := Kx6.out.get (x := .int .i64 a.nx) 0 rfl
 have cKx1 := Kx6.out.get (x := .slice (some ⟨gx, 0, none⟩) a.xs.length a.xs.length) 1 rfl
 have lKx := Kx6.out.lt
 go_wp2_with fail
 clear cKa0 cKa1 lKa
 clear cKx0 cKx1 lKx
 refine ((grep_impl2 (.agg #[.int .i64 a.nx, .slice (some ⟨gx, 0, none⟩) a.xs.length a.xs.length]) a sm s pt (by omega) (by omega) _ (HT0.out.bl B6) Nx6.out.is.isC).mono fun e w' h => list_in HP.out h).mono ?_
 rintro e w7 ⟨g, log, upg, rfl, hlog, hg, hb7⟩
 have B7 := belN B6 hb7
 have z7 := hb7.size
 have Ka7 := Lib.hid (Ka6.out.below hb7 Ka6.out.lt)
 clear Ka6
 have HA7 := Lib.hid (HA6.out.next hb7)
 clear HA6
 have Np7 := Lib.hid (Np6.out.next hb7)
 clear Np6
 have Nx7 := Lib.hid (Nx6.out.next hb7)
 clear Nx6
 have Kx7 := Lib.hid (Kx6.out.below hb7 Kx6.out.lt)
 clear Kx6
 have hupg := hg.1
 have Ng7 := Lib.hid hg
 clear hg
 have cKa0 := Ka7.out.get (x := .int .i64 a.nx) 0 rfl
 have cKa1 := Ka7.out.get (x := .slice Aa a.xs.length ca) 1 rfl
 have lKa := Ka7.out.lt
 have cKx0 := Kx7.out.get (x := .int .i64 a.nx) 0 rfl
 have cKx1 := Kx7.out.get (x := .slice (some ⟨gx, 0, none⟩) a.xs.length a.xs.length) 1 rfl
 have lKx := Kx7.out.lt
 go_wp2_with fail
 clear cKa0 cKa1 lKa
 clear cKx0 cKx1 lKx
 refine (eqT_in _ _ g p L HL.out _ Ng7.out.is Np7.out.is).mono ?_
 rintro e w8 ⟨rfl, hb8⟩
 have B8 := belN B7 hb8
 have z8 := hb8.size
 have Ka8 := Lib.hid (Ka7.out.below hb8 Ka7.out.lt)
 clear Ka7
 have HA8 := Lib.hid (HA7.out.next hb8)
 clear HA7
 have Np8 := Lib.hid (Np7.out.next hb8)
 clear Np7
 have Nx8 := Lib.hid (Nx7.out.next hb8)
 clear Nx7
 have Kx8 := Lib.hid (Kx7.out.below hb8 Kx7.out.lt)
 clear Kx7
 have Ng8 := Lib.hid (Ng7.out.next hb8)
 clear Ng7
 have cKa0 := Ka8.out.get (x := .int .i64 a.nx) 0 rfl
 have cKa1 := Ka8.out.get (x := .slice Aa a.xs.length ca) 1 rfl
 have lKa := Ka8.out.lt
 have cKx0 := Kx8.out.get (x := .int .i64 a.nx) 0 rfl
 have cKx1 := Kx8.out.get (x := .slice (some ⟨gx, 0, none⟩) a.xs.length a.xs.length) 1 rfl
 have lKx := Kx8.out.lt
 go_wp2_with fail
 go_region_held3 (fun w' => w'.cell? ⟨w.heap.size, 0, none⟩ = some (.int .i64 a.nx) ∧ w'.cell? ⟨w.heap.size, 1, none⟩ = some (.slice Aa a.xs.length ca) ∧ w'.cell? ⟨w5.heap.size, 0, none⟩ = some (.int .i64 a.nx) ∧ w'.cell? ⟨w5.heap.size, 1, none⟩ = some (.slice (some ⟨gx, 0, none⟩) a.xs.length a.xs.length))
  (first | go_keep | (refine ⟨keep1 hb10 ?_, keep1 hb10 ?_, keep1 hb10 ?_, keep1 hb10 ?_⟩ <;> go_keep) | (refine ⟨keep1 hb9 ?_, keep1 hb9 ?_, keep1 hb9 ?_, keep1 hb9 ?_⟩ <;> go_keep))
  (first
   | (go_at_call 17; refine (toVol_is _ a sm _ (HA8.out.next (bel0 w8).drew)).mono ?_; rintro e w9 ⟨u, rfl, hIu, hb9⟩)
   | (go_at_call 19; refine (eqVol_is (.agg #[.int .i64 a.nx, .slice (some ⟨gx, 0, none⟩) a.xs.length a.xs.length]) u a sm _ (((Nx8.out.is.isC).next (bel0 w8).drew).next hb9) hIu).mono ?_; rintro e w10 ⟨rfl, hb10⟩))
 clear cKa0 cKa1 lKa
 clear cKx0 cKx1 lKx
 have hbq : Below w8.heap.size w8 w10 := ((bel0 w8).drew.trans hb9).trans (hb10.mono hb9.size)
 have B10 := belN B8 hbq
 have z10 := hbq.size
 have Ka10 := Lib.hid (Ka8.out.below hbq Ka8.out.lt)
 clear Ka8
 have HA10 := Lib.hid (HA8.out.next hbq)
 clear HA8
 have Np10 := Lib.hid (Np8.out.next hbq)
 clear Np8
 have Nx10 := Lib.hid (Nx8.out.next hbq)
 clear Nx8
 have Kx10 := Lib.hid (Kx8.out.below hbq Kx8.out.lt)
 clear Kx8
 have Ng10 := Lib.hid (Ng8.out.next hbq)
 clear Ng8
 have cKa0 := Ka10.out.get (x := .int .i64 a.nx) 0 rfl
 have cKa1 := Ka10.out.get (x := .slice Aa a.xs.length ca) 1 rfl
 have lKa := Ka10.out.lt
 have cKx0 := Kx10.out.get (x := .int .i64 a.nx) 0 rfl
 have cKx1 := Kx10.out.get (x := .slice (some ⟨gx, 0, none⟩) a.xs.length a.xs.length) 1 rfl
 have lKx := Kx10.out.lt
 go_wp2_with fail
 clear cKa0 cKa1 lKa
 clear cKx0 cKx1 lKx
 refine (markVol_in _ a sm 1 (by omega) (by omega) _ _ _ Nx10.out).mono ?_
 rintro e w11 ⟨rfl, hbt11⟩
 have z11 := hbt11.size
 have B11 := B10.trans (hbt11.bel (by omega) (by omega))
 have Ka11 := Lib.hid (Ka10.out.betw hbt11 (by omega))
 clear Ka10
 have HA11 := Lib.hid (HA0.out.next B11)
 clear HA10
 have Np11 := Lib.hid (Np10.out.betw hbt11 (by omega))
 clear Np10
 have Kx11 := Lib.hid (Kx10.out.betw hbt11 (by omega))
 clear Kx10
 have Ng11 := Lib.hid (Ng10.out.betw hbt11 (by omega))
 clear Ng10
 rw [HmB.out]
 clear Nx10
 clear Kx11
 have cKa0 := Ka11.out.get (x := .int .i64 a.nx) 0 rfl
 have cKa1 := Ka11.out.get (x := .slice Aa a.xs.length ca) 1 rfl
 have lKa := Ka11.out.lt
 go_wp2_with fail
 clear cKa0 cKa1 lKa
 refine (eqT_in _ _ g p L HL.out _ Ng11.out.is Np11.out.is).mono ?_
 rintro e w12 ⟨rfl, hb12⟩
 have B12 := belN B11 hb12
 have z12 := hb12.size
 have Ka12 := Lib.hid (Ka11.out.below hb12 Ka11.out.lt)
 clear Ka11
 have HA12 := Lib.hid (HA11.out.next hb12)
 clear HA11
 have Np12 := Lib.hid (Np11.out.next hb12)
 clear Np11
 have Ng12 := Lib.hid (Ng11.out.next hb12)
 clear Ng11
 have cKa0 := Ka12.out.get (x := .int .i64 a.nx) 0 rfl
 have cKa1 := Ka12.out.get (x := .slice Aa a.xs.length ca) 1 rfl
 have lKa := Ka12.out.lt
 go_wp2_with fail
 clear cKa0 cKa1 lKa
 refine (markT_in g L HL.out 1 (by omega) (by omega) _ _ _ Ng12.out).mono ?_
 rintro e w13 ⟨rfl, hN13, hbt13⟩
 have z13 := hbt13.size
 have B13 := B12.trans (hbt13.bel (by omega) (by omega))
 have Ka13 := Lib.hid (Ka12.out.betw hbt13 (by omega))
 clear Ka12
 have HA13 := Lib.hid (HA0.out.next B13)
 clear HA12
 have Np13 := Lib.hid (Np12.out.betw hbt13 (by omega))
 clear Np12
 have Ng13 := Lib.hid hN13
 clear Ng12 hN13
 rw [HmF.out]
 have cKa0 := Ka13.out.get (x := .int .i64 a.nx) 0 rfl
 have cKa1 := Ka13.out.get (x := .slice Aa a.xs.length ca) 1 rfl
 have lKa := Ka13.out.lt
 go_wp2_with fail
 clear cKa0 cKa1 lKa
 refine (heldT_in _ g L.length HL.out 1 (by omega) (by omega) _ Ng13.out.is).mono ?_
 rintro e w14 ⟨rfl, hb14⟩
 have B14 := belN B13 hb14
 have z14 := hb14.size
 have Ka14 := Lib.hid (Ka13.out.below hb14 Ka13.out.lt)
 clear Ka13
 have HA14 := Lib.hid (HA13.out.next hb14)
 clear HA13
 have Np14 := Lib.hid (Np13.out.next hb14)
 clear Np13
 have Ng14 := Lib.hid (Ng13.out.next hb14)
 clear Ng13
 rw [HmF.out]
 have cKa0 := Ka14.out.get (x := .int .i64 a.nx) 0 rfl
 have cKa1 := Ka14.out.get (x := .slice Aa a.xs.length ca) 1 rfl
 have lKa := Ka14.out.lt
 go_wp2_with fail
 clear cKa0 cKa1 lKa
 refine (toVol_is _ a sm _ HA14.out).mono ?_
 rintro e w15 ⟨t, rfl, hIt, hb15⟩
 have B15 := belN B14 hb15
 have z15 := hb15.size
 have Ka15 := Lib.hid (Ka14.out.below hb15 Ka14.out.lt)
 clear Ka14
 have HA15 := Lib.hid (HA14.out.next hb15)
 clear HA14
 have Np15 := Lib.hid (Np14.out.next hb15)
 clear Np14
 have Ng15 := Lib.hid (Ng14.out.next hb15)
 clear Ng14
 have It15 := Lib.hid hIt
 clear hIt
 have cKa0 := Ka15.out.get (x := .int .i64 a.nx) 0 rfl
 have cKa1 := Ka15.out.get (x := .slice Aa a.xs.length ca) 1 rfl
 have lKa := Ka15.out.lt
 go_wp2_with fail
 clear cKa0 cKa1 lKa
 refine ((grep_impl2 t a sm s pt (by omega) (by omega) _ (HT0.out.bl B15) It15.out).mono fun e w' h => list_in HP.out h).mono ?_
 rintro e w16 ⟨h, loh, uph, rfl, hloh, hh, hb16⟩
 have B16 := belN B15 hb16
 have z16 := hb16.size
 have Ka16 := Lib.hid (Ka15.out.below hb16 Ka15.out.lt)
 clear Ka15
 have HA16 := Lib.hid (HA15.out.next hb16)
 clear HA15
 have Np16 := Lib.hid (Np15.out.next hb16)
 clear Np15
 have Ng16 := Lib.hid (Ng15.out.next hb16)
 clear Ng15
 have It16 := Lib.hid (It15.out.next hb16)
 clear It15
 have huph := hh.1
 have Nh16 := Lib.hid hh
 clear hh
 clear It16
 have cKa0 := Ka16.out.get (x := .int .i64 a.nx) 0 rfl
 have cKa1 := Ka16.out.get (x := .slice Aa a.xs.length ca) 1 rfl
 have lKa := Ka16.out.lt
 go_wp2_with fail
 clear cKa0 cKa1 lKa
 refine (eqT_in _ _ h p L HL.out _ Nh16.out.is Np16.out.is).mono ?_
 rintro e w17 ⟨rfl, hb17⟩
 have B17 := belN B16 hb17
 have z17 := hb17.size
 have Ka17 := Lib.hid (Ka16.out.below hb17 Ka16.out.lt)
 clear Ka16
 have HA17 := Lib.hid (HA16.out.next hb17)
 clear HA16
 have Np17 := Lib.hid (Np16.out.next hb17)
 clear Np16
 have Ng17 := Lib.hid (Ng16.out.next hb17)
 clear Ng16
 have Nh17 := Lib.hid (Nh16.out.next hb17)
 clear Nh16
 have cKa0 := Ka17.out.get (x := .int .i64 a.nx) 0 rfl
 have cKa1 := Ka17.out.get (x := .slice Aa a.xs.length ca) 1 rfl
 have lKa := Ka17.out.lt
 go_wp2_with fail
 clear cKa0 cKa1 lKa
 refine (heldT_in _ g L.length HL.out 1 (by omega) (by omega) _ Ng17.out.is).mono ?_
 rintro e w18 ⟨rfl, hb18⟩
 have B18 := belN B17 hb18
 have z18 := hb18.size
 have Ka18 := Lib.hid (Ka17.out.below hb18 Ka17.out.lt)
 clear Ka17
 have HA18 := Lib.hid (HA17.out.next hb18)
 clear HA17
 have Np18 := Lib.hid (Np17.out.next hb18)
 clear Np17
 have Ng18 := Lib.hid (Ng17.out.next hb18)
 clear Ng17
 have Nh18 := Lib.hid (Nh17.out.next hb18)
 clear Nh17
 rw [HmF.out]
 have cKa0 := Ka18.out.get (x := .int .i64 a.nx) 0 rfl
 have cKa1 := Ka18.out.get (x := .slice Aa a.xs.length ca) 1 rfl
 have lKa := Ka18.out.lt
 go_wp2
 go_ret
 exact ⟨rfl, B18⟩

set_option maxRecDepth 100000 in
theorem fnExactGrep_contract (H : Type) (enc : TypeId × Value → H) (W : World) (base : Nat) (args : Array Value) (ds gs : List (DataW H)) (before : List MemPlace)
  (hval : ∀ (j : Nat) t v, Tryz.f11.params[j]? = some t → args[j]? = some v → Value.okWide Tryz.prog W .any base t v)
  (hW : DataW.Whole enc Tryz.prog Tryz.f11.params.toList Rows.fnExactGrepSpec.vars false W args.toList ds gs before) (hL : laidMetH Tryz.prog Rows.fnExactGrepRow.laid W) (hS : W.ShapedOpen Tryz.prog) :
  Calls Tryz.prog 11 args W fun e W' => ∃ v, e = .returned v ∧ Rows.fnExactGrepSpec.post enc Tryz.prog Tryz.f11 false true false false W args v W' := by
 have hW' := hW
 obtain ⟨p, q, hA0, hV, rfl, hfz, hnd⟩ := hW
 have hA : DataW.TrodAll enc Tryz.prog W 0 (fun _ => true) true Tryz.f11.params.toList args.toList ds p := hA0
 rw [Tryz.params11] at hA hval
 have hT := tab_of hL
 obtain ⟨_, _, _, g1, _, _, rfl, _⟩ := trodVars_one hV
 obtain ⟨v0, v1, v2, d0, d1, d2, p0, p1, p2, rfl, rfl, rfl, h0, h1, h2⟩ := trodAll_three hA
 obtain ⟨a, hza, hna, hIa⟩ := open_vol_is (hval 0 24 v0 rfl rfl) h0
 obtain ⟨s, rfl, rfl, rfl, ws⟩ := open_string Tryz.underlying9 (hval 1 9 v1 rfl rfl) h1
 obtain ⟨pt, rfl, rfl, rfl, wpt⟩ := open_string Tryz.underlying9 (hval 2 9 v2 rfl rfl) h2
 clear hA0
 refine (law_fnExactGrep _ a hza hna s (Nat.le_trans ws (by unfold maxLen; omega)) pt (Nat.le_trans wpt (by unfold maxLen; omega)) W (TabM.of hT hS) hIa).mono fun e W' ⟨he, hw⟩ => ?_
 subst he
 exact ⟨_, rfl, law_postD Tryz.laidOut (by kernel_rfl) rfl Tryz.underlying4 (Tryz.varsOk hT) rfl hW' hw⟩

theorem fnExactGrep_laid_met (os : Os) : laidMet Tryz.prog Rows.fnExactGrepRow.laid ((laidWorld os #[.agg #[.int .i64 0, .slice none 0 0], .string ByteArray.empty, .string ByteArray.empty]).forCall (fun _ _ => 0) ⟨#[], #[.agg #[.int .i64 0, .slice none 0 0], .string ByteArray.empty, .string ByteArray.empty], []⟩).memory :=
 laidMet_of_run' 8 (by kernel_rfl) (by kernel_rfl)
theorem fnExactGrep_reads (os : Os) {H : Type} (enc : TypeId × Value → H) : DataW.whole enc Tryz.prog ((laidWorld os #[.agg #[.int .i64 0, .slice none 0 0], .string ByteArray.empty, .string ByteArray.empty]).forCall (fun _ _ => 0) ⟨#[], #[.agg #[.int .i64 0, .slice none 0 0], .string ByteArray.empty, .string ByteArray.empty], []⟩).memory Tryz.f11.params.toList Rows.fnExactGrepSpec.vars false (#[.agg #[.int .i64 0, .slice none 0 0], .string ByteArray.empty, .string ByteArray.empty] : Array Value).toList 8 = some ([.agg [.lit (.int .i64 0), .nil], .lit (.string []), .lit (.string [])], [Rows.laid_loop_example_g00773_impl_knownParts], [] ++ MemPlace.row ⟨0, 0, none⟩ 54) := by kernel_rfl

set_option maxRecDepth 100000 in
theorem fnExactGrep_lifted (os : Os) (started : os.Started) (H : Type) (enc : TypeId × Value → H) (F : Stop.Interp) :
  ReturnsInHanded {} Tryz.checked os 11 .any ((OpenSpec.ofChange Rows.fnExactGrepSpec).preRow enc Tryz.prog Tryz.f11 Rows.fnExactGrepRow.domain false Rows.fnExactGrepRow.laid) (((OpenSpec.ofChange Rows.fnExactGrepSpec).at F).post enc Tryz.prog Tryz.f11 false true false false) := by
 refine returnsInHanded_of_row (C := Tryz.checked) (s := OpenSpec.ofChange Rows.fnExactGrepSpec) Tryz.own started (by as_aux_lemma => kernel_rfl) Tryz.func11
  (witness_row_at (enc := enc) (C := Tryz.checked) false (laidWorld os #[.agg #[.int .i64 0, .slice none 0 0], .string ByteArray.empty, .string ByteArray.empty]) #[.agg #[.int .i64 0, .slice none 0 0], .string ByteArray.empty, .string ByteArray.empty] rfl (by as_aux_lemma => kernel_rfl) (by as_aux_lemma => kernel_rfl) (by as_aux_lemma => kernel_rfl)
   (OpenSpec.preRow_of_cond 8 (fnExactGrep_reads os enc) (by as_aux_lemma => kernel_rfl) (fun k hk => by cases hk) (by as_aux_lemma => kernel_rfl) (fnExactGrep_laid_met os))) ?_
 intro W base args ds gs before hval hW _ _ _ hL hS _
 exact fnExactGrep_contract H enc W base args ds gs before hval hW hL hS

set_option maxHeartbeats 4000000 in
theorem fnExactGrep_facts : joinedFacts Tryz.pinned.checked.prog 11 Tryz.f11 (OpenSpec.ofChange Rows.fnExactGrepSpec).bare Rows.fnExactGrepRow = true := by
 simp only [joinedFacts, Bool.and_eq_true]
 repeat' (refine And.intro ?_ ?_)
 all_goals (as_aux_lemma => kernel_rfl)
theorem fnExactGrep_said : Rows.FnExactGrepSaid :=
 OpenClaim.holds_of_cond 11 Tryz.f11 rfl rfl rfl rfl rfl rfl rfl ⟨rfl, rfl, rfl, rfl, rfl⟩ rfl rfl rfl rfl rfl (by as_aux_lemma => kernel_rfl) Tryz.func11 fnExactGrep_facts
  (of_decide_eq_true (by as_aux_lemma => kernel_rfl)) (by unfold Func.isWrapper; rw [if_neg (of_decide_eq_false (by as_aux_lemma => kernel_rfl))]; exact ⟨rfl, rfl⟩)
  (fun os started H enc _ F => by rw [OpenClaim.pre_eq_preRow]; exact fnExactGrep_lifted os started H enc F)

theorem fnExactGrep_plain (f : FuncId) (fn : Func) (hf : Tryz.pinned.checked.prog.funcNamed "loop.example/g00773/laws.FnExactGrep" = some f) (hfn : Tryz.pinned.checked.prog.funcs[f]? = some fn) :
  false = Tryz.pinned.checked.prog.looks [] ∧ ∀ (j : Nat) t, fn.params[j]? = some t → Tryz.pinned.checked.prog.wantsStandIn t = false := by
 obtain rfl : f = 11 := Option.some.inj ((show Tryz.prog.funcNamed "loop.example/g00773/laws.FnExactGrep" = some 11 by kernel_rfl).symm.trans hf) |>.symm
 obtain rfl : fn = Tryz.f11 := (Option.some.inj (Tryz.func11.symm.trans hfn)).symm
 refine ⟨by kernel_rfl, fun j t ht => ?_⟩
 rw [Tryz.params11] at ht
 have ht' := Array.mem_of_getElem? ht
 simp at ht'
 rcases ht' with rfl | rfl
 ·exact (show Tryz.prog.wantsStandIn 24 = false by kernel_rfl)
 ·exact (show Tryz.prog.wantsStandIn 9 = false by kernel_rfl)

theorem fnExactGrep_card : Rows.FnExactGrepCardSaid :=
 Claim7.holds_tied_plain_at .later [] _ _ _ _ fnExactGrep_said (fun _ h => by cases h) (by as_aux_lemma => kernel_rfl) (fun _ h => by cases h) fnExactGrep_row_tie rfl ⟨rfl, rfl⟩ (by as_aux_lemma => kernel_rfl) rfl fnExactGrep_plain (by as_aux_lemma => kernel_rfl)

end Go.Proofs.YthdbomkddpnhaaaGreatDoor

