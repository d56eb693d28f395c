/- Du of the reference: a file's size, or the sizes of all that is marked below a directory. -/
import Derived.Test.YtjjniapamdleoaaGreatDoorRSStsQ
import Derived.Test.YtjjniapamdleoaaGreatDoorRSRegH
import Derived.Test.YtjjniapamdleoaaGreatDoorRSWkV3
namespace Go.Proofs.YtjjniapamdleoaaGreatDoor
open Go Go.RowKit
set_option maxHeartbeats 8000000
set_option maxRecDepth 100000

theorem du_at {V : VolD} {s : ByteArray} (h : (walkP V (spB s)).2 = 0) : VolP V.nx V.xs /\ ∃ (k : Nat) (hk : k < V.xs.length), plc V.xs (walkP V (spB s)).1 = (k : Int) /\
  duP V (spB s) = if V.xs[k].kd = 2 then ((duS V.xs (belowB V.xs (walkP V (spB s)).1) V.xs.length : Int), 0) else ((V.xs[k].s.size : Int), 0) := by
 obtain ⟨hv, hp⟩ := du_zero h
 obtain ⟨k, hk, hpk, hid⟩ := plc_lt hp
 refine ⟨hv, k, hk, hpk, ?_⟩
 unfold duP
 rw [if_neg (by rw [h]; simp), hpk, Int.toNat_natCast, List.getElem?_eq_getElem hk]

theorem du_spec (v : Value) (V : VolD) (sm : szV V <= 1048576) (s : ByteArray) (hs : s.size <= 2000000) (w : World) (hC : IsVolC w v V) :
  Calls Tryz.prog 15 #[v, .string s] w fun e w' => e = .returned (.tuple #[.int .i64 (duP V (spB s)).1, .int .i64 (duP V (spB s)).2]) /\ Below w.heap.size w w' := by
 have Hwk := Lib.hid (fun W hW => walkV_spec v V sm s hs W hW)
 have hn := v_len sm
 have ha := v_all sm
 have Hat := Lib.hid (fun a W hW => l6At_any v V hn a W hW)
 have Hbl := Lib.hid (fun a W hW => l6Below_any v V hn ha a W hW)
 have Hbad := Lib.hid (du_bad (V := V) (s := s))
 have Hgood := Lib.hid (fun h => du_at (V := V) (s := s) h)
 have Hdat := Lib.hid (fun hv x hx => ino_data (nx := V.nx) (xs := V.xs) hv (x := x) hx)
 have Hsm := Lib.hid (fun bs k => duS_sm sm bs k)
 have hvv := Lib.hid hC
 have h := hC.is
 obtain ⟨A, c, rfl, h⟩ := h
 obtain ⟨nx, xs⟩ := V
 simp only at Hwk Hat Hbl Hbad Hgood Hdat Hsm hn h ⊢
 have H := Lib.hid h
 clear h hC sm ha
 obtain ⟨n, hn'⟩ : ∃ n, xs.length = n := ⟨_, rfl⟩
 have HL := Lib.hid hn'
 simp only [hn'] at Hwk Hat Hbl hvv H hn ⊢
 clear hn'
 obtain ⟨Q, hQ⟩ : ∃ Q, walkP ⟨nx, xs⟩ (spB s) = Q := ⟨_, rfl⟩
 obtain ⟨D, hD⟩ : ∃ D, duP ⟨nx, xs⟩ (spB s) = D := ⟨_, rfl⟩
 simp only [hQ] at Hwk Hbad Hgood
 simp only [hD] at Hbad Hgood
 rw [hD]
 clear hQ hD
 obtain ⟨id, code⟩ := Q
 simp only at Hwk Hbad Hgood
 obtain ⟨W1, hW1⟩ : ∃ W1, w.alloc (.cells #[.int .i64 nx, .slice A n c] 26) = W1 := ⟨_, rfl⟩
 have B1 : Below w.heap.size w W1 := by rw [<- hW1]; exact belA (bel0 w) _
 have hV : Blk W1 w.heap.size 26 #[.int .i64 nx, .slice A n c] := by rw [<- hW1]; exact Blk.new' _ _ _ _ rfl
 have HW1 := Lib.hid hW1
 have V0 := Lib.hid (hV.get (x := .int .i64 nx) 0 rfl)
 have V1 := Lib.hid (hV.get (x := .slice A n c) 1 rfl)
 clear hW1 hV
 go_enter Tryz.func15, Tryz.ntmps15
 go_wp2_with fail
 rw [HW1.out]
 refine (Hwk.out W1 (hvv.out.next B1)).mono ?_
 rintro e w2 ⟨rfl, hb2⟩
 have B2 := belN B1 hb2
 have s0 := kp_ hb2 V0.out
 have s1 := kp_ hb2 V1.out
 by_cases hc : code = 0
 ·subst hc
  obtain ⟨hv, k, hk, hpk, hD⟩ := Hgood.out rfl
  have hdk := Hdat.out hv _ (List.getElem_mem hk)
  have HD := Lib.hid hD
  have Hat2 := Lib.hid (fun W hW => Hat.out id W hW)
  simp only [hpk] at Hat2
  clear Hgood Hbad Hwk hD hpk hv Hdat
  have hkn : k < n := by have := HL.out; omega
  have q0 : (0 : Int) <= ↑k := by omega
  have q1 : (↑k : Int) < ↑n := by omega
  obtain ⟨_, b, o, A3, c3, hA3, _, s2, s3, s4, s5, s6, _⟩ := (H.out.next B2).at_ hkn
  subst hA3
  obtain ⟨x, hx⟩ : ∃ x, xs[k] = x := ⟨_, rfl⟩
  simp only [hx] at s2 s3 s4 s5 s6 hdk HD
  clear hx
  obtain ⟨xi, xk, xl, xt, xe⟩ := x
  simp only at s2 s3 s4 s5 s6 hdk HD
  obtain ⟨m3, hm3⟩ : ∃ m3, xe.length = m3 := ⟨_, rfl⟩
  rw [hm3] at s6
  clear hm3
  go_wp2_with fail
  go_cut [8] from 21 (fun p wx => ∃ g : Nat, p = .pointer (some ⟨g, 0, none⟩) /\ Hid (Blk wx g 36 #[.int .i64 xi, .int .i64 xk, .int .i64 xl, .string xt, .slice A3 m3 c3]) /\ Below w2.heap.size w2 wx)
  case first =>
   refine wp_region_held_drew (S := fun w' => w'.cell? ⟨w.heap.size, 0, none⟩ = some (.int .i64 nx) /\ w'.cell? ⟨w.heap.size, 1, none⟩ = some (.slice (some ⟨b, o, none⟩) n c) /\ w'.cell? ⟨b, o + k * 5, none⟩ = some (.int .i64 xi) /\ w'.cell? ⟨b, o + k * 5 + 1, none⟩ = some (.int .i64 xk) /\ w'.cell? ⟨b, o + k * 5 + 2, none⟩ = some (.int .i64 xl) /\ w'.cell? ⟨b, o + k * 5 + 3, none⟩ = some (.string xt) /\ w'.cell? ⟨b, o + k * 5 + 4, none⟩ = some (.slice A3 m3 c3)) (by kernel_rfl) (by exact ⟨s0, s1, s2, s3, s4, s5, s6⟩) (fun hHeld => ?_)
   refine foldH ?_
   intro r0 hr0
   have bw0 : Below w2.heap.size w2 r0 := by rw [hr0]; exact (bel0 w2).drew
   clear hr0 hHeld
   refine tkW_ 0 ?_ (hS := by exact ⟨kp_ (bw0) s0, kp_ (bw0) s1, kp_ (bw0) s2, kp_ (bw0) s3, kp_ (bw0) s4, kp_ (bw0) s5, kp_ (bw0) s6⟩)
   refine tkW_ 1 ?_ (hS := by exact ⟨kp_ (bw0) s0, kp_ (bw0) s1, kp_ (bw0) s2, kp_ (bw0) s3, kp_ (bw0) s4, kp_ (bw0) s5, kp_ (bw0) s6⟩)
   refine tkW_ 2 ?_ (hS := by exact ⟨kp_ (bw0) s0, kp_ (bw0) s1, kp_ (bw0) s2, kp_ (bw0) s3, kp_ (bw0) s4, kp_ (bw0) s5, kp_ (bw0) s6⟩)
   refine tkW_ 3 ?_ (hS := by exact ⟨kp_ (bw0) s0, kp_ (bw0) s1, kp_ (bw0) s2, kp_ (bw0) s3, kp_ (bw0) s4, kp_ (bw0) s5, kp_ (bw0) s6⟩)
   refine rd2_ 4 7 (fun K hK => ?br5) (fun K hK => ?br6)
   case br5 =>
    go_simp
    go_at_call 54
    refine (Hat2.out _ (hvv.out.next (belN B2 bw0)).is).mono ?_
    rintro e r1 ⟨rfl, hb1r⟩
    have bw1 : Below w2.heap.size w2 r1 := bw0.trans (hb1r.mono bw0.size)
    refine hK.out _ _ (by exact ⟨kp_ (bw1) s0, kp_ (bw1) s1, kp_ (bw1) s2, kp_ (bw1) s3, kp_ (bw1) s4, kp_ (bw1) s5, kp_ (bw1) s6⟩) (fun _ => ?_)
    clear hK K
    refine tkW_ 5 ?_ (hS := by exact ⟨kp_ (bw1) s0, kp_ (bw1) s1, kp_ (bw1) s2, kp_ (bw1) s3, kp_ (bw1) s4, kp_ (bw1) s5, kp_ (bw1) s6⟩)
    refine tkW_ 6 ?_ (hS := by exact ⟨kp_ (bw1) s0, kp_ (bw1) s1, kp_ (bw1) s2, kp_ (bw1) s3, kp_ (bw1) s4, kp_ (bw1) s5, kp_ (bw1) s6⟩)
    refine rd1_ 7 (fun K hK => ?br9)
    case br9 =>
     go_simp
     refine hK.out _ _ (by exact ⟨kp_ (belA bw1 _) s0, kp_ (belA bw1 _) s1, kp_ (belA bw1 _) s2, kp_ (belA bw1 _) s3, kp_ (belA bw1 _) s4, kp_ (belA bw1 _) s5, kp_ (belA bw1 _) s6⟩) (fun _ => ?_)
     clear hK K
     refine foldH ?_
     intro r2 hr2
     have bw2 : Below w2.heap.size w2 r2 := by rw [hr2]; exact belA bw1 _
     have kX2 : Blk r2 r1.heap.size 36 #[.int .i64 0, .int .i64 0, .int .i64 0, .string ⟨#[]⟩, .slice none 0 0] := by rw [hr2]; exact Blk.new' _ _ _ _ rfl
     have laX2 : w2.heap.size <= r1.heap.size := bw1.size
     clear hr2
     refine rd1_ 8 (fun K hK => ?br10)
     case br10 =>
      have x0 := kX2.get (x := .int .i64 0) 0 rfl
      have f0 := kX2.frozen 0
      have x1 := kX2.get (x := .int .i64 0) 1 rfl
      have f1 := kX2.frozen 1
      have x2 := kX2.get (x := .int .i64 0) 2 rfl
      have f2 := kX2.frozen 2
      have x3 := kX2.get (x := .string ⟨#[]⟩) 3 rfl
      have f3 := kX2.frozen 3
      have x4 := kX2.get (x := .slice none 0 0) 4 rfl
      have f4 := kX2.frozen 4
      have lE := kX2.lt
      go_simp
      refine hK.out _ _ (by exact ⟨kp_ (belC (belC (belC (belC (belC (bw2) _ _ laX2 _) _ _ laX2 _) _ _ laX2 _) _ _ laX2 _) _ _ laX2 _) s0, kp_ (belC (belC (belC (belC (belC (bw2) _ _ laX2 _) _ _ laX2 _) _ _ laX2 _) _ _ laX2 _) _ _ laX2 _) s1, kp_ (belC (belC (belC (belC (belC (bw2) _ _ laX2 _) _ _ laX2 _) _ _ laX2 _) _ _ laX2 _) _ _ laX2 _) s2, kp_ (belC (belC (belC (belC (belC (bw2) _ _ laX2 _) _ _ laX2 _) _ _ laX2 _) _ _ laX2 _) _ _ laX2 _) s3, kp_ (belC (belC (belC (belC (belC (bw2) _ _ laX2 _) _ _ laX2 _) _ _ laX2 _) _ _ laX2 _) _ _ laX2 _) s4, kp_ (belC (belC (belC (belC (belC (bw2) _ _ laX2 _) _ _ laX2 _) _ _ laX2 _) _ _ laX2 _) _ _ laX2 _) s5, kp_ (belC (belC (belC (belC (belC (bw2) _ _ laX2 _) _ _ laX2 _) _ _ laX2 _) _ _ laX2 _) _ _ laX2 _) s6⟩) (fun _ => ?_)
      clear hK K x0 f0 x1 f1 x2 f2 x3 f3 x4 f4 lE
      refine foldH ?_
      intro r3 hr3
      have bw3 : Below w2.heap.size w2 r3 := by rw [hr3]; exact belC (belC (belC (belC (belC (bw2) _ _ laX2 _) _ _ laX2 _) _ _ laX2 _) _ _ laX2 _) _ _ laX2 _
      have kX3 : Blk r3 r1.heap.size 36 #[.int .i64 xi, .int .i64 xk, .int .i64 xl, .string xt, .slice A3 m3 c3] := by rw [hr3]; exact (((((kX2).put 0 _ _ rfl).put 1 _ _ rfl).put 2 _ _ rfl).put 3 _ _ rfl).put 4 _ _ rfl
      clear hr3
      refine wpAnyH_done (by kernel_rfl) ?_ _
      go_wp2_with fail
      go_meet
      case rel => exact ⟨_, rfl, kX3, bw3⟩
   case br6 =>
    go_simp
    refine hK.out _ _ (by exact ⟨kp_ (belA bw0 _) s0, kp_ (belA bw0 _) s1, kp_ (belA bw0 _) s2, kp_ (belA bw0 _) s3, kp_ (belA bw0 _) s4, kp_ (belA bw0 _) s5, kp_ (belA bw0 _) s6⟩) (fun _ => ?_)
    clear hK K
    refine foldH ?_
    intro r1 hr1
    have bw1 : Below w2.heap.size w2 r1 := by rw [hr1]; exact belA bw0 _
    have kX1 : Blk r1 r0.heap.size 36 #[.int .i64 0, .int .i64 0, .int .i64 0, .string ⟨#[]⟩, .slice none 0 0] := by rw [hr1]; exact Blk.new' _ _ _ _ rfl
    have laX1 : w2.heap.size <= r0.heap.size := bw0.size
    clear hr1
    refine rd1_ 4 (fun K hK => ?br11)
    case br11 =>
     go_simp
     go_at_call 54
     refine (Hat2.out _ (hvv.out.next (belN B2 bw1)).is).mono ?_
     rintro e r2 ⟨rfl, hb2r⟩
     have bw2 : Below w2.heap.size w2 r2 := bw1.trans (hb2r.mono bw1.size)
     refine hK.out _ _ (by exact ⟨kp_ (bw2) s0, kp_ (bw2) s1, kp_ (bw2) s2, kp_ (bw2) s3, kp_ (bw2) s4, kp_ (bw2) s5, kp_ (bw2) s6⟩) (fun _ => ?_)
     clear hK K
     have kX2 := kX1.below hb2r kX1.lt
     refine tkW_ 5 ?_ (hS := by exact ⟨kp_ (bw2) s0, kp_ (bw2) s1, kp_ (bw2) s2, kp_ (bw2) s3, kp_ (bw2) s4, kp_ (bw2) s5, kp_ (bw2) s6⟩)
     refine tkW_ 6 ?_ (hS := by exact ⟨kp_ (bw2) s0, kp_ (bw2) s1, kp_ (bw2) s2, kp_ (bw2) s3, kp_ (bw2) s4, kp_ (bw2) s5, kp_ (bw2) s6⟩)
     refine rd1_ 8 (fun K hK => ?br14)
     case br14 =>
      have x0 := kX2.get (x := .int .i64 0) 0 rfl
      have f0 := kX2.frozen 0
      have x1 := kX2.get (x := .int .i64 0) 1 rfl
      have f1 := kX2.frozen 1
      have x2 := kX2.get (x := .int .i64 0) 2 rfl
      have f2 := kX2.frozen 2
      have x3 := kX2.get (x := .string ⟨#[]⟩) 3 rfl
      have f3 := kX2.frozen 3
      have x4 := kX2.get (x := .slice none 0 0) 4 rfl
      have f4 := kX2.frozen 4
      have lE := kX2.lt
      go_simp
      refine hK.out _ _ (by exact ⟨kp_ (belC (belC (belC (belC (belC (bw2) _ _ laX1 _) _ _ laX1 _) _ _ laX1 _) _ _ laX1 _) _ _ laX1 _) s0, kp_ (belC (belC (belC (belC (belC (bw2) _ _ laX1 _) _ _ laX1 _) _ _ laX1 _) _ _ laX1 _) _ _ laX1 _) s1, kp_ (belC (belC (belC (belC (belC (bw2) _ _ laX1 _) _ _ laX1 _) _ _ laX1 _) _ _ laX1 _) _ _ laX1 _) s2, kp_ (belC (belC (belC (belC (belC (bw2) _ _ laX1 _) _ _ laX1 _) _ _ laX1 _) _ _ laX1 _) _ _ laX1 _) s3, kp_ (belC (belC (belC (belC (belC (bw2) _ _ laX1 _) _ _ laX1 _) _ _ laX1 _) _ _ laX1 _) _ _ laX1 _) s4, kp_ (belC (belC (belC (belC (belC (bw2) _ _ laX1 _) _ _ laX1 _) _ _ laX1 _) _ _ laX1 _) _ _ laX1 _) s5, kp_ (belC (belC (belC (belC (belC (bw2) _ _ laX1 _) _ _ laX1 _) _ _ laX1 _) _ _ laX1 _) _ _ laX1 _) s6⟩) (fun _ => ?_)
      clear hK K x0 f0 x1 f1 x2 f2 x3 f3 x4 f4 lE
      refine foldH ?_
      intro r3 hr3
      have bw3 : Below w2.heap.size w2 r3 := by rw [hr3]; exact belC (belC (belC (belC (belC (bw2) _ _ laX1 _) _ _ laX1 _) _ _ laX1 _) _ _ laX1 _) _ _ laX1 _
      have kX3 : Blk r3 r0.heap.size 36 #[.int .i64 xi, .int .i64 xk, .int .i64 xl, .string xt, .slice A3 m3 c3] := by rw [hr3]; exact (((((kX2).put 0 _ _ rfl).put 1 _ _ rfl).put 2 _ _ rfl).put 3 _ _ rfl).put 4 _ _ rfl
      clear hr3
      refine wpAnyH_done (by kernel_rfl) ?_ _
      go_wp2_with fail
      go_meet
      case rel => exact ⟨_, rfl, kX3, bw3⟩
  case rest =>
   obtain ⟨g, rfl, hG, hb9⟩ := hcut
   have B9 := belN B2 hb9
   have v0 := kp_ hb9 s0
   have v1 := kp_ hb9 s1
   clear s0 s1 s2 s3 s4 s5 s6
   have g1 := hG.out.get (x := .int .i64 xk) 1 rfl
   have g3 := hG.out.get (x := .string xt) 3 rfl
   have h20 := hdk.1
   rcases hdk.2 with hxk | hxk
   ·subst hxk
    have hf := HD.out
    rw [if_neg (by omega)] at hf
    subst hf
    clear HD hdk
    go_wp2
    refine bodyPost_ret (v := .tuple #[.int .i64 xt.size, .int .i64 0]) (by simp [results, Tryz.results15, go_sem]) rfl ⟨rfl, ?_⟩
    repeat (first | refine belA ?_ _ | exact B9 | apply Below.drew)
   ·subst hxk
    have hf := HD.out
    rw [if_pos rfl] at hf
    subst hf
    clear HD hdk
    go_wp2_with fail
    refine (Hbl.out id wc (hvv.out.next B9).is).mono ?_
    rintro e w4 ⟨gI, rfl, ownI, hb4⟩
    have B4 := belN B9 hb4
    have V0 := Lib.hid (kp_ hb4 v0)
    have V1 := Lib.hid (kp_ hb4 v1)
    have OwnI := Lib.hid ownI
    have hSm := Lib.hid (fun k => Hsm.out (belowB xs id) k)
    have hbl := belowB_len xs id
    obtain ⟨bs, hbs⟩ : ∃ bs, belowB xs id = bs := ⟨_, rfl⟩
    simp only [hbs] at OwnI hSm hbl ⊢
    have Hbs := Lib.hid hbs
    clear hbs v0 v1 g1 g3 hG ownI
    go_wp2
    go_loopw [9, 11] (fun x i wr => ∃ (p : Nat), p <= n /\ i = .int .i64 p /\ x = .int .i64 (duS xs bs p : Nat) /\ Below w4.heap.size w4 wr)
     (fun _ i _ => n - (intOf i).toNat)
    case atStart => exact ⟨0, by omega, rfl, rfl, bel0 w4⟩
    case round =>
     obtain ⟨p, hp, rfl, rfl, hbel⟩ := hrel
     have v0 := kp_ hbel V0.out
     have v1 := kp_ hbel V1.out
     have BB := belN B4 hbel
     have hd1 := hSm.out p
     by_cases hlt : p < n
     ·have hpx : p < xs.length := by have := HL.out; omega
      have own7 := own_below OwnI.out hbel (Nat.le_refl _)
      have q2 : (0 : Int) <= ↑p := by omega
      have q3 : (↑p : Int) < ↑n := by omega
      have hd2 := hSm.out (p + 1)
      rcases bool_at (l := bs) (k := p) (by omega) with hb | hb
      ·have e1 := own_bool own7 hb
       have Hst := Lib.hid (duS_on hpx hb)
       rw [duS_on hpx hb] at hd2
       obtain ⟨_, b', o', A4, c4, hA4, _, z0, z1, z2, z3, z4, _⟩ := (H.out.next BB).at_ hlt
       obtain ⟨rfl, rfl⟩ : b = b' /\ o = o' := by simpa using hA4
       obtain ⟨t, ht⟩ : ∃ t, xs[p].s = t := ⟨_, rfl⟩
       rw [ht] at z3 Hst hd2
       clear z0 z1 z2 z4 ht hb own7 hA4
       obtain ⟨q, hq⟩ : ∃ q, duS xs bs p = q := ⟨_, rfl⟩
       rw [hq] at hd1 hd2 Hst ⊢
       clear hq
       go_wp2
       go_roundw
       case rel => exact ⟨p + 1, by omega, by go_num, by rw [Hst.out]; first | rfl | simp, hbel⟩
       case measure => simp [intOf]; omega
      ·have e1 := own_bool own7 hb
       have Hst := Lib.hid (duS_off (xs := xs) hb)
       clear hb own7 hd2
       go_wp2
       go_roundw
       case rel => exact ⟨p + 1, by omega, by go_num, by rw [Hst.out], hbel⟩
       case measure => simp [intOf]; omega
     ·obtain rfl : p = n := by omega
      obtain ⟨q, hq⟩ : ∃ q, duS xs bs p = q := ⟨_, rfl⟩
      have Hq := Lib.hid (show duS xs bs xs.length = q by rw [HL.out]; exact hq)
      rw [hq] at hd1 ⊢
      clear hq v0 v1
      go_wp2
      refine bodyPost_ret (v := .tuple #[.int .i64 q, .int .i64 0]) (by simp [results, Tryz.results15, go_sem]) rfl ⟨by rw [Hbs.out, Hq.out], BB⟩
 ·have Hg := Lib.hid (Hbad.out hc)
  have hc1 : (code != 0) = true := by simpa using hc
  clear hc Hgood Hbad
  go_wp2
  refine bodyPost_ret (v := .tuple #[.int .i64 0, .int .i64 code]) (by simp [results, Tryz.results15, go_sem]) rfl ⟨by rw [Hg.out], ?_⟩
  repeat (first | refine belA ?_ _ | exact B2 | apply Below.drew)

end Go.Proofs.YtjjniapamdleoaaGreatDoor
