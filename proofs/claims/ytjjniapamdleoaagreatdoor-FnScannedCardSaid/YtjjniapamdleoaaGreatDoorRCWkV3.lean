/- l20Walk and Walk of the reference. -/
import Derived.Test.YtjjniapamdleoaaGreatDoorRCWkV
import Derived.Test.YtjjniapamdleoaaGreatDoorRCRecs
namespace Go.Proofs.YtjjniapamdleoaaGreatDoor
open Go Go.RowKit
set_option maxHeartbeats 8000000
set_option maxRecDepth 100000

theorem l20Walk_any (v : Value) (V : VolD) (sm : szV V <= 1048576) (hp : VolP V.nx V.xs) (l : List ByteArray) (hl : ∀ s ∈ l, nameOkB s = true) (m : Nat) (hm : m = l.length) (hm2 : m <= 10000) (An : Option Addr) (cn : Nat) (w : World) (hC : IsVolC w v V) (hR : Reads w w.heap.size 1 An m (SS l)) :
  Calls Tryz.prog 50 #[v, .slice An m cn] w fun e w' => e = .returned (.tuple #[.int .i64 (wkP V.xs 1 l).1, .int .i64 (wkP V.xs 1 l).2]) /\ Below w.heap.size w w' := by
 have Hdo := Lib.hid (fun a ha s hs W hW => volDo_look v V sm hp a ha s hs W hW)
 have Hid1 := Lib.hid (fun (a : Int) (s : ByteArray) => lk_id hp (a := a) (s := s))
 have hone : 0 <= plc V.xs 1 := by rw [hp.one]; omega
 have Hone := Lib.hid hone
 have hv := Lib.hid hC
 have HR := Lib.hid hR
 have Hnl := Lib.hid hl
 obtain ⟨A, c, rfl, _⟩ := hC
 obtain ⟨nx, xs⟩ := V
 simp only at Hdo hp Hid1 Hone ⊢
 clear hR hl sm hp hone
 obtain ⟨Q, hQ⟩ : ∃ Q, wkP xs 1 l = Q := ⟨_, rfl⟩
 have HQ := Lib.hid hQ
 rw [hQ]
 clear hQ
 obtain ⟨n, hn'⟩ : ∃ n, xs.length = n := ⟨_, rfl⟩
 simp only [hn'] at Hdo hv ⊢
 clear hn'
 obtain ⟨W1, hW1⟩ : ∃ W1, w.alloc (.cells #[.int .i64 nx, .slice A n c] 26) = W1 := ⟨_, rfl⟩
 have B1 : Below w.heap.size w W1 := by rw [<- hW1]; exact belA (bel0 w) _
 have hV : Blk W1 w.heap.size 26 #[.int .i64 nx, .slice A n c] := by rw [<- hW1]; exact Blk.new' _ _ _ _ rfl
 have S1 := hV.lt
 have HW1 := Lib.hid hW1
 have V0 := Lib.hid (hV.get 0 rfl)
 have V1 := Lib.hid (hV.get 1 rfl)
 clear hW1 hV
 go_enter Tryz.func50, Tryz.ntmps50
 go_wp2
 rw [HW1.out]
 go_loopw [6, 7] (fun x i wr => ∃ (k : Nat) (id : Int), k <= m /\ i = .int .i64 k /\ x = .int .i64 id /\ 0 <= plc xs id /\ Hid (wkP xs id (l.drop k) = Q) /\ Below W1.heap.size W1 wr)
  (fun _ i _ => m - (intOf i).toNat)
 case atStart => exact ⟨0, 1, by omega, rfl, rfl, Hone.out, by rw [List.drop_zero]; exact HQ.out, bel0 W1⟩
 case round =>
  obtain ⟨k, id, hk, rfl, rfl, hid0, hrel2, hbel⟩ := hrel
  have v0 := kp_ hbel V0.out
  have v1 := kp_ hbel V1.out
  have BB := belN B1 hbel
  by_cases hlt : k < m
  ·obtain ⟨hkx, bb, oo, rfl, had, z0⟩ := reads_strF (HR.out.below BB) hlt
   have q0 : (0 : Int) <= ↑k := by omega
   have q1 : (↑k : Int) < ↑m := by omega
   have hnk := Hnl.out _ (List.getElem_mem hkx)
   have Hst := Lib.hid (fun h => wk_step (xs := xs) (a := id) hkx h)
   have Hsp := Lib.hid (fun h => wk_stop (xs := xs) (a := id) hkx h)
   have Hid2 := Lib.hid (Hid1.out id l[k])
   obtain ⟨t, ht⟩ : ∃ t, l[k] = t := ⟨_, rfl⟩
   simp only [ht] at hnk Hst Hsp z0 Hid2
   clear ht
   have Hd := Lib.hid (fun W hW => Hdo.out id hid0 t hnk W hW)
   obtain ⟨R, hR⟩ : ∃ R, lkP xs id t = R := ⟨_, rfl⟩
   simp only [hR] at Hd Hst Hsp Hid2
   clear hR hnk hid0
   obtain ⟨rc, ri, rs, rd⟩ := R
   simp only [LkD.val] at Hd Hst Hsp Hid2
   go_wp2_with fail
   go_cut [8, 9] from 10 to 33 (fun p q wx => ∃ (g h : Nat), p = .pointer (some ⟨g, 0, none⟩) /\ q = .pointer (some ⟨h, 0, none⟩) /\ Hid (Blk wx h 54 #[.int .i64 rc, .int .i64 ri, .string rs, .string rd]) /\ Below wr.heap.size wr wx)
   case first =>
    refine wp_region_held_drew (S := fun w' => w'.cell? ⟨w.heap.size, 0, none⟩ = some (.int .i64 nx) /\ w'.cell? ⟨w.heap.size, 1, none⟩ = some (.slice A n c) /\ w'.cell? ⟨bb, oo + k, none⟩ = some (.string t)) (by kernel_rfl) (by exact ⟨v0, v1, z0⟩) (fun hHeld => ?_)
    refine foldH ?_
    intro r0 hr0
    have bw0 : Below wr.heap.size wr r0 := by rw [hr0]; exact (bel0 wr).drew
    clear hr0 hHeld
    refine tkW_ 0 ?_ (hS := by exact ⟨kp_ (bw0) v0, kp_ (bw0) v1, kp_ (bw0) z0⟩)
    refine tkW_ 1 ?_ (hS := by exact ⟨kp_ (bw0) v0, kp_ (bw0) v1, kp_ (bw0) z0⟩)
    refine tkW_ 2 ?_ (hS := by exact ⟨kp_ (bw0) v0, kp_ (bw0) v1, kp_ (bw0) z0⟩)
    refine tkW_ 3 ?_ (hS := by exact ⟨kp_ (bw0) v0, kp_ (bw0) v1, kp_ (bw0) z0⟩)
    refine tkW_ 4 ?_ (hS := by exact ⟨kp_ (bw0) v0, kp_ (bw0) v1, kp_ (bw0) z0⟩)
    refine tkW_ 5 ?_ (hS := by exact ⟨kp_ (bw0) v0, kp_ (bw0) v1, kp_ (bw0) z0⟩)
    refine tkW_ 6 ?_ (hS := by exact ⟨kp_ (bw0) v0, kp_ (bw0) v1, kp_ (bw0) z0⟩)
    refine wpAnyH_ready (rs := [7, 11, 12]) (by kernel_rfl) (by simp) ?_
    refine AllReadyH.cons (o := ?oi8) ?hi8 (fun K hK => ?br8) (AllReadyH.cons (o := ?oi9) ?hi9 (fun K hK => ?br9) (AllReadyH.cons (o := ?oi10) ?hi10 (fun K hK => ?br10) AllReadyH.nil))
    case hi8 => (conv => lhs; simp only [gT_, gZ_, gS_]); try exact rfl
    case hi9 => (conv => lhs; simp only [gT_, gZ_, gS_]); try exact rfl
    case hi10 => (conv => lhs; simp only [gT_, gZ_, gS_]); try exact rfl
    case br8 =>
     go_simp
     go_at_call 80
     refine (Hd.out _ (hv.out.next (belN BB bw0))).mono ?_
     rintro e r1 ⟨A1, c1, rfl, hb1r⟩
     have bw1 : Below wr.heap.size wr r1 := bw0.trans (hb1r.mono bw0.size)
     refine hK.out _ _ (by exact ⟨kp_ (bw1) v0, kp_ (bw1) v1, kp_ (bw1) z0⟩) (fun _ => ?_)
     clear hK K
     refine tkW_ 8 ?_ (hS := by exact ⟨kp_ (bw1) v0, kp_ (bw1) v1, kp_ (bw1) z0⟩)
     refine tkW_ 9 ?_ (hS := by exact ⟨kp_ (bw1) v0, kp_ (bw1) v1, kp_ (bw1) z0⟩)
     refine tkW_ 10 ?_ (hS := by exact ⟨kp_ (bw1) v0, kp_ (bw1) v1, kp_ (bw1) z0⟩)
     refine rd2_ 11 12 (fun K hK => ?br14) (fun K hK => ?br15)
     case br14 =>
      go_simp
      refine hK.out _ _ (by exact ⟨kp_ (belA bw1 _) v0, kp_ (belA bw1 _) v1, kp_ (belA bw1 _) z0⟩) (fun _ => ?_)
      clear hK K
      refine foldH ?_
      intro r2 hr2
      have bw2 : Below wr.heap.size wr r2 := by rw [hr2]; exact belA bw1 _
      have kX2 : Blk r2 r1.heap.size 26 #[.int .i64 0, .slice none 0 0] := by rw [hr2]; exact Blk.new' _ _ _ _ rfl
      have laX2 : wr.heap.size <= r1.heap.size := bw1.size
      clear hr2
      refine rd1_ 12 (fun K hK => ?br16)
      case br16 =>
       go_simp
       refine hK.out _ _ (by exact ⟨kp_ (belA bw2 _) v0, kp_ (belA bw2 _) v1, kp_ (belA bw2 _) z0⟩) (fun _ => ?_)
       clear hK K
       refine foldH ?_
       intro r3 hr3
       have bw3 : Below wr.heap.size wr r3 := by rw [hr3]; exact belA bw2 _
       have kR3 : Blk r3 r2.heap.size 54 #[.int .i64 0, .int .i64 0, .string ⟨#[]⟩, .string ⟨#[]⟩] := by rw [hr3]; exact Blk.new' _ _ _ _ rfl
       have kX3 : Blk r3 r1.heap.size 26 #[.int .i64 0, .slice none 0 0] := by rw [hr3]; exact kX2.alloc _
       have laR3 : wr.heap.size <= r2.heap.size := bw2.size
       clear hr3
       refine rd1_ 13 (fun K hK => ?br17)
       case br17 =>
        have x0 := kX3.get (x := .int .i64 0) 0 rfl
        have f0 := kX3.frozen 0
        have x1 := kX3.get (x := .slice none 0 0) 1 rfl
        have f1 := kX3.frozen 1
        have lE := kX3.lt
        go_simp
        refine hK.out _ _ (by exact ⟨kp_ (belC (belC (bw3) _ _ laX2 _) _ _ laX2 _) v0, kp_ (belC (belC (bw3) _ _ laX2 _) _ _ laX2 _) v1, kp_ (belC (belC (bw3) _ _ laX2 _) _ _ laX2 _) z0⟩) (fun _ => ?_)
        clear hK K x0 f0 x1 f1 lE
        refine foldH ?_
        intro r4 hr4
        have bw4 : Below wr.heap.size wr r4 := by rw [hr4]; exact belC (belC (bw3) _ _ laX2 _) _ _ laX2 _
        have kX4 : Blk r4 r1.heap.size 26 #[.int .i64 nx, .slice A1 n c1] := by rw [hr4]; exact ((kX3).put 0 _ _ rfl).put 1 _ _ rfl
        have neR4 : r2.heap.size ≠ r1.heap.size := by have := kX3.lt; have := kR3.lt; exact Blk.ne_ kR3 kX3 (by decide)
        have kR4 : Blk r4 r2.heap.size 54 #[.int .i64 0, .int .i64 0, .string ⟨#[]⟩, .string ⟨#[]⟩] := by rw [hr4]; exact ((kR3).far neR4 _).far neR4 _
        clear hr4
        refine rd1_ 14 (fun K hK => ?br18)
        case br18 =>
         have x0 := kR4.get (x := .int .i64 0) 0 rfl
         have f0 := kR4.frozen 0
         have x1 := kR4.get (x := .int .i64 0) 1 rfl
         have f1 := kR4.frozen 1
         have x2 := kR4.get (x := .string ⟨#[]⟩) 2 rfl
         have f2 := kR4.frozen 2
         have x3 := kR4.get (x := .string ⟨#[]⟩) 3 rfl
         have f3 := kR4.frozen 3
         have lE := kR4.lt
         go_simp
         refine hK.out _ _ (by exact ⟨kp_ (belC (belC (belC (belC (bw4) _ _ laR3 _) _ _ laR3 _) _ _ laR3 _) _ _ laR3 _) v0, kp_ (belC (belC (belC (belC (bw4) _ _ laR3 _) _ _ laR3 _) _ _ laR3 _) _ _ laR3 _) v1, kp_ (belC (belC (belC (belC (bw4) _ _ laR3 _) _ _ laR3 _) _ _ laR3 _) _ _ laR3 _) z0⟩) (fun _ => ?_)
         clear hK K x0 f0 x1 f1 x2 f2 x3 f3 lE
         refine foldH ?_
         intro r5 hr5
         have bw5 : Below wr.heap.size wr r5 := by rw [hr5]; exact belC (belC (belC (belC (bw4) _ _ laR3 _) _ _ laR3 _) _ _ laR3 _) _ _ laR3 _
         have kR5 : Blk r5 r2.heap.size 54 #[.int .i64 rc, .int .i64 ri, .string rs, .string rd] := by rw [hr5]; exact ((((kR4).put 0 _ _ rfl).put 1 _ _ rfl).put 2 _ _ rfl).put 3 _ _ rfl
         have neX5 : r1.heap.size ≠ r2.heap.size := by have := kR4.lt; have := kX4.lt; exact Blk.ne_ kX4 kR4 (by decide)
         have kX5 : Blk r5 r1.heap.size 26 #[.int .i64 nx, .slice A1 n c1] := by rw [hr5]; exact ((((kX4).far neX5 _).far neX5 _).far neX5 _).far neX5 _
         clear hr5
         refine wpAnyH_done (by kernel_rfl) ?_ _
         go_wp2_with fail
         go_meet
         case rel => exact ⟨_, _, rfl, rfl, kR5, bw5⟩
     case br15 =>
      go_simp
      refine hK.out _ _ (by exact ⟨kp_ (belA bw1 _) v0, kp_ (belA bw1 _) v1, kp_ (belA bw1 _) z0⟩) (fun _ => ?_)
      clear hK K
      refine foldH ?_
      intro r2 hr2
      have bw2 : Below wr.heap.size wr r2 := by rw [hr2]; exact belA bw1 _
      have kR2 : Blk r2 r1.heap.size 54 #[.int .i64 0, .int .i64 0, .string ⟨#[]⟩, .string ⟨#[]⟩] := by rw [hr2]; exact Blk.new' _ _ _ _ rfl
      have laR2 : wr.heap.size <= r1.heap.size := bw1.size
      clear hr2
      refine rd1_ 11 (fun K hK => ?br19)
      case br19 =>
       go_simp
       refine hK.out _ _ (by exact ⟨kp_ (belA bw2 _) v0, kp_ (belA bw2 _) v1, kp_ (belA bw2 _) z0⟩) (fun _ => ?_)
       clear hK K
       refine foldH ?_
       intro r3 hr3
       have bw3 : Below wr.heap.size wr r3 := by rw [hr3]; exact belA bw2 _
       have kX3 : Blk r3 r2.heap.size 26 #[.int .i64 0, .slice none 0 0] := by rw [hr3]; exact Blk.new' _ _ _ _ rfl
       have kR3 : Blk r3 r1.heap.size 54 #[.int .i64 0, .int .i64 0, .string ⟨#[]⟩, .string ⟨#[]⟩] := by rw [hr3]; exact kR2.alloc _
       have laX3 : wr.heap.size <= r2.heap.size := bw2.size
       clear hr3
       refine rd1_ 13 (fun K hK => ?br20)
       case br20 =>
        have x0 := kX3.get (x := .int .i64 0) 0 rfl
        have f0 := kX3.frozen 0
        have x1 := kX3.get (x := .slice none 0 0) 1 rfl
        have f1 := kX3.frozen 1
        have lE := kX3.lt
        go_simp
        refine hK.out _ _ (by exact ⟨kp_ (belC (belC (bw3) _ _ laX3 _) _ _ laX3 _) v0, kp_ (belC (belC (bw3) _ _ laX3 _) _ _ laX3 _) v1, kp_ (belC (belC (bw3) _ _ laX3 _) _ _ laX3 _) z0⟩) (fun _ => ?_)
        clear hK K x0 f0 x1 f1 lE
        refine foldH ?_
        intro r4 hr4
        have bw4 : Below wr.heap.size wr r4 := by rw [hr4]; exact belC (belC (bw3) _ _ laX3 _) _ _ laX3 _
        have kX4 : Blk r4 r2.heap.size 26 #[.int .i64 nx, .slice A1 n c1] := by rw [hr4]; exact ((kX3).put 0 _ _ rfl).put 1 _ _ rfl
        have neR4 : r1.heap.size ≠ r2.heap.size := by have := kX3.lt; have := kR3.lt; exact Blk.ne_ kR3 kX3 (by decide)
        have kR4 : Blk r4 r1.heap.size 54 #[.int .i64 0, .int .i64 0, .string ⟨#[]⟩, .string ⟨#[]⟩] := by rw [hr4]; exact ((kR3).far neR4 _).far neR4 _
        clear hr4
        refine rd1_ 14 (fun K hK => ?br21)
        case br21 =>
         have x0 := kR4.get (x := .int .i64 0) 0 rfl
         have f0 := kR4.frozen 0
         have x1 := kR4.get (x := .int .i64 0) 1 rfl
         have f1 := kR4.frozen 1
         have x2 := kR4.get (x := .string ⟨#[]⟩) 2 rfl
         have f2 := kR4.frozen 2
         have x3 := kR4.get (x := .string ⟨#[]⟩) 3 rfl
         have f3 := kR4.frozen 3
         have lE := kR4.lt
         go_simp
         refine hK.out _ _ (by exact ⟨kp_ (belC (belC (belC (belC (bw4) _ _ laR2 _) _ _ laR2 _) _ _ laR2 _) _ _ laR2 _) v0, kp_ (belC (belC (belC (belC (bw4) _ _ laR2 _) _ _ laR2 _) _ _ laR2 _) _ _ laR2 _) v1, kp_ (belC (belC (belC (belC (bw4) _ _ laR2 _) _ _ laR2 _) _ _ laR2 _) _ _ laR2 _) z0⟩) (fun _ => ?_)
         clear hK K x0 f0 x1 f1 x2 f2 x3 f3 lE
         refine foldH ?_
         intro r5 hr5
         have bw5 : Below wr.heap.size wr r5 := by rw [hr5]; exact belC (belC (belC (belC (bw4) _ _ laR2 _) _ _ laR2 _) _ _ laR2 _) _ _ laR2 _
         have kR5 : Blk r5 r1.heap.size 54 #[.int .i64 rc, .int .i64 ri, .string rs, .string rd] := by rw [hr5]; exact ((((kR4).put 0 _ _ rfl).put 1 _ _ rfl).put 2 _ _ rfl).put 3 _ _ rfl
         have neX5 : r2.heap.size ≠ r1.heap.size := by have := kR4.lt; have := kX4.lt; exact Blk.ne_ kX4 kR4 (by decide)
         have kX5 : Blk r5 r2.heap.size 26 #[.int .i64 nx, .slice A1 n c1] := by rw [hr5]; exact ((((kX4).far neX5 _).far neX5 _).far neX5 _).far neX5 _
         clear hr5
         refine wpAnyH_done (by kernel_rfl) ?_ _
         go_wp2_with fail
         go_meet
         case rel => exact ⟨_, _, rfl, rfl, kR5, bw5⟩
    case br9 =>
     go_simp
     refine hK.out _ _ (by exact ⟨kp_ (belA bw0 _) v0, kp_ (belA bw0 _) v1, kp_ (belA bw0 _) z0⟩) (fun _ => ?_)
     clear hK K
     refine foldH ?_
     intro r1 hr1
     have bw1 : Below wr.heap.size wr r1 := by rw [hr1]; exact belA bw0 _
     have kX1 : Blk r1 r0.heap.size 26 #[.int .i64 0, .slice none 0 0] := by rw [hr1]; exact Blk.new' _ _ _ _ rfl
     have laX1 : wr.heap.size <= r0.heap.size := bw0.size
     clear hr1
     refine rd2_ 7 12 (fun K hK => ?br22) (fun K hK => ?br23)
     case br22 =>
      go_simp
      go_at_call 80
      refine (Hd.out _ (hv.out.next (belN BB bw1))).mono ?_
      rintro e r2 ⟨A2, c2, rfl, hb2r⟩
      have bw2 : Below wr.heap.size wr r2 := bw1.trans (hb2r.mono bw1.size)
      refine hK.out _ _ (by exact ⟨kp_ (bw2) v0, kp_ (bw2) v1, kp_ (bw2) z0⟩) (fun _ => ?_)
      clear hK K
      have kX2 := kX1.below hb2r kX1.lt
      refine tkW_ 8 ?_ (hS := by exact ⟨kp_ (bw2) v0, kp_ (bw2) v1, kp_ (bw2) z0⟩)
      refine tkW_ 9 ?_ (hS := by exact ⟨kp_ (bw2) v0, kp_ (bw2) v1, kp_ (bw2) z0⟩)
      refine tkW_ 10 ?_ (hS := by exact ⟨kp_ (bw2) v0, kp_ (bw2) v1, kp_ (bw2) z0⟩)
      refine rd1_ 12 (fun K hK => ?br27)
      case br27 =>
       go_simp
       refine hK.out _ _ (by exact ⟨kp_ (belA bw2 _) v0, kp_ (belA bw2 _) v1, kp_ (belA bw2 _) z0⟩) (fun _ => ?_)
       clear hK K
       refine foldH ?_
       intro r3 hr3
       have bw3 : Below wr.heap.size wr r3 := by rw [hr3]; exact belA bw2 _
       have kR3 : Blk r3 r2.heap.size 54 #[.int .i64 0, .int .i64 0, .string ⟨#[]⟩, .string ⟨#[]⟩] := by rw [hr3]; exact Blk.new' _ _ _ _ rfl
       have kX3 : Blk r3 r0.heap.size 26 #[.int .i64 0, .slice none 0 0] := by rw [hr3]; exact kX2.alloc _
       have laR3 : wr.heap.size <= r2.heap.size := bw2.size
       clear hr3
       refine rd1_ 13 (fun K hK => ?br28)
       case br28 =>
        have x0 := kX3.get (x := .int .i64 0) 0 rfl
        have f0 := kX3.frozen 0
        have x1 := kX3.get (x := .slice none 0 0) 1 rfl
        have f1 := kX3.frozen 1
        have lE := kX3.lt
        go_simp
        refine hK.out _ _ (by exact ⟨kp_ (belC (belC (bw3) _ _ laX1 _) _ _ laX1 _) v0, kp_ (belC (belC (bw3) _ _ laX1 _) _ _ laX1 _) v1, kp_ (belC (belC (bw3) _ _ laX1 _) _ _ laX1 _) z0⟩) (fun _ => ?_)
        clear hK K x0 f0 x1 f1 lE
        refine foldH ?_
        intro r4 hr4
        have bw4 : Below wr.heap.size wr r4 := by rw [hr4]; exact belC (belC (bw3) _ _ laX1 _) _ _ laX1 _
        have kX4 : Blk r4 r0.heap.size 26 #[.int .i64 nx, .slice A2 n c2] := by rw [hr4]; exact ((kX3).put 0 _ _ rfl).put 1 _ _ rfl
        have neR4 : r2.heap.size ≠ r0.heap.size := by have := kX3.lt; have := kR3.lt; exact Blk.ne_ kR3 kX3 (by decide)
        have kR4 : Blk r4 r2.heap.size 54 #[.int .i64 0, .int .i64 0, .string ⟨#[]⟩, .string ⟨#[]⟩] := by rw [hr4]; exact ((kR3).far neR4 _).far neR4 _
        clear hr4
        refine rd1_ 14 (fun K hK => ?br29)
        case br29 =>
         have x0 := kR4.get (x := .int .i64 0) 0 rfl
         have f0 := kR4.frozen 0
         have x1 := kR4.get (x := .int .i64 0) 1 rfl
         have f1 := kR4.frozen 1
         have x2 := kR4.get (x := .string ⟨#[]⟩) 2 rfl
         have f2 := kR4.frozen 2
         have x3 := kR4.get (x := .string ⟨#[]⟩) 3 rfl
         have f3 := kR4.frozen 3
         have lE := kR4.lt
         go_simp
         refine hK.out _ _ (by exact ⟨kp_ (belC (belC (belC (belC (bw4) _ _ laR3 _) _ _ laR3 _) _ _ laR3 _) _ _ laR3 _) v0, kp_ (belC (belC (belC (belC (bw4) _ _ laR3 _) _ _ laR3 _) _ _ laR3 _) _ _ laR3 _) v1, kp_ (belC (belC (belC (belC (bw4) _ _ laR3 _) _ _ laR3 _) _ _ laR3 _) _ _ laR3 _) z0⟩) (fun _ => ?_)
         clear hK K x0 f0 x1 f1 x2 f2 x3 f3 lE
         refine foldH ?_
         intro r5 hr5
         have bw5 : Below wr.heap.size wr r5 := by rw [hr5]; exact belC (belC (belC (belC (bw4) _ _ laR3 _) _ _ laR3 _) _ _ laR3 _) _ _ laR3 _
         have kR5 : Blk r5 r2.heap.size 54 #[.int .i64 rc, .int .i64 ri, .string rs, .string rd] := by rw [hr5]; exact ((((kR4).put 0 _ _ rfl).put 1 _ _ rfl).put 2 _ _ rfl).put 3 _ _ rfl
         have neX5 : r0.heap.size ≠ r2.heap.size := by have := kR4.lt; have := kX4.lt; exact Blk.ne_ kX4 kR4 (by decide)
         have kX5 : Blk r5 r0.heap.size 26 #[.int .i64 nx, .slice A2 n c2] := by rw [hr5]; exact ((((kX4).far neX5 _).far neX5 _).far neX5 _).far neX5 _
         clear hr5
         refine wpAnyH_done (by kernel_rfl) ?_ _
         go_wp2_with fail
         go_meet
         case rel => exact ⟨_, _, rfl, rfl, kR5, bw5⟩
     case br23 =>
      go_simp
      refine hK.out _ _ (by exact ⟨kp_ (belA bw1 _) v0, kp_ (belA bw1 _) v1, kp_ (belA bw1 _) z0⟩) (fun _ => ?_)
      clear hK K
      refine foldH ?_
      intro r2 hr2
      have bw2 : Below wr.heap.size wr r2 := by rw [hr2]; exact belA bw1 _
      have kR2 : Blk r2 r1.heap.size 54 #[.int .i64 0, .int .i64 0, .string ⟨#[]⟩, .string ⟨#[]⟩] := by rw [hr2]; exact Blk.new' _ _ _ _ rfl
      have kX2 : Blk r2 r0.heap.size 26 #[.int .i64 0, .slice none 0 0] := by rw [hr2]; exact kX1.alloc _
      have laR2 : wr.heap.size <= r1.heap.size := bw1.size
      clear hr2
      refine rd1_ 7 (fun K hK => ?br30)
      case br30 =>
       go_simp
       go_at_call 80
       refine (Hd.out _ (hv.out.next (belN BB bw2))).mono ?_
       rintro e r3 ⟨A3, c3, rfl, hb3r⟩
       have bw3 : Below wr.heap.size wr r3 := bw2.trans (hb3r.mono bw2.size)
       refine hK.out _ _ (by exact ⟨kp_ (bw3) v0, kp_ (bw3) v1, kp_ (bw3) z0⟩) (fun _ => ?_)
       clear hK K
       have kX3 := kX2.below hb3r kX2.lt
       have kR3 := kR2.below hb3r kR2.lt
       refine tkW_ 8 ?_ (hS := by exact ⟨kp_ (bw3) v0, kp_ (bw3) v1, kp_ (bw3) z0⟩)
       refine tkW_ 9 ?_ (hS := by exact ⟨kp_ (bw3) v0, kp_ (bw3) v1, kp_ (bw3) z0⟩)
       refine tkW_ 10 ?_ (hS := by exact ⟨kp_ (bw3) v0, kp_ (bw3) v1, kp_ (bw3) z0⟩)
       refine rd1_ 13 (fun K hK => ?br34)
       case br34 =>
        have x0 := kX3.get (x := .int .i64 0) 0 rfl
        have f0 := kX3.frozen 0
        have x1 := kX3.get (x := .slice none 0 0) 1 rfl
        have f1 := kX3.frozen 1
        have lE := kX3.lt
        go_simp
        refine hK.out _ _ (by exact ⟨kp_ (belC (belC (bw3) _ _ laX1 _) _ _ laX1 _) v0, kp_ (belC (belC (bw3) _ _ laX1 _) _ _ laX1 _) v1, kp_ (belC (belC (bw3) _ _ laX1 _) _ _ laX1 _) z0⟩) (fun _ => ?_)
        clear hK K x0 f0 x1 f1 lE
        refine foldH ?_
        intro r4 hr4
        have bw4 : Below wr.heap.size wr r4 := by rw [hr4]; exact belC (belC (bw3) _ _ laX1 _) _ _ laX1 _
        have kX4 : Blk r4 r0.heap.size 26 #[.int .i64 nx, .slice A3 n c3] := by rw [hr4]; exact ((kX3).put 0 _ _ rfl).put 1 _ _ rfl
        have neR4 : r1.heap.size ≠ r0.heap.size := by have := kX3.lt; have := kR3.lt; exact Blk.ne_ kR3 kX3 (by decide)
        have kR4 : Blk r4 r1.heap.size 54 #[.int .i64 0, .int .i64 0, .string ⟨#[]⟩, .string ⟨#[]⟩] := by rw [hr4]; exact ((kR3).far neR4 _).far neR4 _
        clear hr4
        refine rd1_ 14 (fun K hK => ?br35)
        case br35 =>
         have x0 := kR4.get (x := .int .i64 0) 0 rfl
         have f0 := kR4.frozen 0
         have x1 := kR4.get (x := .int .i64 0) 1 rfl
         have f1 := kR4.frozen 1
         have x2 := kR4.get (x := .string ⟨#[]⟩) 2 rfl
         have f2 := kR4.frozen 2
         have x3 := kR4.get (x := .string ⟨#[]⟩) 3 rfl
         have f3 := kR4.frozen 3
         have lE := kR4.lt
         go_simp
         refine hK.out _ _ (by exact ⟨kp_ (belC (belC (belC (belC (bw4) _ _ laR2 _) _ _ laR2 _) _ _ laR2 _) _ _ laR2 _) v0, kp_ (belC (belC (belC (belC (bw4) _ _ laR2 _) _ _ laR2 _) _ _ laR2 _) _ _ laR2 _) v1, kp_ (belC (belC (belC (belC (bw4) _ _ laR2 _) _ _ laR2 _) _ _ laR2 _) _ _ laR2 _) z0⟩) (fun _ => ?_)
         clear hK K x0 f0 x1 f1 x2 f2 x3 f3 lE
         refine foldH ?_
         intro r5 hr5
         have bw5 : Below wr.heap.size wr r5 := by rw [hr5]; exact belC (belC (belC (belC (bw4) _ _ laR2 _) _ _ laR2 _) _ _ laR2 _) _ _ laR2 _
         have kR5 : Blk r5 r1.heap.size 54 #[.int .i64 rc, .int .i64 ri, .string rs, .string rd] := by rw [hr5]; exact ((((kR4).put 0 _ _ rfl).put 1 _ _ rfl).put 2 _ _ rfl).put 3 _ _ rfl
         have neX5 : r0.heap.size ≠ r1.heap.size := by have := kR4.lt; have := kX4.lt; exact Blk.ne_ kX4 kR4 (by decide)
         have kX5 : Blk r5 r0.heap.size 26 #[.int .i64 nx, .slice A3 n c3] := by rw [hr5]; exact ((((kX4).far neX5 _).far neX5 _).far neX5 _).far neX5 _
         clear hr5
         refine wpAnyH_done (by kernel_rfl) ?_ _
         go_wp2_with fail
         go_meet
         case rel => exact ⟨_, _, rfl, rfl, kR5, bw5⟩
    case br10 =>
     go_simp
     refine hK.out _ _ (by exact ⟨kp_ (belA bw0 _) v0, kp_ (belA bw0 _) v1, kp_ (belA bw0 _) z0⟩) (fun _ => ?_)
     clear hK K
     refine foldH ?_
     intro r1 hr1
     have bw1 : Below wr.heap.size wr r1 := by rw [hr1]; exact belA bw0 _
     have kR1 : Blk r1 r0.heap.size 54 #[.int .i64 0, .int .i64 0, .string ⟨#[]⟩, .string ⟨#[]⟩] := by rw [hr1]; exact Blk.new' _ _ _ _ rfl
     have laR1 : wr.heap.size <= r0.heap.size := bw0.size
     clear hr1
     refine rd2_ 7 11 (fun K hK => ?br36) (fun K hK => ?br37)
     case br36 =>
      go_simp
      go_at_call 80
      refine (Hd.out _ (hv.out.next (belN BB bw1))).mono ?_
      rintro e r2 ⟨A2, c2, rfl, hb2r⟩
      have bw2 : Below wr.heap.size wr r2 := bw1.trans (hb2r.mono bw1.size)
      refine hK.out _ _ (by exact ⟨kp_ (bw2) v0, kp_ (bw2) v1, kp_ (bw2) z0⟩) (fun _ => ?_)
      clear hK K
      have kR2 := kR1.below hb2r kR1.lt
      refine tkW_ 8 ?_ (hS := by exact ⟨kp_ (bw2) v0, kp_ (bw2) v1, kp_ (bw2) z0⟩)
      refine tkW_ 9 ?_ (hS := by exact ⟨kp_ (bw2) v0, kp_ (bw2) v1, kp_ (bw2) z0⟩)
      refine tkW_ 10 ?_ (hS := by exact ⟨kp_ (bw2) v0, kp_ (bw2) v1, kp_ (bw2) z0⟩)
      refine rd1_ 11 (fun K hK => ?br41)
      case br41 =>
       go_simp
       refine hK.out _ _ (by exact ⟨kp_ (belA bw2 _) v0, kp_ (belA bw2 _) v1, kp_ (belA bw2 _) z0⟩) (fun _ => ?_)
       clear hK K
       refine foldH ?_
       intro r3 hr3
       have bw3 : Below wr.heap.size wr r3 := by rw [hr3]; exact belA bw2 _
       have kX3 : Blk r3 r2.heap.size 26 #[.int .i64 0, .slice none 0 0] := by rw [hr3]; exact Blk.new' _ _ _ _ rfl
       have kR3 : Blk r3 r0.heap.size 54 #[.int .i64 0, .int .i64 0, .string ⟨#[]⟩, .string ⟨#[]⟩] := by rw [hr3]; exact kR2.alloc _
       have laX3 : wr.heap.size <= r2.heap.size := bw2.size
       clear hr3
       refine rd1_ 13 (fun K hK => ?br42)
       case br42 =>
        have x0 := kX3.get (x := .int .i64 0) 0 rfl
        have f0 := kX3.frozen 0
        have x1 := kX3.get (x := .slice none 0 0) 1 rfl
        have f1 := kX3.frozen 1
        have lE := kX3.lt
        go_simp
        refine hK.out _ _ (by exact ⟨kp_ (belC (belC (bw3) _ _ laX3 _) _ _ laX3 _) v0, kp_ (belC (belC (bw3) _ _ laX3 _) _ _ laX3 _) v1, kp_ (belC (belC (bw3) _ _ laX3 _) _ _ laX3 _) z0⟩) (fun _ => ?_)
        clear hK K x0 f0 x1 f1 lE
        refine foldH ?_
        intro r4 hr4
        have bw4 : Below wr.heap.size wr r4 := by rw [hr4]; exact belC (belC (bw3) _ _ laX3 _) _ _ laX3 _
        have kX4 : Blk r4 r2.heap.size 26 #[.int .i64 nx, .slice A2 n c2] := by rw [hr4]; exact ((kX3).put 0 _ _ rfl).put 1 _ _ rfl
        have neR4 : r0.heap.size ≠ r2.heap.size := by have := kX3.lt; have := kR3.lt; exact Blk.ne_ kR3 kX3 (by decide)
        have kR4 : Blk r4 r0.heap.size 54 #[.int .i64 0, .int .i64 0, .string ⟨#[]⟩, .string ⟨#[]⟩] := by rw [hr4]; exact ((kR3).far neR4 _).far neR4 _
        clear hr4
        refine rd1_ 14 (fun K hK => ?br43)
        case br43 =>
         have x0 := kR4.get (x := .int .i64 0) 0 rfl
         have f0 := kR4.frozen 0
         have x1 := kR4.get (x := .int .i64 0) 1 rfl
         have f1 := kR4.frozen 1
         have x2 := kR4.get (x := .string ⟨#[]⟩) 2 rfl
         have f2 := kR4.frozen 2
         have x3 := kR4.get (x := .string ⟨#[]⟩) 3 rfl
         have f3 := kR4.frozen 3
         have lE := kR4.lt
         go_simp
         refine hK.out _ _ (by exact ⟨kp_ (belC (belC (belC (belC (bw4) _ _ laR1 _) _ _ laR1 _) _ _ laR1 _) _ _ laR1 _) v0, kp_ (belC (belC (belC (belC (bw4) _ _ laR1 _) _ _ laR1 _) _ _ laR1 _) _ _ laR1 _) v1, kp_ (belC (belC (belC (belC (bw4) _ _ laR1 _) _ _ laR1 _) _ _ laR1 _) _ _ laR1 _) z0⟩) (fun _ => ?_)
         clear hK K x0 f0 x1 f1 x2 f2 x3 f3 lE
         refine foldH ?_
         intro r5 hr5
         have bw5 : Below wr.heap.size wr r5 := by rw [hr5]; exact belC (belC (belC (belC (bw4) _ _ laR1 _) _ _ laR1 _) _ _ laR1 _) _ _ laR1 _
         have kR5 : Blk r5 r0.heap.size 54 #[.int .i64 rc, .int .i64 ri, .string rs, .string rd] := by rw [hr5]; exact ((((kR4).put 0 _ _ rfl).put 1 _ _ rfl).put 2 _ _ rfl).put 3 _ _ rfl
         have neX5 : r2.heap.size ≠ r0.heap.size := by have := kR4.lt; have := kX4.lt; exact Blk.ne_ kX4 kR4 (by decide)
         have kX5 : Blk r5 r2.heap.size 26 #[.int .i64 nx, .slice A2 n c2] := by rw [hr5]; exact ((((kX4).far neX5 _).far neX5 _).far neX5 _).far neX5 _
         clear hr5
         refine wpAnyH_done (by kernel_rfl) ?_ _
         go_wp2_with fail
         go_meet
         case rel => exact ⟨_, _, rfl, rfl, kR5, bw5⟩
     case br37 =>
      go_simp
      refine hK.out _ _ (by exact ⟨kp_ (belA bw1 _) v0, kp_ (belA bw1 _) v1, kp_ (belA bw1 _) z0⟩) (fun _ => ?_)
      clear hK K
      refine foldH ?_
      intro r2 hr2
      have bw2 : Below wr.heap.size wr r2 := by rw [hr2]; exact belA bw1 _
      have kX2 : Blk r2 r1.heap.size 26 #[.int .i64 0, .slice none 0 0] := by rw [hr2]; exact Blk.new' _ _ _ _ rfl
      have kR2 : Blk r2 r0.heap.size 54 #[.int .i64 0, .int .i64 0, .string ⟨#[]⟩, .string ⟨#[]⟩] := by rw [hr2]; exact kR1.alloc _
      have laX2 : wr.heap.size <= r1.heap.size := bw1.size
      clear hr2
      refine rd1_ 7 (fun K hK => ?br44)
      case br44 =>
       go_simp
       go_at_call 80
       refine (Hd.out _ (hv.out.next (belN BB bw2))).mono ?_
       rintro e r3 ⟨A3, c3, rfl, hb3r⟩
       have bw3 : Below wr.heap.size wr r3 := bw2.trans (hb3r.mono bw2.size)
       refine hK.out _ _ (by exact ⟨kp_ (bw3) v0, kp_ (bw3) v1, kp_ (bw3) z0⟩) (fun _ => ?_)
       clear hK K
       have kR3 := kR2.below hb3r kR2.lt
       have kX3 := kX2.below hb3r kX2.lt
       refine tkW_ 8 ?_ (hS := by exact ⟨kp_ (bw3) v0, kp_ (bw3) v1, kp_ (bw3) z0⟩)
       refine tkW_ 9 ?_ (hS := by exact ⟨kp_ (bw3) v0, kp_ (bw3) v1, kp_ (bw3) z0⟩)
       refine tkW_ 10 ?_ (hS := by exact ⟨kp_ (bw3) v0, kp_ (bw3) v1, kp_ (bw3) z0⟩)
       refine rd1_ 13 (fun K hK => ?br48)
       case br48 =>
        have x0 := kX3.get (x := .int .i64 0) 0 rfl
        have f0 := kX3.frozen 0
        have x1 := kX3.get (x := .slice none 0 0) 1 rfl
        have f1 := kX3.frozen 1
        have lE := kX3.lt
        go_simp
        refine hK.out _ _ (by exact ⟨kp_ (belC (belC (bw3) _ _ laX2 _) _ _ laX2 _) v0, kp_ (belC (belC (bw3) _ _ laX2 _) _ _ laX2 _) v1, kp_ (belC (belC (bw3) _ _ laX2 _) _ _ laX2 _) z0⟩) (fun _ => ?_)
        clear hK K x0 f0 x1 f1 lE
        refine foldH ?_
        intro r4 hr4
        have bw4 : Below wr.heap.size wr r4 := by rw [hr4]; exact belC (belC (bw3) _ _ laX2 _) _ _ laX2 _
        have kX4 : Blk r4 r1.heap.size 26 #[.int .i64 nx, .slice A3 n c3] := by rw [hr4]; exact ((kX3).put 0 _ _ rfl).put 1 _ _ rfl
        have neR4 : r0.heap.size ≠ r1.heap.size := by have := kX3.lt; have := kR3.lt; exact Blk.ne_ kR3 kX3 (by decide)
        have kR4 : Blk r4 r0.heap.size 54 #[.int .i64 0, .int .i64 0, .string ⟨#[]⟩, .string ⟨#[]⟩] := by rw [hr4]; exact ((kR3).far neR4 _).far neR4 _
        clear hr4
        refine rd1_ 14 (fun K hK => ?br49)
        case br49 =>
         have x0 := kR4.get (x := .int .i64 0) 0 rfl
         have f0 := kR4.frozen 0
         have x1 := kR4.get (x := .int .i64 0) 1 rfl
         have f1 := kR4.frozen 1
         have x2 := kR4.get (x := .string ⟨#[]⟩) 2 rfl
         have f2 := kR4.frozen 2
         have x3 := kR4.get (x := .string ⟨#[]⟩) 3 rfl
         have f3 := kR4.frozen 3
         have lE := kR4.lt
         go_simp
         refine hK.out _ _ (by exact ⟨kp_ (belC (belC (belC (belC (bw4) _ _ laR1 _) _ _ laR1 _) _ _ laR1 _) _ _ laR1 _) v0, kp_ (belC (belC (belC (belC (bw4) _ _ laR1 _) _ _ laR1 _) _ _ laR1 _) _ _ laR1 _) v1, kp_ (belC (belC (belC (belC (bw4) _ _ laR1 _) _ _ laR1 _) _ _ laR1 _) _ _ laR1 _) z0⟩) (fun _ => ?_)
         clear hK K x0 f0 x1 f1 x2 f2 x3 f3 lE
         refine foldH ?_
         intro r5 hr5
         have bw5 : Below wr.heap.size wr r5 := by rw [hr5]; exact belC (belC (belC (belC (bw4) _ _ laR1 _) _ _ laR1 _) _ _ laR1 _) _ _ laR1 _
         have kR5 : Blk r5 r0.heap.size 54 #[.int .i64 rc, .int .i64 ri, .string rs, .string rd] := by rw [hr5]; exact ((((kR4).put 0 _ _ rfl).put 1 _ _ rfl).put 2 _ _ rfl).put 3 _ _ rfl
         have neX5 : r1.heap.size ≠ r0.heap.size := by have := kR4.lt; have := kX4.lt; exact Blk.ne_ kX4 kR4 (by decide)
         have kX5 : Blk r5 r1.heap.size 26 #[.int .i64 nx, .slice A3 n c3] := by rw [hr5]; exact ((((kX4).far neX5 _).far neX5 _).far neX5 _).far neX5 _
         clear hr5
         refine wpAnyH_done (by kernel_rfl) ?_ _
         go_wp2_with fail
         go_meet
         case rel => exact ⟨_, _, rfl, rfl, kR5, bw5⟩
   case rest =>
    obtain ⟨g, h, rfl, rfl, hH, hb3⟩ := hcut
    have B3 := belN BB hb3
    have hbel3 := belN hbel hb3
    clear v0 v1 z0
    have h0 := hH.out.get (x := .int .i64 rc) 0 rfl
    have h1 := hH.out.get (x := .int .i64 ri) 1 rfl
    by_cases hc0 : rc = 0
    ·subst hc0
     have Hn := Lib.hid ((Hst.out rfl).symm.trans hrel2.out)
     have hid3 := Hid2.out rfl
     go_wp2
     go_roundw
     case rel => exact ⟨k + 1, ri, by omega, by go_num, rfl, hid3, Hn.out, by first | exact hbel3 | exact hbel3.drew⟩
     case measure => simp [intOf]; omega
    ·have Hn := Lib.hid ((Hsp.out hc0).symm.trans hrel2.out)
     have hc1 : (rc != 0) = true := by simpa using hc0
     clear hc0
     go_wp2_with fail
     go_quiet (fail)
     go_wp2
     refine bodyPost_ret (v := .tuple #[.int .i64 0, .int .i64 rc]) (by simp [results, Tryz.results50, go_sem]) rfl ⟨by rw [<- Hn.out], by first | exact below_drewN B3 _ | exact B3⟩
  ·have Hf := Lib.hid ((wk_end (xs := xs) (a := id) (show l.length <= k by omega)).symm.trans hrel2.out)
   clear v0 v1
   go_wp2
   refine bodyPost_ret (v := .tuple #[.int .i64 id, .int .i64 0]) (by simp [results, Tryz.results50, go_sem]) rfl ⟨by rw [<- Hf.out], BB⟩

theorem walkV_spec (v : Value) (V : VolD) (sm : szV V <= 1048576) (s : ByteArray) (hs : s.size <= 2000000) (w : World) (hC : IsVolC w v V) :
  Calls Tryz.prog 12 #[v, .string s] w fun e w' => e = .returned (.tuple #[.int .i64 (walkP V (spB s)).1, .int .i64 (walkP V (spB s)).2]) /\ Below w.heap.size w w' := by
 have Hsp := Lib.hid (fun W => splitPath_spec s hs W)
 have Hok := Lib.hid (fun W hW => volOk_spec v V sm W hW)
 have Hwk := Lib.hid (fun hp An cn W hW hR => l20Walk_any v V sm hp (spB s).1 (fun t ht => sp_names ht) _ rfl (by have := sp_len s; omega) An cn W hW hR)
 have hvv := Lib.hid hC
 obtain ⟨A, c, rfl, _⟩ := hC
 obtain ⟨nx, xs⟩ := V
 simp only at Hok Hwk ⊢
 clear sm
 have Hbad := Lib.hid (fun h => walk_bad (V := ⟨nx, xs⟩) (p := spB s) h)
 have Hgood := Lib.hid (fun h h' => walk_ok (V := ⟨nx, xs⟩) (p := spB s) h h')
 obtain ⟨W1, hW1⟩ : ∃ W1, w.alloc (.cells #[.int .i64 nx, .slice A xs.length c] 26) = W1 := ⟨_, rfl⟩
 have B1 : Below w.heap.size w W1 := by rw [<- hW1]; exact belA (bel0 w) _
 have hV : Blk W1 w.heap.size 26 #[.int .i64 nx, .slice A xs.length c] := by rw [<- hW1]; exact Blk.new' _ _ _ _ rfl
 have HW1 := Lib.hid hW1
 have V0 := Lib.hid (hV.get 0 rfl)
 have V1 := Lib.hid (hV.get 1 rfl)
 clear hW1 hV
 obtain ⟨Q, hQ⟩ : ∃ Q, walkP ⟨nx, xs⟩ (spB s) = Q := ⟨_, rfl⟩
 simp only [hQ] at Hbad Hgood
 rw [hQ]
 clear hQ
 obtain ⟨P, hP⟩ : ∃ P, spB s = P := ⟨_, rfl⟩
 simp only [hP] at Hsp Hwk Hbad Hgood
 clear hP
 obtain ⟨names, ok⟩ := P
 simp only at Hsp Hwk Hbad Hgood
 go_enter Tryz.func12, Tryz.ntmps12
 go_wp2_with fail
 rw [HW1.out]
 refine (Hsp.out W1).mono ?_
 rintro e w2 ⟨hb2, vn, rfl, hown⟩
 have B2 := belN B1 hb2
 obtain ⟨An, cn, rfl, _, _, hR⟩ := own_vals hown
 have HR := Lib.hid hR
 clear hown hR
 rcases ok with _ | _
 ·have Hf := Lib.hid (Hbad.out (.inl rfl))
  go_wp2
  refine bodyPost_ret (v := .tuple #[.int .i64 0, .int .i64 1]) (by simp [results, Tryz.results12, go_sem]) rfl ⟨by rw [Hf.out], B2⟩
 ·have v0 := kp_ hb2 V0.out
  have v1 := kp_ hb2 V1.out
  go_wp2_with fail
  refine (Hok.out w2 (hvv.out.next B2)).mono ?_
  rintro e w3 ⟨rfl, hb3⟩
  have B3 := belN B2 hb3
  have v0' := kp_ hb3 v0
  have v1' := kp_ hb3 v1
  clear v0 v1
  rcases hok : volOkB nx xs with _ | _
  ·have Hf := Lib.hid (Hbad.out (.inr hok))
   go_wp2
   refine bodyPost_ret (v := .tuple #[.int .i64 0, .int .i64 1]) (by simp [results, Tryz.results12, go_sem]) rfl ⟨by rw [Hf.out], B3⟩
  ·have Hf := Lib.hid (Hgood.out (by simp) hok)
   have Hw := Lib.hid (Hwk.out (volOkB_iff.1 hok) An cn)
   clear hok
   go_wp2_with fail
   refine (Hw.out w3 (hvv.out.next B3) ((HR.out.below hb3).more hb3.size)).mono ?_
   rintro e w4 ⟨rfl, hb4⟩
   clear v0' v1'
   go_wp2
   refine bodyPost_ret (v := .tuple #[.int .i64 (wkP xs 1 names).1, .int .i64 (wkP xs 1 names).2]) (by simp [results, Tryz.results12, go_sem]) rfl ⟨by rw [Hf.out], belN B3 hb4⟩

end Go.Proofs.YtjjniapamdleoaaGreatDoor
