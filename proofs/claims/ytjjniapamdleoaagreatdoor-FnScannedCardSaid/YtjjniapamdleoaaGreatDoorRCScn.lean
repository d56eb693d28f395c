/- The program's CurNext. -/
import Derived.Test.YtjjniapamdleoaaGreatDoorRCListS
namespace Go.Proofs.YtjjniapamdleoaaGreatDoor
open Go Go.RowKit
set_option maxHeartbeats 8000000
set_option maxRecDepth 100000

theorem curNext_impl (v : Value) (V : VolD) (sm : szV V <= 1048576) (hv : VolP V.nx V.xs) (a : Int) (k : Nat) (hk : k < V.xs.length) (hpl : plc V.xs a = (k : Int)) (hd : V.xs[k].kd = 2) (x y : Int) (w : World) (hT : Tab w) (hC : IsVolC w v V) :
  Calls Tryz.prog 42 #[v, .agg #[.int .i64 a, .int .i64 x, .int .i64 y]] w fun e w' => e = .returned (.tuple #[.agg #[.int .i64 a, .int .i64 (nxC V.xs[k].es x y).1, .int .i64 (nxC V.xs[k].es x y).2.1], .string (nxC V.xs[k].es x y).2.2.1, .int .i64 (nxC V.xs[k].es x y).2.2.2]) /\ Below w.heap.size w w' := by
 have HT := Lib.hid hT
 clear hT
 have hn := v_len sm
 have Hvo := Lib.hid (fun W hT hW => volOk_impl v V sm W hT hW)
 have hok := volOkB_iff.2 hv
 simp only [hok] at Hvo
 have Hat := Lib.hid (fun W hW => at_impl v V hn a W hW)
 simp only [hpl] at Hat
 have hdk := hv.dirOk (List.getElem_mem hk) hd
 have hm12 := es_len hv (List.getElem_mem hk)
 have Hnm := Lib.hid (v_names sm (List.getElem_mem hk))
 have hvv := Lib.hid hC
 have h := hC.is
 obtain ⟨A, c, rfl, h⟩ := h
 obtain ⟨nx, xs⟩ := V
 simp only at Hvo Hat Hnm hdk hm12 hd hk h hn ⊢
 have H := Lib.hid h
 clear h hC hpl hv sm hok
 obtain ⟨es, hes⟩ : ∃ es, xs[k].es = es := ⟨_, rfl⟩
 have HE := Lib.hid hes
 simp only [hes] at Hnm hdk hm12 ⊢
 obtain ⟨E, fb, hN, hcase⟩ := nx_cases hdk x y
 obtain ⟨m, hm⟩ : ∃ m, es.length = m := ⟨_, rfl⟩
 have HM := Lib.hid hm
 have Hnx := Lib.hid (fun A c W hT hr => next_impl A m c es x y Hnm.out W hT (by omega) hr)
 rw [hm] at hm12
 simp only [hN] at Hnx
 obtain ⟨N, hNx⟩ : ∃ N, nxC es x y = N := ⟨_, rfl⟩
 rw [hNx] at hcase ⊢
 have Hcase := Lib.hid hcase
 clear hcase hNx hN hdk hm
 obtain ⟨n, hn'⟩ : ∃ n, xs.length = n := ⟨_, rfl⟩
 have HL := Lib.hid hn'
 have hkn : k < n := by omega
 simp only [hn'] at Hvo Hat hvv H hn
 clear hn'
 have q0 : (0 : Int) <= ↑k := by omega
 have q1 : (↑k : Int) < ↑n := by omega
 obtain ⟨W1, hW1⟩ : ∃ W1, ((w.alloc (.cells #[.int .i64 nx, .slice A n c] 26)).alloc (.cells #[.int .i64 a, .int .i64 x, .int .i64 y] 61)).alloc (.cells #[.int .i64 0, .int .i64 0, .int .i64 0] 61) = W1 := ⟨_, rfl⟩
 have B1 : Below w.heap.size w W1 := by rw [<- hW1]; exact belA (belA (belA (bel0 w) _) _) _
 have hV : Blk W1 w.heap.size 26 #[.int .i64 nx, .slice A n c] := by rw [<- hW1]; exact ((Blk.new' _ _ _ _ rfl).alloc _).alloc _
 have hK : Blk W1 (w.heap.size + 1) 61 #[.int .i64 a, .int .i64 x, .int .i64 y] := by rw [<- hW1]; exact (Blk.new' _ _ _ _ (by simp)).alloc _
 have hR : Blk W1 (w.heap.size + 2) 61 #[.int .i64 0, .int .i64 0, .int .i64 0] := by rw [<- hW1]; exact Blk.new' _ _ _ _ (by simp)
 have HW1 := Lib.hid hW1
 have VV := Lib.hid hV
 have KK := Lib.hid hK
 have RR := Lib.hid hR
 clear hW1 hV hK hR
 have v0 := VV.out.get (x := .int .i64 nx) 0 rfl
 have v1 := VV.out.get (x := .slice A n c) 1 rfl
 have hlen := HL.out
 simp only [HL.out]
 go_enter Tryz.func42, Tryz.ntmps42
 go_wp2_with fail
 rw [HW1.out]
 refine (Hvo.out W1 (HT.out.bl B1) (hvv.out.next B1)).mono ?_
 rintro e w2 ⟨rfl, hb2⟩
 have B2 := belN B1 hb2
 have VV2 := Lib.hid (VV.out.below hb2 VV.out.lt)
 have KK2 := Lib.hid (KK.out.below hb2 KK.out.lt)
 have RR2 := Lib.hid (RR.out.below hb2 RR.out.lt)
 clear v0 v1 VV KK RR
 have v0 := VV2.out.get (x := .int .i64 nx) 0 rfl
 have v1 := VV2.out.get (x := .slice A n c) 1 rfl
 have k0 := KK2.out.get (x := .int .i64 a) 0 rfl
 go_wp2_with fail
 refine (Hat.out w2 (hvv.out.next B2).is).mono ?_
 rintro e w3 ⟨rfl, hb3⟩
 have B3 := belN B2 hb3
 have VV3 := Lib.hid (VV2.out.below hb3 VV2.out.lt)
 have KK3 := Lib.hid (KK2.out.below hb3 KK2.out.lt)
 have RR3 := Lib.hid (RR2.out.below hb3 RR2.out.lt)
 obtain ⟨_, b, o, A', c', hA, hadb, _, z1, _, _, z4, hrow⟩ := (H.out.next B3).at_ hkn
 subst hA
 rw [hd] at z1
 rw [HE.out, HM.out] at z4
 rw [HE.out, HM.out] at hrow
 have Hrow := Lib.hid hrow
 clear v0 v1 k0 VV2 KK2 RR2 hrow hd
 have v0 := VV3.out.get (x := .int .i64 nx) 0 rfl
 have v1 := VV3.out.get (x := .slice (some ⟨b, o, none⟩) n c) 1 rfl
 have k0 := KK3.out.get (x := .int .i64 a) 0 rfl
 have k1 := KK3.out.get (x := .int .i64 x) 1 rfl
 have k2 := KK3.out.get (x := .int .i64 y) 2 rfl
 obtain ⟨eh, ei, eS, ed⟩ := E
 go_wp2_with fail
 go_cut [8, 9] from 31 (fun p q wx => ∃ g : Nat, p = .pointer (some ⟨g, 0, none⟩) /\ q = .bool fb /\ Hid (Blk wx g 38 #[.int .i64 eh, .int .i64 ei, .string eS, .int .i64 ed]) /\ Below w3.heap.size w3 wx)
 case first =>
  refine wp_region_held_drew (S := fun w' => w'.cell? ⟨w.heap.size, 0, none⟩ = some (.int .i64 nx) /\ w'.cell? ⟨w.heap.size, 1, none⟩ = some (.slice (some ⟨b, o, none⟩) n c) /\ w'.cell? ⟨w.heap.size + 1, 1, none⟩ = some (.int .i64 x) /\ w'.cell? ⟨w.heap.size + 1, 2, none⟩ = some (.int .i64 y) /\ w'.cell? ⟨b, o + k * 5 + 4, none⟩ = some (.slice A' m c')) (by kernel_rfl) (by exact ⟨v0, v1, k1, k2, z4⟩) (fun hHeld => ?_)
  refine foldH ?_
  intro r0 hr0
  have bw0 : Below w3.heap.size w3 r0 := by rw [hr0]; exact (bel0 w3).drew
  clear hr0 hHeld
  refine tkW_ 0 ?_ (hS := by exact ⟨kp_ (bw0) v0, kp_ (bw0) v1, kp_ (bw0) k1, kp_ (bw0) k2, kp_ (bw0) z4⟩)
  refine tkW_ 1 ?_ (hS := by exact ⟨kp_ (bw0) v0, kp_ (bw0) v1, kp_ (bw0) k1, kp_ (bw0) k2, kp_ (bw0) z4⟩)
  refine tkW_ 2 ?_ (hS := by exact ⟨kp_ (bw0) v0, kp_ (bw0) v1, kp_ (bw0) k1, kp_ (bw0) k2, kp_ (bw0) z4⟩)
  refine tkW_ 3 ?_ (hS := by exact ⟨kp_ (bw0) v0, kp_ (bw0) v1, kp_ (bw0) k1, kp_ (bw0) k2, kp_ (bw0) z4⟩)
  refine tkW_ 4 ?_ (hS := by exact ⟨kp_ (bw0) v0, kp_ (bw0) v1, kp_ (bw0) k1, kp_ (bw0) k2, kp_ (bw0) z4⟩)
  refine tkW_ 5 ?_ (hS := by exact ⟨kp_ (bw0) v0, kp_ (bw0) v1, kp_ (bw0) k1, kp_ (bw0) k2, kp_ (bw0) z4⟩)
  refine tkW_ 6 ?_ (hS := by exact ⟨kp_ (bw0) v0, kp_ (bw0) v1, kp_ (bw0) k1, kp_ (bw0) k2, kp_ (bw0) z4⟩)
  refine tkW_ 7 ?_ (hS := by exact ⟨kp_ (bw0) v0, kp_ (bw0) v1, kp_ (bw0) k1, kp_ (bw0) k2, kp_ (bw0) z4⟩)
  refine tkW_ 8 ?_ (hS := by exact ⟨kp_ (bw0) v0, kp_ (bw0) v1, kp_ (bw0) k1, kp_ (bw0) k2, kp_ (bw0) z4⟩)
  refine tkW_ 9 ?_ (hS := by exact ⟨kp_ (bw0) v0, kp_ (bw0) v1, kp_ (bw0) k1, kp_ (bw0) k2, kp_ (bw0) z4⟩)
  refine rd2_ 10 14 (fun K hK => ?br11) (fun K hK => ?br12)
  case br11 =>
   go_simp
   go_at_call 84
   refine (Hnx.out _ _ _ (HT.out.bl (belN B3 bw0)) ((Hrow.out.below bw0).more (bw0).size)).mono ?_
   rintro e r1 ⟨⟨E1, fb1, hE1, rfl⟩, hb1r⟩
   have bw1 : Below w3.heap.size w3 r1 := bw0.trans (hb1r.mono bw0.size)
   refine hK.out _ _ (by exact ⟨kp_ (bw1) v0, kp_ (bw1) v1, kp_ (bw1) k1, kp_ (bw1) k2, kp_ (bw1) z4⟩) (fun _ => ?_)
   clear hK K
   obtain ⟨rfl, rfl⟩ : (⟨eh, ei, eS, ed⟩ : EntD) = E1 /\ fb = fb1 := by injection hE1 with h1 h2; exact ⟨h1, h2⟩
   refine tkW_ 11 ?_ (hS := by exact ⟨kp_ (bw1) v0, kp_ (bw1) v1, kp_ (bw1) k1, kp_ (bw1) k2, kp_ (bw1) z4⟩)
   refine tkW_ 12 ?_ (hS := by exact ⟨kp_ (bw1) v0, kp_ (bw1) v1, kp_ (bw1) k1, kp_ (bw1) k2, kp_ (bw1) z4⟩)
   refine tkW_ 13 ?_ (hS := by exact ⟨kp_ (bw1) v0, kp_ (bw1) v1, kp_ (bw1) k1, kp_ (bw1) k2, kp_ (bw1) z4⟩)
   refine rd1_ 14 (fun K hK => ?br16)
   case br16 =>
    go_simp
    refine hK.out _ _ (by exact ⟨kp_ (belA bw1 _) v0, kp_ (belA bw1 _) v1, kp_ (belA bw1 _) k1, kp_ (belA bw1 _) k2, kp_ (belA bw1 _) z4⟩) (fun _ => ?_)
    clear hK K
    refine foldH ?_
    intro r2 hr2
    have bw2 : Below w3.heap.size w3 r2 := by rw [hr2]; exact belA bw1 _
    have kX2 : Blk r2 r1.heap.size 38 #[.int .i64 0, .int .i64 0, .string ⟨#[]⟩, .int .i64 0] := by rw [hr2]; exact Blk.new' _ _ _ _ rfl
    have laX2 : w3.heap.size <= r1.heap.size := bw1.size
    clear hr2
    refine rd1_ 15 (fun K hK => ?br17)
    case br17 =>
     have x0 := kX2.get (x := .int .i64 0) 0 rfl
     have f0 := kX2.frozen 0
     have x1 := kX2.get (x := .int .i64 0) 1 rfl
     have f1 := kX2.frozen 1
     have x2 := kX2.get (x := .string ⟨#[]⟩) 2 rfl
     have f2 := kX2.frozen 2
     have x3 := kX2.get (x := .int .i64 0) 3 rfl
     have f3 := kX2.frozen 3
     have lE := kX2.lt
     go_simp
     refine hK.out _ _ (by exact ⟨kp_ (belC (belC (belC (belC (bw2) _ _ laX2 _) _ _ laX2 _) _ _ laX2 _) _ _ laX2 _) v0, kp_ (belC (belC (belC (belC (bw2) _ _ laX2 _) _ _ laX2 _) _ _ laX2 _) _ _ laX2 _) v1, kp_ (belC (belC (belC (belC (bw2) _ _ laX2 _) _ _ laX2 _) _ _ laX2 _) _ _ laX2 _) k1, kp_ (belC (belC (belC (belC (bw2) _ _ laX2 _) _ _ laX2 _) _ _ laX2 _) _ _ laX2 _) k2, kp_ (belC (belC (belC (belC (bw2) _ _ laX2 _) _ _ laX2 _) _ _ laX2 _) _ _ laX2 _) z4⟩) (fun _ => ?_)
     clear hK K x0 f0 x1 f1 x2 f2 x3 f3 lE
     refine foldH ?_
     intro r3 hr3
     have bw3 : Below w3.heap.size w3 r3 := by rw [hr3]; exact belC (belC (belC (belC (bw2) _ _ laX2 _) _ _ laX2 _) _ _ laX2 _) _ _ laX2 _
     have kX3 : Blk r3 r1.heap.size 38 #[.int .i64 eh, .int .i64 ei, .string eS, .int .i64 ed] := by rw [hr3]; exact ((((kX2).put 0 _ _ rfl).put 1 _ _ rfl).put 2 _ _ rfl).put 3 _ _ rfl
     clear hr3
     refine tkW_ 16 ?_ (hS := by exact ⟨kp_ (bw3) v0, kp_ (bw3) v1, kp_ (bw3) k1, kp_ (bw3) k2, kp_ (bw3) z4⟩)
     refine wpAnyH_done (by kernel_rfl) ?_ _
     go_wp2_with fail
     go_meet
     case rel => exact ⟨_, rfl, rfl, kX3, bw3⟩
  case br12 =>
   go_simp
   refine hK.out _ _ (by exact ⟨kp_ (belA bw0 _) v0, kp_ (belA bw0 _) v1, kp_ (belA bw0 _) k1, kp_ (belA bw0 _) k2, kp_ (belA bw0 _) z4⟩) (fun _ => ?_)
   clear hK K
   refine foldH ?_
   intro r1 hr1
   have bw1 : Below w3.heap.size w3 r1 := by rw [hr1]; exact belA bw0 _
   have kX1 : Blk r1 r0.heap.size 38 #[.int .i64 0, .int .i64 0, .string ⟨#[]⟩, .int .i64 0] := by rw [hr1]; exact Blk.new' _ _ _ _ rfl
   have laX1 : w3.heap.size <= r0.heap.size := bw0.size
   clear hr1
   refine rd1_ 10 (fun K hK => ?br19)
   case br19 =>
    go_simp
    go_at_call 84
    refine (Hnx.out _ _ _ (HT.out.bl (belN B3 bw1)) ((Hrow.out.below bw1).more (bw1).size)).mono ?_
    rintro e r2 ⟨⟨E2, fb2, hE2, rfl⟩, hb2r⟩
    have bw2 : Below w3.heap.size w3 r2 := bw1.trans (hb2r.mono bw1.size)
    refine hK.out _ _ (by exact ⟨kp_ (bw2) v0, kp_ (bw2) v1, kp_ (bw2) k1, kp_ (bw2) k2, kp_ (bw2) z4⟩) (fun _ => ?_)
    clear hK K
    have kX2 := kX1.below hb2r kX1.lt
    obtain ⟨rfl, rfl⟩ : (⟨eh, ei, eS, ed⟩ : EntD) = E2 /\ fb = fb2 := by injection hE2 with h1 h2; exact ⟨h1, h2⟩
    refine tkW_ 11 ?_ (hS := by exact ⟨kp_ (bw2) v0, kp_ (bw2) v1, kp_ (bw2) k1, kp_ (bw2) k2, kp_ (bw2) z4⟩)
    refine tkW_ 12 ?_ (hS := by exact ⟨kp_ (bw2) v0, kp_ (bw2) v1, kp_ (bw2) k1, kp_ (bw2) k2, kp_ (bw2) z4⟩)
    refine tkW_ 13 ?_ (hS := by exact ⟨kp_ (bw2) v0, kp_ (bw2) v1, kp_ (bw2) k1, kp_ (bw2) k2, kp_ (bw2) z4⟩)
    refine rd1_ 15 (fun K hK => ?br23)
    case br23 =>
     have x0 := kX2.get (x := .int .i64 0) 0 rfl
     have f0 := kX2.frozen 0
     have x1 := kX2.get (x := .int .i64 0) 1 rfl
     have f1 := kX2.frozen 1
     have x2 := kX2.get (x := .string ⟨#[]⟩) 2 rfl
     have f2 := kX2.frozen 2
     have x3 := kX2.get (x := .int .i64 0) 3 rfl
     have f3 := kX2.frozen 3
     have lE := kX2.lt
     go_simp
     refine hK.out _ _ (by exact ⟨kp_ (belC (belC (belC (belC (bw2) _ _ laX1 _) _ _ laX1 _) _ _ laX1 _) _ _ laX1 _) v0, kp_ (belC (belC (belC (belC (bw2) _ _ laX1 _) _ _ laX1 _) _ _ laX1 _) _ _ laX1 _) v1, kp_ (belC (belC (belC (belC (bw2) _ _ laX1 _) _ _ laX1 _) _ _ laX1 _) _ _ laX1 _) k1, kp_ (belC (belC (belC (belC (bw2) _ _ laX1 _) _ _ laX1 _) _ _ laX1 _) _ _ laX1 _) k2, kp_ (belC (belC (belC (belC (bw2) _ _ laX1 _) _ _ laX1 _) _ _ laX1 _) _ _ laX1 _) z4⟩) (fun _ => ?_)
     clear hK K x0 f0 x1 f1 x2 f2 x3 f3 lE
     refine foldH ?_
     intro r3 hr3
     have bw3 : Below w3.heap.size w3 r3 := by rw [hr3]; exact belC (belC (belC (belC (bw2) _ _ laX1 _) _ _ laX1 _) _ _ laX1 _) _ _ laX1 _
     have kX3 : Blk r3 r0.heap.size 38 #[.int .i64 eh, .int .i64 ei, .string eS, .int .i64 ed] := by rw [hr3]; exact ((((kX2).put 0 _ _ rfl).put 1 _ _ rfl).put 2 _ _ rfl).put 3 _ _ rfl
     clear hr3
     refine tkW_ 16 ?_ (hS := by exact ⟨kp_ (bw3) v0, kp_ (bw3) v1, kp_ (bw3) k1, kp_ (bw3) k2, kp_ (bw3) z4⟩)
     refine wpAnyH_done (by kernel_rfl) ?_ _
     go_wp2_with fail
     go_meet
     case rel => exact ⟨_, rfl, rfl, kX3, bw3⟩
 case rest =>
  obtain ⟨g, rfl, rfl, hG, hb4⟩ := hcut
  have B4 := belN B3 hb4
  have KK4 := KK3.out.below hb4 KK3.out.lt
  have RR4 := RR3.out.below hb4 RR3.out.lt
  clear v0 v1 k0 k1 k2 z1 z4
  have k0 := KK4.get (x := .int .i64 a) 0 rfl
  have k1 := KK4.get (x := .int .i64 x) 1 rfl
  have k2 := KK4.get (x := .int .i64 y) 2 rfl
  have r0 := RR4.get (x := .int .i64 0) 0 rfl
  have r1 := RR4.get (x := .int .i64 0) 1 rfl
  have r2 := RR4.get (x := .int .i64 0) 2 rfl
  obtain ⟨f0, f1, f2⟩ := RR4.f3
  have lR := RR4.lt
  have g0 := hG.out.get (x := .int .i64 eh) 0 rfl
  have g1 := hG.out.get (x := .int .i64 ei) 1 rfl
  have g2 := hG.out.get (x := .string eS) 2 rfl
  have nG : g ≠ w.heap.size + 1 + 1 := Blk.ne_ hG.out RR4 (by decide)
  have nG' := nG.symm
  rcases Hcase.out with ⟨rfl, rfl⟩ | ⟨rfl, rfl⟩
  ·go_wp2_with fail
   go_region
   all_goals
    go_wp2
    refine bodyPost_ret (v := .tuple #[.agg #[.int .i64 a, .int .i64 eh, .int .i64 ei], .string eS, .int .i64 0]) (by simp [results, Tryz.results42, go_sem, r0, r1, r2]) rfl ⟨rfl, ?_⟩
    repeat (first | refine belC ?_ _ _ (by omega) _ | exact B4 | apply Below.drew)
  ·go_wp2
   refine bodyPost_ret (v := .tuple #[.agg #[.int .i64 a, .int .i64 x, .int .i64 y], .string ⟨#[]⟩, .int .i64 2]) (by simp [results, Tryz.results42, go_sem, r0, r1, r2]) rfl ⟨rfl, ?_⟩
   repeat (first | refine belC ?_ _ _ (by omega) _ | exact B4 | apply Below.drew)

end Go.Proofs.YtjjniapamdleoaaGreatDoor
