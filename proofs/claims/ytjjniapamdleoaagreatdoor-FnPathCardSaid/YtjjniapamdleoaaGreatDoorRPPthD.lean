/- A volume and a path are drawn from bytes. -/
import Derived.Test.YtjjniapamdleoaaGreatDoorRPL20P
namespace Go.Proofs.YtjjniapamdleoaaGreatDoor
open Go Go.RowKit
set_option maxHeartbeats 8000000
set_option maxRecDepth 100000

theorem drawPathOf_any (A : Option Addr) (n cp : Nat) (bs : List UInt8) (hn : n <= 9223372036854775000) (w : World) (hr : Reads w w.heap.size 1 A n (B8 bs)) :
  Calls Tryz.prog 20 #[.slice A n cp] w fun e w' => ∃ (v : Value) (V : VolD) (s : Int), e = .returned (.tuple #[v, .int .i64 s]) /\ SmV V /\ 0 < V.xs.length /\ (0 <= s /\ s < 14) /\ YV w' w.heap.size v V /\ Below w.heap.size w w' := by
 obtain ⟨w1, hW1⟩ : ∃ W, w.alloc (.cells #[.int .i64 0, .slice none 0 0] 26) = W := ⟨_, rfl⟩
 have a1 : Below w.heap.size w w1 := by rw [<- hW1]; exact belA (bel0 w) _
 have kR1 : Blk w1 w.heap.size 26 #[.int .i64 0, .slice none 0 0] := by rw [<- hW1]; exact Blk.new' _ _ _ _ rfl
 have s1 : w.heap.size + 1 <= w1.heap.size := by rw [<- hW1]; simp
 have hr1 := (hr.below a1).more a1.size
 have HW1 := Lib.hid hW1
 have Ho := Lib.hid (fun g m hm W hW => l1Below_any g A n cp bs (by omega) m hm W hW)
 clear hW1 hr
 go_enter Tryz.func20, Tryz.ntmps20
 go_wp2_with fail
 rw [HW1.out]
 clear HW1
 refine (l1New_any A n cp bs (by omega) w1 hr1).mono ?_
 rintro e w2 ⟨g, rfl, hg, C2, hb2⟩
 clear hr1
 have B2 := belN a1 hb2
 have kR2 := kR1.below hb2 kR1.lt
 clear hb2 a1 kR1
 go_wp2_with fail
 refine (l1Size_any A n cp hn 30 w2).mono ?_
 rintro e w3 ⟨m, rfl, hm, rfl⟩
 go_wp2_with fail
 refine (l6Any_any g A n cp bs (by omega) m (by omega) w2 C2).mono ?_
 rintro e w4 ⟨v, V, rfl, sm, hpos, ⟨gy, c, us, rfl, y4⟩, C4, g4⟩
 obtain ⟨nx, xs⟩ := V
 have hg2 := C2.lt
 simp only at y4 ⊢
 have hpos' : 0 < xs.length := hpos
 have Sm := Lib.hid sm
 have B4 := belG B2 g4 (by omega)
 have kR4 := blk_gV kR2 g4 (by omega)
 have gs4 := g4.size
 have s2 : w.heap.size + 1 <= w2.heap.size := by have := kR2.lt; omega
 clear B2 kR2 g4 C2 sm hpos
 obtain ⟨pv, hpv⟩ : ∃ q, w4.heap.size = q := ⟨_, rfl⟩
 obtain ⟨w5, hw5⟩ : ∃ W, w4.alloc (.cells #[.int .i64 nx, .slice (some ⟨gy, 0, none⟩) xs.length c] 26) = W := ⟨_, rfl⟩
 have b5 : Below w4.heap.size w4 w5 := by rw [<- hw5]; exact belA (bel0 w4) _
 have kP5 : Blk w5 pv 26 #[.int .i64 nx, .slice (some ⟨gy, 0, none⟩) xs.length c] := by rw [<- hw5, <- hpv]; exact Blk.new' _ _ _ _ rfl
 have kR5 := kR4.below b5 kR4.lt
 have C5 := C4.below b5
 have B5 := belN B4 b5
 have y5 := y4.below b5
 have hgy := y4.hi
 have hpw : w.heap.size + 1 <= pv /\ w2.heap.size <= pv := by omega
 have Hw5 := Lib.hid hw5
 have Hpv := Lib.hid hpv
 clear hw5 hpv b5 kR4 C4 B4 y4
 go_upto_region 3 with fail
 try rw [Hpv.out]
 rw [Hw5.out]
 clear Hw5 Hpv
 refine wp_region_held_drew (S := fun w' => w'.cell? ⟨pv, 0, none⟩ = some (.int .i64 nx) /\ w'.cell? ⟨pv, 1, none⟩ = some (.slice (some ⟨gy, 0, none⟩) xs.length c)) (by kernel_rfl) (by exact ⟨kP5.get 0 rfl, kP5.get 1 rfl⟩) (fun hHeld => ?_)
 clear hHeld
 refine foldH ?_
 intro r hr0
 have bw : w5.grownBy r (some g) := by rw [hr0]; exact gb_below (grown_refl _ _) (bel0 w5).drew
 have kP : Blk r pv 26 #[.int .i64 nx, .slice (some ⟨gy, 0, none⟩) xs.length c] := by rw [hr0]; exact kP5.drew
 have kR : Blk r w.heap.size 26 #[.int .i64 0, .slice none 0 0] := by rw [hr0]; exact kR5.drew
 have pC : Curs r g A n cp bs := by rw [hr0]; exact (C5.below (bel0 w5).drew)
 have pY : YR r w2.heap.size gy c xs us := by rw [hr0]; exact (y5.below (bel0 w5).drew)
 clear hr0
 apply mem4_iw (P := fun s q => w5.grownBy q (some g) /\ Blk q pv 26 #[.int .i64 nx, .slice (some ⟨gy, 0, none⟩) xs.length c] /\ Blk q w.heap.size 26 #[.int .i64 0, .slice none 0 0] /\ Curs q g A n cp bs /\ YR q w2.heap.size gy c xs us /\ (0 <= s /\ s < 14))
 case use =>
  intro key_ld_2
  refine tkW_ 0 ?_ (hS := by exact ⟨kP.get 0 rfl, kP.get 1 rfl⟩)
  refine tkW_ 1 ?_ (hS := by exact ⟨kP.get 0 rfl, kP.get 1 rfl⟩)
  refine rd1_ 2 (fun K hK => ?br40003)
  case br40003 =>
   go_simp
   go_at_call 60
   refine (Ho.out g 14 (by omega) _ pC).mono ?_
   rintro e q ⟨s, rfl, _, hs, hC, hg⟩
   have bw2 := bw.trans hg
   have kP2 := blk_gV kP hg (by omega)
   have kR2 := blk_gV kR hg (by omega)
   have pY2 : YR q w2.heap.size gy c xs us := (YR.grownC pY hg (by omega))
   have pC2 := hC
   have hs2 : (0 <= s /\ s < 14) := hs (by omega)
   refine hK.out _ _ (by exact ⟨kP2.get 0 rfl, kP2.get 1 rfl⟩) (fun _ => ?_)
   clear hK K
   try simp only [Act.put, pT_, pZ_, pS_]
   exact key_ld_2 s q ⟨bw2, kP2, kR2, pC2, pY2, hs2⟩
 case key =>
  rintro s r ⟨bw, kP, kR, pC, pY, hs2⟩
  try dsimp only
  refine rd1_ 3 (fun K hK => ?br40004)
  case br40004 =>
   have kR9 := (kR.put 0 (.int .i64 nx) #[.int .i64 nx, .slice none 0 0] rfl).put 1 (.slice (some ⟨gy, 0, none⟩) xs.length c) #[.int .i64 nx, .slice (some ⟨gy, 0, none⟩) xs.length c] rfl
   have kP9 := (kP.far (p := ⟨w.heap.size, 0, none⟩) (show pv ≠ w.heap.size by omega) (.int .i64 nx)).far (p := ⟨w.heap.size, 1, none⟩) (show pv ≠ w.heap.size by omega) (.slice (some ⟨gy, 0, none⟩) xs.length c)
   have y9 := (pY.farV kR 0 (.int .i64 nx)).farV (kR.put 0 (.int .i64 nx) #[.int .i64 nx, .slice none 0 0] rfl) 1 (.slice (some ⟨gy, 0, none⟩) xs.length c)
   have B9 := belC (belC (belG B5 bw (by omega)) w.heap.size 0 (Nat.le_refl _) (.int .i64 nx)) w.heap.size 1 (Nat.le_refl _) (.slice (some ⟨gy, 0, none⟩) xs.length c)
   obtain ⟨w9, hw9⟩ : ∃ W, (r.setCell ⟨w.heap.size, 0, none⟩ (.int .i64 nx)).setCell ⟨w.heap.size, 1, none⟩ (.slice (some ⟨gy, 0, none⟩) xs.length c) = W := ⟨_, rfl⟩
   rw [hw9] at kR9 kP9 y9 B9
   obtain ⟨x_0, x_1⟩ := kR.g2
   obtain ⟨xf0, xf1⟩ := kR.f2
   have xl := kR.lt
   go_simp
   refine hK.out _ _ (by exact ⟨kP9.get 0 rfl, kP9.get 1 rfl⟩) (fun _ => ?_)
   clear hK K
   try simp only [Act.put, pT_, pZ_, pS_]
   try rw [hw9]
   refine tkW_ 4 ?_ (hS := by exact ⟨kP9.get 0 rfl, kP9.get 1 rfl⟩)
   refine wpAnyH_done (by kernel_rfl) ?_ _
   clear hw9 x_0 x_1 xf0 xf1 xl kR kP pY pC bw
   obtain ⟨r_0, r_1⟩ := kR9.g2
   go_wp2
   refine bodyPost_ret (v := .tuple #[.agg #[.int .i64 nx, .slice (some ⟨gy, 0, none⟩) xs.length c], .int .i64 s]) (by simp [results, Tryz.results20, go_sem, r_0, r_1]) rfl ⟨_, ⟨nx, xs⟩, s, rfl, Sm.out, hpos', hs2, ⟨gy, c, us, rfl, y9.more (by omega)⟩, B9⟩

end Go.Proofs.YtjjniapamdleoaaGreatDoor
