/- l6Do of a file that is made or taken away: what the reference gives, word for word. -/
import Derived.Test.YtjjniapamdleoaaGreatDoorRCSun
import Derived.Test.YtjjniapamdleoaaGreatDoorRCL6D
namespace Go.Proofs.YtjjniapamdleoaaGreatDoor
open Go Go.RowKit
set_option maxHeartbeats 8000000
set_option maxRecDepth 100000

theorem l6Do_q (v : Value) (V : VolD) (K : Int) (hq : QV K V) (h1K : 1 <= K) (hKl : K <= 1000000) (kd : Int) (a : Int) (s : ByteArray) (tg : Int) (nm dt : ByteArray) (hkd : kd = 1 ∨ kd = 3) (Q : Int -> VolD -> Prop) (hQ0 : ∀ r, r ≠ 0 -> Q r V)
  (hQ1 : kd = 1 -> ∀ (k : Nat) (hk : k < V.xs.length), plc V.xs a = (k : Int) -> V.xs[k].kd = 2 -> V.xs[k].es.find? (isN s) = none -> V.xs[k].es.length < 12 -> V.nx < 100000 -> Q 0 ⟨V.nx + 1, ptE (V.xs ++ [(⟨V.nx, 1, 1, ⟨#[]⟩, []⟩ : InoD)]) k (addP V.xs[k].es s V.nx).1⟩)
  (hQ3 : kd = 3 -> ∀ (k : Nat) (hk : k < V.xs.length), plc V.xs a = (k : Int) -> ∀ (i : Nat) (hi : i < V.xs[k].es.length) (j : Nat) (hj : j < V.xs.length), V.xs[k].es.find? (isN s) = some V.xs[k].es[i] -> V.xs[j].id = V.xs[k].es[i].d -> V.xs[j].es = [] -> Q 0 ⟨V.nx, lessV (ptE V.xs k (dropP V.xs[k].es s).1) j V.xs[j].id (V.xs[j].ln - 1)⟩) (w : World) (hC : IsVolC w v V) :
  Calls Tryz.prog 119 #[v, .agg #[.int .i64 kd, .int .i64 a, .string s, .int .i64 tg, .string nm, .string dt]] w fun e w' => CallQ w v V Q e w' /\ Below w.heap.size w w' := by
 have HQ0 := Lib.hid hQ0
 have HQ1 := Lib.hid hQ1
 have HQ3 := Lib.hid hQ3
 have Hkd := Lib.hid hkd
 clear hQ0 hQ1 hQ3 hkd
 have hn := hq.len
 have Hat := Lib.hid (fun b W hW => l6At_any v V (by omega) b W hW)
 have Hdir := Lib.hid (fun b W hW => l6Dir_rd v V (by omega) b W hW)
 have Hq := Lib.hid hq
 have hvv := Lib.hid hC
 obtain ⟨A, c, rfl, _⟩ := hC.is
 obtain ⟨nx, xs⟩ := V
 simp only at Hat Hdir hn HQ0 HQ1 HQ3 ⊢
 clear hC hq
 obtain ⟨w1, hW1⟩ : ∃ W, ((((w.alloc (.cells #[.int .i64 nx, .slice A xs.length c] 26)).alloc (.cells #[.int .i64 kd, .int .i64 a, .string s, .int .i64 tg, .string nm, .string dt] 95)).alloc (.cells #[.int .i64 0, .slice none 0 0] 26)).alloc (.cells #[.int .i64 0, .int .i64 0, .string ⟨#[]⟩, .string ⟨#[]⟩] 54)) = W := ⟨_, rfl⟩
 have B1 : Below w.heap.size w w1 := by rw [<- hW1]; exact belA (belA (belA (belA (bel0 w) _) _) _) _
 have kV1 : Blk w1 w.heap.size 26 #[.int .i64 nx, .slice A xs.length c] := by rw [<- hW1]; exact ((((Blk.new' _ _ _ _ (by simp)).alloc _).alloc _).alloc _)
 have kC1 : Blk w1 (w.heap.size + 1) 95 #[.int .i64 kd, .int .i64 a, .string s, .int .i64 tg, .string nm, .string dt] := by rw [<- hW1]; exact (((Blk.new' _ _ _ _ (by simp)).alloc _).alloc _)
 have kX1 : Blk w1 (w.heap.size + 1 + 1) 26 #[.int .i64 0, .slice none 0 0] := by rw [<- hW1]; exact ((Blk.new' _ _ _ _ (by simp)).alloc _)
 have kR1 : Blk w1 (w.heap.size + 1 + 1 + 1) 54 #[.int .i64 0, .int .i64 0, .string ⟨#[]⟩, .string ⟨#[]⟩] := by rw [<- hW1]; exact (Blk.new' _ _ _ _ (by simp))
 have s1 : w1.heap.size = w.heap.size + 4 := by rw [<- hW1]; simp
 have s1' : w.heap.size + 4 <= w1.heap.size := by omega
 have HW1 := Lib.hid hW1
 clear hW1 s1
 obtain ⟨c_0, c_1, c_2, c_3, c_4, c_5⟩ := kC1.g6
 go_enter Tryz.func119, Tryz.ntmps119
 go_wp2_with fail
 rw [HW1.out]
 clear HW1 c_0 c_1 c_2 c_3 c_4 c_5
 refine (callOk_any kd a s tg nm dt w1).mono ?_
 rintro e w2 ⟨bo, rfl, hok, hb2⟩
 have B2 := belN B1 hb2
 have sz2 := hb2.size
 have kV2 := kV1.below hb2 kV1.lt
 have kC2 := kC1.below hb2 kC1.lt
 have kX2 := kX1.below hb2 kX1.lt
 have kR2 := kR1.below hb2 kR1.lt
 clear kV1 kC1 kX1 kR1
 rcases bo with _ | _
 ·clear hok
  obtain ⟨v_0, v_1⟩ := kV2.g2
  obtain ⟨x_0, x_1⟩ := kX2.g2
  obtain ⟨r_0, r_1, r_2, r_3⟩ := kR2.g4
  obtain ⟨xf0, xf1⟩ := kX2.f2
  have xl := kX2.lt
  obtain ⟨rf0, rf1, rf2, rf3⟩ := kR2.f4
  have rl := kR2.lt
  go_wp2
  refine foldBPL ?_
  intro wf hwf
  obtain ⟨hX, hR, hB⟩ : Blk wf (w.heap.size + 1 + 1) 26 #[.int .i64 nx, .slice A xs.length c] /\ Blk wf (w.heap.size + 1 + 1 + 1) 54 #[.int .i64 1, .int .i64 0, .string ⟨#[]⟩, .string ⟨#[]⟩] /\ Below w.heap.size w wf := by
   rw [hwf]
   first
    | exact two_putL _ _ _ _ _ _ kX2 kR2 (by omega) B2 (by omega) (by omega)
    | exact two_putL _ _ _ _ _ _ kX2.drew kR2.drew (by omega) B2.drew (by omega) (by omega)
  clear hwf x_0 x_1 r_0 r_1 r_2 r_3
  obtain ⟨x_0, x_1⟩ := hX.g2
  obtain ⟨r_0, r_1, r_2, r_3⟩ := hR.g4
  refine bodyPost_ret (v := .tuple #[.agg #[.int .i64 nx, .slice A xs.length c], .agg #[.int .i64 1, .int .i64 0, .string ⟨#[]⟩, .string ⟨#[]⟩]]) (by simp [results, Tryz.results119, go_sem, x_0, x_1, r_0, r_1, r_2, r_3]) rfl ⟨⟨_, _, _, _, _, _, rfl, HQ0.out _ (by decide), .inl ⟨rfl, rfl⟩⟩, hB⟩
 obtain ⟨hk1, hk8, hs, hnz, hdt⟩ := hok rfl
 clear hok
 obtain ⟨v_0, v_1⟩ := kV2.g2
 have c_0 := kC2.get 0 rfl
 go_upto_region 3 with fail
 obtain ⟨tw, htw⟩ : ∃ b : Bool, decide (kd = 5 ∨ kd = 6) = b := ⟨_, rfl⟩
 have Htw := Lib.hid htw
 go_cut [6] from 7 to 19 (fun b wx => b = .bool tw /\ wx = w2)
 case first =>
  by_cases k5 : kd = 5
  ·have hb : tw = true := by rw [<- htw, k5]; rfl
   subst hb
   clear htw
   have t5 : (kd == 5) = true := by rw [k5]; rfl
   clear k5
   go_wp2_with fail
   go_meet
   exact ⟨rfl, rfl⟩
  have t5 : (kd == 5) = false := by simpa using k5
  by_cases k6 : kd = 6
  ·have hb : tw = true := by rw [<- htw, k6]; rfl
   subst hb
   clear htw k5
   have t6 : (kd == 6) = true := by rw [k6]; rfl
   clear k6
   go_wp2_with fail
   go_meet
   exact ⟨rfl, rfl⟩
  have hb : tw = false := by rw [<- htw]; simp [k5, k6]
  subst hb
  clear htw
  have t6 : (kd == 6) = false := by simpa using k6
  clear k5 k6
  go_wp2_with fail
  go_meet
  exact ⟨rfl, rfl⟩
 case rest =>
  obtain ⟨rfl, hww⟩ := hcut
  have hww2 := hww.symm
  clear hww
  subst hww2
  clear htw v_0 v_1 c_0
  cases tw
  ·skip
   skip
   obtain ⟨v_0, v_1⟩ := kV2.g2
   have c_0 := kC2.get 0 rfl
   have c_i := kC2.get 1 rfl
   go_wp2_with fail
   refine (Hat.out a w2 (hvv.out.next B2).is).mono ?_
   rintro e w3 ⟨rfl, hb3⟩
   clear v_0 v_1 c_0 c_i
   have B3 := belN B2 hb3
   have sz3 := hb3.size
   have kV3 := kV2.below hb3 kV2.lt
   have kC3 := kC2.below hb3 kC2.lt
   have kX3 := kX2.below hb3 kX2.lt
   have kR3 := kR2.below hb3 kR2.lt
   clear kV2 kC2 kX2 kR2
   rcases plc_cases xs a with ⟨hp, _⟩ | ⟨k, hk, hp, _⟩
   ·rw [hp]
    clear hp
    obtain ⟨v_0, v_1⟩ := kV3.g2
    obtain ⟨x_0, x_1⟩ := kX3.g2
    obtain ⟨r_0, r_1, r_2, r_3⟩ := kR3.g4
    obtain ⟨xf0, xf1⟩ := kX3.f2
    have xl := kX3.lt
    obtain ⟨rf0, rf1, rf2, rf3⟩ := kR3.f4
    have rl := kR3.lt
    go_wp2
    refine foldBPL ?_
    intro wf hwf
    obtain ⟨hX, hR, hB⟩ : Blk wf (w.heap.size + 1 + 1) 26 #[.int .i64 nx, .slice A xs.length c] /\ Blk wf (w.heap.size + 1 + 1 + 1) 54 #[.int .i64 2, .int .i64 0, .string ⟨#[]⟩, .string ⟨#[]⟩] /\ Below w.heap.size w wf := by
     rw [hwf]
     first
      | exact two_putL _ _ _ _ _ _ kX3 kR3 (by omega) B3 (by omega) (by omega)
      | exact two_putL _ _ _ _ _ _ kX3.drew kR3.drew (by omega) B3.drew (by omega) (by omega)
    clear hwf x_0 x_1 r_0 r_1 r_2 r_3
    obtain ⟨x_0, x_1⟩ := hX.g2
    obtain ⟨r_0, r_1, r_2, r_3⟩ := hR.g4
    refine bodyPost_ret (v := .tuple #[.agg #[.int .i64 nx, .slice A xs.length c], .agg #[.int .i64 2, .int .i64 0, .string ⟨#[]⟩, .string ⟨#[]⟩]]) (by simp [results, Tryz.results119, go_sem, x_0, x_1, r_0, r_1, r_2, r_3]) rfl ⟨⟨_, _, _, _, _, _, rfl, HQ0.out _ (by decide), .inl ⟨rfl, rfl⟩⟩, hB⟩
   have qk : ¬ ((k : Int) < 0) := by omega
   rw [hp]
   have Hp := Lib.hid hp
   clear hp
   obtain ⟨v_0, v_1⟩ := kV3.g2
   have c_0 := kC3.get 0 rfl
   have c_i := kC3.get 1 rfl
   go_wp2_with fail
   refine (Hdir.out a w3 (hvv.out.next B3)).mono ?_
   rintro e w4 ⟨rfl, hb4⟩
   clear v_0 v_1 c_0 c_i
   have B4 := belN B3 hb4
   have sz4 := hb4.size
   have kV4 := kV3.below hb4 kV3.lt
   have kC4 := kC3.below hb4 kC3.lt
   have kX4 := kX3.below hb4 kX3.lt
   have kR4 := kR3.below hb4 kR3.lt
   clear kV3 kC3 kX3 kR3
   have hb0 := bg_atD hk Hp.out
   by_cases hdk : xs[k].kd = 2
   rotate_left
   ·have hbg : (bgPD xs a == 0) = false := by rw [hb0, if_neg hdk]; rfl
    rw [hbg]
    clear hbg hb0 hdk
    obtain ⟨v_0, v_1⟩ := kV4.g2
    obtain ⟨x_0, x_1⟩ := kX4.g2
    obtain ⟨r_0, r_1, r_2, r_3⟩ := kR4.g4
    obtain ⟨xf0, xf1⟩ := kX4.f2
    have xl := kX4.lt
    obtain ⟨rf0, rf1, rf2, rf3⟩ := kR4.f4
    have rl := kR4.lt
    go_wp2
    refine foldBPL ?_
    intro wf hwf
    obtain ⟨hX, hR, hB⟩ : Blk wf (w.heap.size + 1 + 1) 26 #[.int .i64 nx, .slice A xs.length c] /\ Blk wf (w.heap.size + 1 + 1 + 1) 54 #[.int .i64 4, .int .i64 0, .string ⟨#[]⟩, .string ⟨#[]⟩] /\ Below w.heap.size w wf := by
     rw [hwf]
     first
      | exact two_putL _ _ _ _ _ _ kX4 kR4 (by omega) B4 (by omega) (by omega)
      | exact two_putL _ _ _ _ _ _ kX4.drew kR4.drew (by omega) B4.drew (by omega) (by omega)
    clear hwf x_0 x_1 r_0 r_1 r_2 r_3
    obtain ⟨x_0, x_1⟩ := hX.g2
    obtain ⟨r_0, r_1, r_2, r_3⟩ := hR.g4
    refine bodyPost_ret (v := .tuple #[.agg #[.int .i64 nx, .slice A xs.length c], .agg #[.int .i64 4, .int .i64 0, .string ⟨#[]⟩, .string ⟨#[]⟩]]) (by simp [results, Tryz.results119, go_sem, x_0, x_1, r_0, r_1, r_2, r_3]) rfl ⟨⟨_, _, _, _, _, _, rfl, HQ0.out _ (by decide), .inl ⟨rfl, rfl⟩⟩, hB⟩
   have hbg : (bgPD xs a == 0) = true := by rw [hb0, if_pos hdk]; rfl
   rw [hbg]
   have Hdk := Lib.hid hdk
   clear hbg hb0 hdk
   obtain ⟨v_0, v_1⟩ := kV4.g2
   have c_0 := kC4.get 0 rfl
   have c_i := kC4.get 2 rfl
   go_wp2_with fail
   refine (nameOk_spec s (by omega) w4).mono ?_
   rintro e w5 ⟨rfl, hb5⟩
   clear v_0 v_1 c_0 c_i
   have B5 := belN B4 hb5
   have sz5 := hb5.size
   have kV5 := kV4.below hb5 kV4.lt
   have kC5 := kC4.below hb5 kC4.lt
   have kX5 := kX4.below hb5 kX4.lt
   have kR5 := kR4.below hb5 kR4.lt
   clear kV4 kC4 kX4 kR4
   rcases nameOkB s with _ | _
   ·skip
    obtain ⟨v_0, v_1⟩ := kV5.g2
    obtain ⟨x_0, x_1⟩ := kX5.g2
    obtain ⟨r_0, r_1, r_2, r_3⟩ := kR5.g4
    obtain ⟨xf0, xf1⟩ := kX5.f2
    have xl := kX5.lt
    obtain ⟨rf0, rf1, rf2, rf3⟩ := kR5.f4
    have rl := kR5.lt
    go_wp2
    refine foldBPL ?_
    intro wf hwf
    obtain ⟨hX, hR, hB⟩ : Blk wf (w.heap.size + 1 + 1) 26 #[.int .i64 nx, .slice A xs.length c] /\ Blk wf (w.heap.size + 1 + 1 + 1) 54 #[.int .i64 1, .int .i64 0, .string ⟨#[]⟩, .string ⟨#[]⟩] /\ Below w.heap.size w wf := by
     rw [hwf]
     first
      | exact two_putL _ _ _ _ _ _ kX5 kR5 (by omega) B5 (by omega) (by omega)
      | exact two_putL _ _ _ _ _ _ kX5.drew kR5.drew (by omega) B5.drew (by omega) (by omega)
    clear hwf x_0 x_1 r_0 r_1 r_2 r_3
    obtain ⟨x_0, x_1⟩ := hX.g2
    obtain ⟨r_0, r_1, r_2, r_3⟩ := hR.g4
    refine bodyPost_ret (v := .tuple #[.agg #[.int .i64 nx, .slice A xs.length c], .agg #[.int .i64 1, .int .i64 0, .string ⟨#[]⟩, .string ⟨#[]⟩]]) (by simp [results, Tryz.results119, go_sem, x_0, x_1, r_0, r_1, r_2, r_3]) rfl ⟨⟨_, _, _, _, _, _, rfl, HQ0.out _ (by decide), .inl ⟨rfl, rfl⟩⟩, hB⟩
   by_cases k12 : kd = 1 ∨ kd = 2
   ·have Hk12 := Lib.hid k12
    go_upto_region 10 with fail
    have hm : ∀ kd' : Int, True := fun _ => trivial
    clear hm
    rcases k12 with rfl | rfl
    ·skip
     obtain ⟨v_0, v_1⟩ := kV5.g2
     obtain ⟨c_0, c_1, c_2, c_3, c_4, c_5⟩ := kC5.g6
     go_wp2_with fail
     clear v_0 v_1 c_0 c_1 c_2 c_3 c_4 c_5
     refine (l6Make_q (.agg #[.int .i64 nx, .slice A xs.length c]) ⟨nx, xs⟩ K Hq.out h1K 1 a s tg nm dt rfl hs k hk Hp.out Hdk.out Q HQ0.out (fun hf => HQ1.out (by first | rfl | trivial) k hk Hp.out Hdk.out hf) w5 (hvv.out.next B5)).mono ?_
     rintro e wz ⟨⟨v', V', r0, r1, r2, r3, rfl, hq', hd'⟩, hbz⟩
     have Bz := belN B5 hbz
     have szz : w.heap.size + 4 <= w5.heap.size := by have := kR5.lt; omega
     have kXz := kX5.below hbz kX5.lt
     have kRz := kR5.below hbz kR5.lt
     rcases hd' with ⟨rfl, rfl⟩ | ⟨g', c', us', rfl, hY'⟩
     ·skip
      obtain ⟨x_0, x_1⟩ := kXz.g2
      obtain ⟨xf0, xf1⟩ := kXz.f2
      obtain ⟨r_0, r_1, r_2, r_3⟩ := kRz.g4
      obtain ⟨rf0, rf1, rf2, rf3⟩ := kRz.f4
      have xl := kXz.lt
      have rl := kRz.lt
      go_wp2
      refine foldBPL ?_
      intro wf hwf
      obtain ⟨hX, hR, hB⟩ : Blk wf (w.heap.size + 1 + 1) 26 #[.int .i64 nx, .slice A xs.length c] /\ Blk wf (w.heap.size + 1 + 1 + 1) 54 #[.int .i64 r0, .int .i64 r1, .string r2, .string r3] /\ Below w.heap.size w wf := by
       rw [hwf]
       first
        | exact two_putL _ _ _ _ _ _ kXz kRz (by omega) Bz (by omega) (by omega)
        | exact two_putL _ _ _ _ _ _ kXz.drew kRz.drew (by omega) Bz.drew (by omega) (by omega)
      clear hwf x_0 x_1 r_0 r_1 r_2 r_3
      obtain ⟨x_0, x_1⟩ := hX.g2
      obtain ⟨r_0, r_1, r_2, r_3⟩ := hR.g4
      refine bodyPost_ret (v := .tuple #[.agg #[.int .i64 nx, .slice A xs.length c], .agg #[.int .i64 r0, .int .i64 r1, .string r2, .string r3]]) (by simp [results, Tryz.results119, go_sem, x_0, x_1, r_0, r_1, r_2, r_3]) rfl ⟨⟨_, _, _, _, _, _, rfl, hq', .inl ⟨rfl, rfl⟩⟩, hB⟩
     ·skip
      obtain ⟨nx', xs'⟩ := V'
      simp only at hq' hY' ⊢
      obtain ⟨x_0, x_1⟩ := kXz.g2
      obtain ⟨xf0, xf1⟩ := kXz.f2
      obtain ⟨r_0, r_1, r_2, r_3⟩ := kRz.g4
      obtain ⟨rf0, rf1, rf2, rf3⟩ := kRz.f4
      have xl := kXz.lt
      have rl := kRz.lt
      go_wp2
      refine foldBPL ?_
      intro wf hwf
      have YF : YR wf w5.heap.size g' c' xs' us' := by
       rw [hwf]
       exact ((hY'.farV kXz 0 _).farV (kXz.put 0 (.int .i64 nx') #[.int .i64 nx', .slice none 0 0] rfl) 1 _).far4 ((kRz.far (p := ⟨w.heap.size + 1 + 1, 0, none⟩) (show w.heap.size + 1 + 1 + 1 ≠ w.heap.size + 1 + 1 by omega) _).far (p := ⟨w.heap.size + 1 + 1, 1, none⟩) (show w.heap.size + 1 + 1 + 1 ≠ w.heap.size + 1 + 1 by omega) _) _ _ _ _
      obtain ⟨hX, hR, hB⟩ : Blk wf (w.heap.size + 1 + 1) 26 #[.int .i64 nx', .slice (some ⟨g', 0, none⟩) xs'.length c'] /\ Blk wf (w.heap.size + 1 + 1 + 1) 54 #[.int .i64 r0, .int .i64 r1, .string r2, .string r3] /\ Below w.heap.size w wf := by
       rw [hwf]
       first
        | exact two_putL _ _ _ _ _ _ kXz kRz (by omega) Bz (by omega) (by omega)
        | exact two_putL _ _ _ _ _ _ kXz.drew kRz.drew (by omega) Bz.drew (by omega) (by omega)
      clear hwf x_0 x_1 r_0 r_1 r_2 r_3
      obtain ⟨x_0, x_1⟩ := hX.g2
      obtain ⟨r_0, r_1, r_2, r_3⟩ := hR.g4
      refine bodyPost_ret (v := .tuple #[.agg #[.int .i64 nx', .slice (some ⟨g', 0, none⟩) xs'.length c'], .agg #[.int .i64 r0, .int .i64 r1, .string r2, .string r3]]) (by simp [results, Tryz.results119, go_sem, x_0, x_1, r_0, r_1, r_2, r_3]) rfl ⟨⟨_, ⟨nx', xs'⟩, _, _, _, _, rfl, hq', .inr ⟨g', c', us', rfl, YF.more (by omega)⟩⟩, hB⟩
    ·skip
     exfalso
     have := Hkd.out
     omega
   have h3 := Lib.hid (show kd = 3 by have := Hkd.out; omega)
   have hkk : 3 <= kd := by omega
   have t1 : (kd == 1) = false := beq_eq_false_iff_ne.2 (show kd ≠ 1 by omega)
   have t2 : (kd == 2) = false := beq_eq_false_iff_ne.2 (show kd ≠ 2 by omega)
   clear k12
   obtain ⟨v_0, v_1⟩ := kV5.g2
   obtain ⟨c_0, c_1, c_2, c_3, c_4, c_5⟩ := kC5.g6
   go_wp2_with fail
   clear v_0 v_1 c_0 c_1 c_2 c_3 c_4 c_5
   refine (l6Unl_q (.agg #[.int .i64 nx, .slice A xs.length c]) ⟨nx, xs⟩ K Hq.out a s tg nm dt hs hKl kd h3.out k hk Hp.out Q HQ0.out (fun i hi j hj hf hx he => HQ3.out h3.out k hk Hp.out i hi j hj hf hx he) w5 (hvv.out.next B5)).mono ?_
   rintro e wz ⟨⟨v', V', r0, r1, r2, r3, rfl, hq', hd'⟩, hbz⟩
   have Bz := belN B5 hbz
   have szz : w.heap.size + 4 <= w5.heap.size := by have := kR5.lt; omega
   have kXz := kX5.below hbz kX5.lt
   have kRz := kR5.below hbz kR5.lt
   rcases hd' with ⟨rfl, rfl⟩ | ⟨g', c', us', rfl, hY'⟩
   ·skip
    obtain ⟨x_0, x_1⟩ := kXz.g2
    obtain ⟨xf0, xf1⟩ := kXz.f2
    obtain ⟨r_0, r_1, r_2, r_3⟩ := kRz.g4
    obtain ⟨rf0, rf1, rf2, rf3⟩ := kRz.f4
    have xl := kXz.lt
    have rl := kRz.lt
    go_wp2
    refine foldBPL ?_
    intro wf hwf
    obtain ⟨hX, hR, hB⟩ : Blk wf (w.heap.size + 1 + 1) 26 #[.int .i64 nx, .slice A xs.length c] /\ Blk wf (w.heap.size + 1 + 1 + 1) 54 #[.int .i64 r0, .int .i64 r1, .string r2, .string r3] /\ Below w.heap.size w wf := by
     rw [hwf]
     first
      | exact two_putL _ _ _ _ _ _ kXz kRz (by omega) Bz (by omega) (by omega)
      | exact two_putL _ _ _ _ _ _ kXz.drew kRz.drew (by omega) Bz.drew (by omega) (by omega)
    clear hwf x_0 x_1 r_0 r_1 r_2 r_3
    obtain ⟨x_0, x_1⟩ := hX.g2
    obtain ⟨r_0, r_1, r_2, r_3⟩ := hR.g4
    refine bodyPost_ret (v := .tuple #[.agg #[.int .i64 nx, .slice A xs.length c], .agg #[.int .i64 r0, .int .i64 r1, .string r2, .string r3]]) (by simp [results, Tryz.results119, go_sem, x_0, x_1, r_0, r_1, r_2, r_3]) rfl ⟨⟨_, _, _, _, _, _, rfl, hq', .inl ⟨rfl, rfl⟩⟩, hB⟩
   ·skip
    obtain ⟨nx', xs'⟩ := V'
    simp only at hq' hY' ⊢
    obtain ⟨x_0, x_1⟩ := kXz.g2
    obtain ⟨xf0, xf1⟩ := kXz.f2
    obtain ⟨r_0, r_1, r_2, r_3⟩ := kRz.g4
    obtain ⟨rf0, rf1, rf2, rf3⟩ := kRz.f4
    have xl := kXz.lt
    have rl := kRz.lt
    go_wp2
    refine foldBPL ?_
    intro wf hwf
    have YF : YR wf w5.heap.size g' c' xs' us' := by
     rw [hwf]
     exact ((hY'.farV kXz 0 _).farV (kXz.put 0 (.int .i64 nx') #[.int .i64 nx', .slice none 0 0] rfl) 1 _).far4 ((kRz.far (p := ⟨w.heap.size + 1 + 1, 0, none⟩) (show w.heap.size + 1 + 1 + 1 ≠ w.heap.size + 1 + 1 by omega) _).far (p := ⟨w.heap.size + 1 + 1, 1, none⟩) (show w.heap.size + 1 + 1 + 1 ≠ w.heap.size + 1 + 1 by omega) _) _ _ _ _
    obtain ⟨hX, hR, hB⟩ : Blk wf (w.heap.size + 1 + 1) 26 #[.int .i64 nx', .slice (some ⟨g', 0, none⟩) xs'.length c'] /\ Blk wf (w.heap.size + 1 + 1 + 1) 54 #[.int .i64 r0, .int .i64 r1, .string r2, .string r3] /\ Below w.heap.size w wf := by
     rw [hwf]
     first
      | exact two_putL _ _ _ _ _ _ kXz kRz (by omega) Bz (by omega) (by omega)
      | exact two_putL _ _ _ _ _ _ kXz.drew kRz.drew (by omega) Bz.drew (by omega) (by omega)
    clear hwf x_0 x_1 r_0 r_1 r_2 r_3
    obtain ⟨x_0, x_1⟩ := hX.g2
    obtain ⟨r_0, r_1, r_2, r_3⟩ := hR.g4
    refine bodyPost_ret (v := .tuple #[.agg #[.int .i64 nx', .slice (some ⟨g', 0, none⟩) xs'.length c'], .agg #[.int .i64 r0, .int .i64 r1, .string r2, .string r3]]) (by simp [results, Tryz.results119, go_sem, x_0, x_1, r_0, r_1, r_2, r_3]) rfl ⟨⟨_, ⟨nx', xs'⟩, _, _, _, _, rfl, hq', .inr ⟨g', c', us', rfl, YF.more (by omega)⟩⟩, hB⟩
  ·exfalso
   have h1 := of_decide_eq_true Htw.out
   have h2 := Hkd.out
   omega

end Go.Proofs.YtjjniapamdleoaaGreatDoor
