/- l6Do: a call on a volume that calls have made. -/
import Derived.Test.YtjjniapamdleoaaGreatDoorRSL6N
namespace Go.Proofs.YtjjniapamdleoaaGreatDoor
open Go Go.RowKit
set_option maxHeartbeats 8000000
set_option maxRecDepth 100000

theorem CallP.mono {w0 : World} {v : Value} {V : VolD} {K K' : Int} {e : Ending} {w' : World} (h : CallP w0 v V K e w') (hK : K <= K') : CallP w0 v V K' e w' := by
 obtain ⟨v', V', r, h1, h2, h3, h4⟩ := h
 exact ⟨v', V', r, h1, h2, h3.mono hK, h4⟩
theorem l6Make_up (v : Value) (V : VolD) (K : Int) (hq : QV K V) (hK : 1 <= K) (kd a : Int) (s : ByteArray) (tg : Int) (nm dt : ByteArray) (hkd : kd = 1 ∨ kd = 2) (hs : s.size <= 24) (k : Nat) (hk : k < V.xs.length) (hp : plc V.xs a = (k : Int)) (hd : V.xs[k].kd = 2) (w : World) (hC : IsVolC w v V) :
  Calls Tryz.prog 168 #[v, .agg #[.int .i64 kd, .int .i64 a, .string s, .int .i64 tg, .string nm, .string dt]] w fun e w' => CallP w v V (K + 1) e w' /\ Below w.heap.size w w' := by
 refine (l6Make_any v V K hq hK kd a s tg nm dt hkd hs k hk hp hd w hC).mono ?_
 rintro e w' ⟨h1, h2⟩
 exact ⟨h1.mono (by omega), h2⟩
def bgPD (xs : List InoD) (a : Int) : Int := if plc xs a < 0 then 2 else match xs[(plc xs a).toNat]? with | none => 2 | some x => if x.kd = 2 then 0 else 4
theorem bg_noneD {xs : List InoD} {a : Int} (h : plc xs a = -1) : bgPD xs a = 2 := by unfold bgPD; rw [if_pos (by omega)]
theorem bg_atD {xs : List InoD} {a : Int} {k : Nat} (hk : k < xs.length) (h : plc xs a = (k : Int)) : bgPD xs a = if xs[k].kd = 2 then 0 else 4 := by
 unfold bgPD; rw [if_neg (by omega), h, Int.toNat_natCast, List.getElem?_eq_getElem hk]

theorem l6Dir_rd (v : Value) (V : VolD) (hn : V.xs.length <= 10000000) (a : Int) (w : World) (hC : IsVolC w v V) :
  Calls Tryz.prog 167 #[v, .int .i64 a] w fun e w' => e = .returned (.bool (bgPD V.xs a == 0)) /\ Below w.heap.size w w' := by
 have Hat := Lib.hid (fun W hW => l6At_any v V hn a W hW)
 have hv := Lib.hid hC
 have h := hC.is
 obtain ⟨A, c, rfl, h⟩ := h
 obtain ⟨nx, xs⟩ := V
 simp only at Hat h hn ⊢
 have H := Lib.hid h
 clear h hC
 obtain ⟨n, hn'⟩ : ∃ n, xs.length = n := ⟨_, rfl⟩
 have HL := Lib.hid hn'
 simp only [hn'] at Hat hv H hn ⊢
 clear hn'
 obtain ⟨W1, hW1⟩ : ∃ W1, w.alloc (.cells #[.int .i64 nx, .slice A n c] 26) = W1 := ⟨_, rfl⟩
 have B1 : Below w.heap.size w W1 := by rw [<- hW1]; exact belA (bel0 w) _
 have hV : Blk W1 w.heap.size 26 #[.int .i64 nx, .slice A n c] := by rw [<- hW1]; exact Blk.new' _ _ _ _ rfl
 have HW1 := Lib.hid hW1
 have V1 := Lib.hid (hV.get 1 rfl)
 clear hW1 hV
 rcases plc_cases xs a with ⟨hp, _⟩ | ⟨k, hkx, hp, _⟩
 ·have Hb := Lib.hid (show (bgPD xs a == 0) = false by rw [bg_noneD hp]; rfl)
  simp only [hp] at Hat
  clear hp
  go_enter Tryz.func167, Tryz.ntmps167
  go_wp2_with fail
  rw [HW1.out]
  refine (Hat.out W1 (hv.out.next B1).is).mono ?_
  rintro e w2 ⟨rfl, hb2⟩
  go_wp2
  go_ret
  exact ⟨ret_bool Hb.out.symm, belN B1 hb2⟩
 ·have Hb := Lib.hid (bg_atD hkx hp)
  have hkn : k < n := by have := HL.out; omega
  simp only [hp] at Hat
  clear hp
  have q0 : (0 : Int) <= ↑k := by omega
  have q1 : (↑k : Int) < ↑n := by omega
  obtain ⟨y, hy⟩ : ∃ y, xs[k].kd = y := ⟨_, rfl⟩
  have Hb2 := Lib.hid (show (bgPD xs a == 0) = (y == 2) by
   rw [Hb.out, hy]; by_cases h : y = 2
   ·subst h; rfl
   ·rw [if_neg h, Bool.eq_iff_iff]; simp [h])
  go_enter Tryz.func167, Tryz.ntmps167
  go_wp2_with fail
  rw [HW1.out]
  refine (Hat.out W1 (hv.out.next B1).is).mono ?_
  rintro e w2 ⟨rfl, hb2⟩
  have v1 := kp_ hb2 V1.out
  obtain ⟨_, b, o, A', c', rfl, hadb, z0, z1, z2, z3, z4, hrow⟩ := (H.out.next (belN B1 hb2)).at_ hkn
  rw [hy] at z1
  clear z0 z2 z3 z4 hrow hy
  go_wp2
  go_ret
  exact ⟨ret_bool Hb2.out.symm, belN B1 hb2⟩

theorem callOk_any (kd a : Int) (s : ByteArray) (tg : Int) (nm dt : ByteArray) (w : World) :
  Calls Tryz.prog 166 #[.agg #[.int .i64 kd, .int .i64 a, .string s, .int .i64 tg, .string nm, .string dt]] w fun e w' => ∃ b, e = .returned (.bool b) /\ (b = true -> 1 <= kd /\ kd <= 8 /\ s.size <= 24 /\ nm.size <= 24 /\ dt.size <= 20) /\ Below w.heap.size w w' := by
 obtain ⟨W1, hW1⟩ : ∃ W1, w.alloc (.cells #[.int .i64 kd, .int .i64 a, .string s, .int .i64 tg, .string nm, .string dt] 95) = W1 := ⟨_, rfl⟩
 have B1 : Below w.heap.size w W1 := by rw [<- hW1]; exact belA (bel0 w) _
 have kC : Blk W1 w.heap.size 95 #[.int .i64 kd, .int .i64 a, .string s, .int .i64 tg, .string nm, .string dt] := by rw [<- hW1]; exact Blk.new' _ _ _ _ rfl
 obtain ⟨c_0, c_1, c_2, c_3, c_4, c_5⟩ := kC.g6
 have HW1 := Lib.hid hW1
 clear hW1 kC
 go_enter Tryz.func166, Tryz.ntmps166
 go_wp2_with fail
 rw [HW1.out]
 clear HW1
 refine (l1In_any kd 1 8 _).mono ?_
 rintro e w2 ⟨rfl, hw⟩
 subst hw
 rcases h1 : inI kd 1 8 with _ | _
 ·clear h1
  go_wp2
  go_ret
  exact ⟨_, rfl, (fun h => by cases h), B1⟩
 have Hk := Lib.hid (inI_true.1 h1)
 clear h1
 go_wp2_with fail
 refine (l1In_any a 0 100000 _).mono ?_
 rintro e w2 ⟨rfl, hw⟩
 subst hw
 rcases h2 : inI a 0 100000 with _ | _
 ·clear h2
  go_wp2
  go_ret
  exact ⟨_, rfl, (fun h => by cases h), B1⟩
 clear h2
 go_wp2_with fail
 refine (l1In_any tg 0 100000 _).mono ?_
 rintro e w2 ⟨rfl, hw⟩
 subst hw
 rcases h3 : inI tg 0 100000 with _ | _
 ·clear h3
  go_wp2
  go_ret
  exact ⟨_, rfl, (fun h => by cases h), B1⟩
 clear h3
 by_cases g1 : (24 : Int) < ((s.size : Nat) : Int)
 ·skip
  go_wp2
  go_ret
  exact ⟨_, rfl, (fun h => by cases h), B1⟩
 by_cases g2 : (24 : Int) < ((nm.size : Nat) : Int)
 ·skip
  go_wp2
  go_ret
  exact ⟨_, rfl, (fun h => by cases h), B1⟩
 by_cases g3 : (20 : Int) < ((dt.size : Nat) : Int)
 ·skip
  go_wp2
  go_ret
  exact ⟨_, rfl, (fun h => by cases h), B1⟩
 by_cases k5 : kd = 5
 ·subst k5
  go_wp2
  go_ret
  exact ⟨_, rfl, fun _ => ⟨by have := Hk.out; omega, by have := Hk.out; omega, by omega, by omega, by omega⟩, B1⟩
 by_cases k6 : kd = 6
 ·subst k6
  go_wp2
  go_ret
  exact ⟨_, rfl, fun _ => ⟨by have := Hk.out; omega, by have := Hk.out; omega, by omega, by omega, by omega⟩, B1⟩
 have t5 : (kd == 5) = false := by simpa using k5
 have t6 : (kd == 6) = false := by simpa using k6
 clear k5 k6
 rcases t0 : (tg == 0) with _ | _
 ·skip
  go_wp2
  go_ret
  exact ⟨_, rfl, fun _ => ⟨by have := Hk.out; omega, by have := Hk.out; omega, by omega, by omega, by omega⟩, B1⟩
 rcases tn : nm.toList.isEmpty with _ | _
 ·skip
  go_wp2
  go_ret
  exact ⟨_, rfl, fun _ => ⟨by have := Hk.out; omega, by have := Hk.out; omega, by omega, by omega, by omega⟩, B1⟩
 rcases t7 : (kd == 7) with _ | _
 ·skip
  go_wp2
  go_ret
  exact ⟨_, rfl, fun _ => ⟨by have := Hk.out; omega, by have := Hk.out; omega, by omega, by omega, by omega⟩, B1⟩
 ·skip
  go_wp2
  go_ret
  exact ⟨_, rfl, fun _ => ⟨by have := Hk.out; omega, by have := Hk.out; omega, by omega, by omega, by omega⟩, B1⟩

theorem l6Do_any (v : Value) (V : VolD) (K : Int) (hq : QV K V) (h1K : 1 <= K) (hKl : K <= 1000000) (kd : Int) (a : Int) (s : ByteArray) (tg : Int) (nm dt : ByteArray) (w : World) (hC : IsVolC w v V) :
  Calls Tryz.prog 119 #[v, .agg #[.int .i64 kd, .int .i64 a, .string s, .int .i64 tg, .string nm, .string dt]] w fun e w' => CallP w v V (K + 1) e w' /\ Below w.heap.size w w' := by
 have hn := hq.len
 have Hat := Lib.hid (fun b W hW => l6At_any v V (by omega) b W hW)
 have Hdir := Lib.hid (fun b W hW => l6Dir_rd v V (by omega) b W hW)
 have Hq := Lib.hid hq
 have Hqm := Lib.hid (hq.mono (show K <= K + 1 by omega))
 have hvv := Lib.hid hC
 obtain ⟨A, c, rfl, _⟩ := hC.is
 obtain ⟨nx, xs⟩ := V
 simp only at Hat Hdir hn ⊢
 clear hC hq
 obtain ⟨w1, hW1⟩ : ∃ W, ((((w.alloc (.cells #[.int .i64 nx, .slice A xs.length c] 26)).alloc (.cells #[.int .i64 kd, .int .i64 a, .string s, .int .i64 tg, .string nm, .string dt] 95)).alloc (.cells #[.int .i64 0, .slice none 0 0] 26)).alloc (.cells #[.int .i64 0, .int .i64 0, .string ⟨#[]⟩, .string ⟨#[]⟩] 54)) = W := ⟨_, rfl⟩
 have B1 : Below w.heap.size w w1 := by rw [<- hW1]; exact belA (belA (belA (belA (bel0 w) _) _) _) _
 have kV1 : Blk w1 w.heap.size 26 #[.int .i64 nx, .slice A xs.length c] := by rw [<- hW1]; exact ((((Blk.new' _ _ _ _ (by simp)).alloc _).alloc _).alloc _)
 have kC1 : Blk w1 (w.heap.size + 1) 95 #[.int .i64 kd, .int .i64 a, .string s, .int .i64 tg, .string nm, .string dt] := by rw [<- hW1]; exact (((Blk.new' _ _ _ _ (by simp)).alloc _).alloc _)
 have kX1 : Blk w1 (w.heap.size + 1 + 1) 26 #[.int .i64 0, .slice none 0 0] := by rw [<- hW1]; exact ((Blk.new' _ _ _ _ (by simp)).alloc _)
 have kR1 : Blk w1 (w.heap.size + 1 + 1 + 1) 54 #[.int .i64 0, .int .i64 0, .string ⟨#[]⟩, .string ⟨#[]⟩] := by rw [<- hW1]; exact (Blk.new' _ _ _ _ (by simp))
 have s1 : w1.heap.size = w.heap.size + 4 := by rw [<- hW1]; simp
 have s1' : w.heap.size + 4 <= w1.heap.size := by omega
 have HW1 := Lib.hid hW1
 clear hW1 s1
 obtain ⟨c_0, c_1, c_2, c_3, c_4, c_5⟩ := kC1.g6
 go_enter Tryz.func119, Tryz.ntmps119
 go_wp2_with fail
 rw [HW1.out]
 clear HW1 c_0 c_1 c_2 c_3 c_4 c_5
 refine (callOk_any kd a s tg nm dt w1).mono ?_
 rintro e w2 ⟨bo, rfl, hok, hb2⟩
 have B2 := belN B1 hb2
 have sz2 := hb2.size
 have kV2 := kV1.below hb2 kV1.lt
 have kC2 := kC1.below hb2 kC1.lt
 have kX2 := kX1.below hb2 kX1.lt
 have kR2 := kR1.below hb2 kR1.lt
 clear kV1 kC1 kX1 kR1
 rcases bo with _ | _
 ·clear hok
  obtain ⟨v_0, v_1⟩ := kV2.g2
  obtain ⟨x_0, x_1⟩ := kX2.g2
  obtain ⟨r_0, r_1, r_2, r_3⟩ := kR2.g4
  obtain ⟨xf0, xf1⟩ := kX2.f2
  have xl := kX2.lt
  obtain ⟨rf0, rf1, rf2, rf3⟩ := kR2.f4
  have rl := kR2.lt
  go_wp2
  refine foldBPL ?_
  intro wf hwf
  obtain ⟨hX, hR, hB⟩ : Blk wf (w.heap.size + 1 + 1) 26 #[.int .i64 nx, .slice A xs.length c] /\ Blk wf (w.heap.size + 1 + 1 + 1) 54 #[.int .i64 1, .int .i64 0, .string ⟨#[]⟩, .string ⟨#[]⟩] /\ Below w.heap.size w wf := by
   rw [hwf]
   first
    | exact two_putL _ _ _ _ _ _ kX2 kR2 (by omega) B2 (by omega) (by omega)
    | exact two_putL _ _ _ _ _ _ kX2.drew kR2.drew (by omega) B2.drew (by omega) (by omega)
  clear hwf x_0 x_1 r_0 r_1 r_2 r_3
  obtain ⟨x_0, x_1⟩ := hX.g2
  obtain ⟨r_0, r_1, r_2, r_3⟩ := hR.g4
  refine bodyPost_ret (v := .tuple #[.agg #[.int .i64 nx, .slice A xs.length c], .agg #[.int .i64 1, .int .i64 0, .string ⟨#[]⟩, .string ⟨#[]⟩]]) (by simp [results, Tryz.results119, go_sem, x_0, x_1, r_0, r_1, r_2, r_3]) rfl ⟨⟨_, _, _, rfl, ⟨_, _, _, _, rfl⟩, Hqm.out, .inl ⟨rfl, rfl⟩⟩, hB⟩
 obtain ⟨hk1, hk8, hs, hnz, hdt⟩ := hok rfl
 clear hok
 obtain ⟨v_0, v_1⟩ := kV2.g2
 have c_0 := kC2.get 0 rfl
 go_upto_region 3 with fail
 obtain ⟨tw, htw⟩ : ∃ b : Bool, decide (kd = 5 ∨ kd = 6) = b := ⟨_, rfl⟩
 have Htw := Lib.hid htw
 go_cut [6] from 7 to 19 (fun b wx => b = .bool tw /\ wx = w2)
 case first =>
  by_cases k5 : kd = 5
  ·have hb : tw = true := by rw [<- htw, k5]; rfl
   subst hb
   clear htw
   have t5 : (kd == 5) = true := by rw [k5]; rfl
   clear k5
   go_wp2_with fail
   go_meet
   exact ⟨rfl, rfl⟩
  have t5 : (kd == 5) = false := by simpa using k5
  by_cases k6 : kd = 6
  ·have hb : tw = true := by rw [<- htw, k6]; rfl
   subst hb
   clear htw k5
   have t6 : (kd == 6) = true := by rw [k6]; rfl
   clear k6
   go_wp2_with fail
   go_meet
   exact ⟨rfl, rfl⟩
  have hb : tw = false := by rw [<- htw]; simp [k5, k6]
  subst hb
  clear htw
  have t6 : (kd == 6) = false := by simpa using k6
  clear k5 k6
  go_wp2_with fail
  go_meet
  exact ⟨rfl, rfl⟩
 case rest =>
  obtain ⟨rfl, hww⟩ := hcut
  have hww2 := hww.symm
  clear hww
  subst hww2
  clear htw v_0 v_1 c_0
  cases tw
  ·skip
   skip
   obtain ⟨v_0, v_1⟩ := kV2.g2
   have c_0 := kC2.get 0 rfl
   have c_i := kC2.get 1 rfl
   go_wp2_with fail
   refine (Hat.out a w2 (hvv.out.next B2).is).mono ?_
   rintro e w3 ⟨rfl, hb3⟩
   clear v_0 v_1 c_0 c_i
   have B3 := belN B2 hb3
   have sz3 := hb3.size
   have kV3 := kV2.below hb3 kV2.lt
   have kC3 := kC2.below hb3 kC2.lt
   have kX3 := kX2.below hb3 kX2.lt
   have kR3 := kR2.below hb3 kR2.lt
   clear kV2 kC2 kX2 kR2
   rcases plc_cases xs a with ⟨hp, _⟩ | ⟨k, hk, hp, _⟩
   ·rw [hp]
    clear hp
    obtain ⟨v_0, v_1⟩ := kV3.g2
    obtain ⟨x_0, x_1⟩ := kX3.g2
    obtain ⟨r_0, r_1, r_2, r_3⟩ := kR3.g4
    obtain ⟨xf0, xf1⟩ := kX3.f2
    have xl := kX3.lt
    obtain ⟨rf0, rf1, rf2, rf3⟩ := kR3.f4
    have rl := kR3.lt
    go_wp2
    refine foldBPL ?_
    intro wf hwf
    obtain ⟨hX, hR, hB⟩ : Blk wf (w.heap.size + 1 + 1) 26 #[.int .i64 nx, .slice A xs.length c] /\ Blk wf (w.heap.size + 1 + 1 + 1) 54 #[.int .i64 2, .int .i64 0, .string ⟨#[]⟩, .string ⟨#[]⟩] /\ Below w.heap.size w wf := by
     rw [hwf]
     first
      | exact two_putL _ _ _ _ _ _ kX3 kR3 (by omega) B3 (by omega) (by omega)
      | exact two_putL _ _ _ _ _ _ kX3.drew kR3.drew (by omega) B3.drew (by omega) (by omega)
    clear hwf x_0 x_1 r_0 r_1 r_2 r_3
    obtain ⟨x_0, x_1⟩ := hX.g2
    obtain ⟨r_0, r_1, r_2, r_3⟩ := hR.g4
    refine bodyPost_ret (v := .tuple #[.agg #[.int .i64 nx, .slice A xs.length c], .agg #[.int .i64 2, .int .i64 0, .string ⟨#[]⟩, .string ⟨#[]⟩]]) (by simp [results, Tryz.results119, go_sem, x_0, x_1, r_0, r_1, r_2, r_3]) rfl ⟨⟨_, _, _, rfl, ⟨_, _, _, _, rfl⟩, Hqm.out, .inl ⟨rfl, rfl⟩⟩, hB⟩
   have qk : ¬ ((k : Int) < 0) := by omega
   rw [hp]
   have Hp := Lib.hid hp
   clear hp
   obtain ⟨v_0, v_1⟩ := kV3.g2
   have c_0 := kC3.get 0 rfl
   have c_i := kC3.get 1 rfl
   go_wp2_with fail
   refine (Hdir.out a w3 (hvv.out.next B3)).mono ?_
   rintro e w4 ⟨rfl, hb4⟩
   clear v_0 v_1 c_0 c_i
   have B4 := belN B3 hb4
   have sz4 := hb4.size
   have kV4 := kV3.below hb4 kV3.lt
   have kC4 := kC3.below hb4 kC3.lt
   have kX4 := kX3.below hb4 kX3.lt
   have kR4 := kR3.below hb4 kR3.lt
   clear kV3 kC3 kX3 kR3
   have hb0 := bg_atD hk Hp.out
   by_cases hdk : xs[k].kd = 2
   rotate_left
   ·have hbg : (bgPD xs a == 0) = false := by rw [hb0, if_neg hdk]; rfl
    rw [hbg]
    clear hbg hb0 hdk
    obtain ⟨v_0, v_1⟩ := kV4.g2
    obtain ⟨x_0, x_1⟩ := kX4.g2
    obtain ⟨r_0, r_1, r_2, r_3⟩ := kR4.g4
    obtain ⟨xf0, xf1⟩ := kX4.f2
    have xl := kX4.lt
    obtain ⟨rf0, rf1, rf2, rf3⟩ := kR4.f4
    have rl := kR4.lt
    go_wp2
    refine foldBPL ?_
    intro wf hwf
    obtain ⟨hX, hR, hB⟩ : Blk wf (w.heap.size + 1 + 1) 26 #[.int .i64 nx, .slice A xs.length c] /\ Blk wf (w.heap.size + 1 + 1 + 1) 54 #[.int .i64 4, .int .i64 0, .string ⟨#[]⟩, .string ⟨#[]⟩] /\ Below w.heap.size w wf := by
     rw [hwf]
     first
      | exact two_putL _ _ _ _ _ _ kX4 kR4 (by omega) B4 (by omega) (by omega)
      | exact two_putL _ _ _ _ _ _ kX4.drew kR4.drew (by omega) B4.drew (by omega) (by omega)
    clear hwf x_0 x_1 r_0 r_1 r_2 r_3
    obtain ⟨x_0, x_1⟩ := hX.g2
    obtain ⟨r_0, r_1, r_2, r_3⟩ := hR.g4
    refine bodyPost_ret (v := .tuple #[.agg #[.int .i64 nx, .slice A xs.length c], .agg #[.int .i64 4, .int .i64 0, .string ⟨#[]⟩, .string ⟨#[]⟩]]) (by simp [results, Tryz.results119, go_sem, x_0, x_1, r_0, r_1, r_2, r_3]) rfl ⟨⟨_, _, _, rfl, ⟨_, _, _, _, rfl⟩, Hqm.out, .inl ⟨rfl, rfl⟩⟩, hB⟩
   have hbg : (bgPD xs a == 0) = true := by rw [hb0, if_pos hdk]; rfl
   rw [hbg]
   have Hdk := Lib.hid hdk
   clear hbg hb0 hdk
   obtain ⟨v_0, v_1⟩ := kV4.g2
   have c_0 := kC4.get 0 rfl
   have c_i := kC4.get 2 rfl
   go_wp2_with fail
   refine (nameOk_spec s (by omega) w4).mono ?_
   rintro e w5 ⟨rfl, hb5⟩
   clear v_0 v_1 c_0 c_i
   have B5 := belN B4 hb5
   have sz5 := hb5.size
   have kV5 := kV4.below hb5 kV4.lt
   have kC5 := kC4.below hb5 kC4.lt
   have kX5 := kX4.below hb5 kX4.lt
   have kR5 := kR4.below hb5 kR4.lt
   clear kV4 kC4 kX4 kR4
   rcases nameOkB s with _ | _
   ·skip
    obtain ⟨v_0, v_1⟩ := kV5.g2
    obtain ⟨x_0, x_1⟩ := kX5.g2
    obtain ⟨r_0, r_1, r_2, r_3⟩ := kR5.g4
    obtain ⟨xf0, xf1⟩ := kX5.f2
    have xl := kX5.lt
    obtain ⟨rf0, rf1, rf2, rf3⟩ := kR5.f4
    have rl := kR5.lt
    go_wp2
    refine foldBPL ?_
    intro wf hwf
    obtain ⟨hX, hR, hB⟩ : Blk wf (w.heap.size + 1 + 1) 26 #[.int .i64 nx, .slice A xs.length c] /\ Blk wf (w.heap.size + 1 + 1 + 1) 54 #[.int .i64 1, .int .i64 0, .string ⟨#[]⟩, .string ⟨#[]⟩] /\ Below w.heap.size w wf := by
     rw [hwf]
     first
      | exact two_putL _ _ _ _ _ _ kX5 kR5 (by omega) B5 (by omega) (by omega)
      | exact two_putL _ _ _ _ _ _ kX5.drew kR5.drew (by omega) B5.drew (by omega) (by omega)
    clear hwf x_0 x_1 r_0 r_1 r_2 r_3
    obtain ⟨x_0, x_1⟩ := hX.g2
    obtain ⟨r_0, r_1, r_2, r_3⟩ := hR.g4
    refine bodyPost_ret (v := .tuple #[.agg #[.int .i64 nx, .slice A xs.length c], .agg #[.int .i64 1, .int .i64 0, .string ⟨#[]⟩, .string ⟨#[]⟩]]) (by simp [results, Tryz.results119, go_sem, x_0, x_1, r_0, r_1, r_2, r_3]) rfl ⟨⟨_, _, _, rfl, ⟨_, _, _, _, rfl⟩, Hqm.out, .inl ⟨rfl, rfl⟩⟩, hB⟩
   by_cases k12 : kd = 1 ∨ kd = 2
   ·have Hk12 := Lib.hid k12
    go_upto_region 10 with fail
    have hm : ∀ kd' : Int, True := fun _ => trivial
    clear hm
    rcases k12 with rfl | rfl
    ·skip
     obtain ⟨v_0, v_1⟩ := kV5.g2
     obtain ⟨c_0, c_1, c_2, c_3, c_4, c_5⟩ := kC5.g6
     go_wp2_with fail
     clear v_0 v_1 c_0 c_1 c_2 c_3 c_4 c_5
     refine (l6Make_up (.agg #[.int .i64 nx, .slice A xs.length c]) ⟨nx, xs⟩ K Hq.out h1K 1 a s tg nm dt (.inl rfl) hs k hk Hp.out Hdk.out w5 (hvv.out.next B5)).mono ?_
     rintro e wz ⟨⟨v', V', r, rfl, ⟨r0, r1, r2, r3, rfl⟩, hq', hd'⟩, hbz⟩
     have Bz := belN B5 hbz
     have szz : w.heap.size + 4 <= w5.heap.size := by have := kR5.lt; omega
     have kXz := kX5.below hbz kX5.lt
     have kRz := kR5.below hbz kR5.lt
     rcases hd' with ⟨rfl, rfl⟩ | ⟨g', c', us', rfl, hY'⟩
     ·skip
      obtain ⟨x_0, x_1⟩ := kXz.g2
      obtain ⟨xf0, xf1⟩ := kXz.f2
      obtain ⟨r_0, r_1, r_2, r_3⟩ := kRz.g4
      obtain ⟨rf0, rf1, rf2, rf3⟩ := kRz.f4
      have xl := kXz.lt
      have rl := kRz.lt
      go_wp2
      refine foldBPL ?_
      intro wf hwf
      obtain ⟨hX, hR, hB⟩ : Blk wf (w.heap.size + 1 + 1) 26 #[.int .i64 nx, .slice A xs.length c] /\ Blk wf (w.heap.size + 1 + 1 + 1) 54 #[.int .i64 r0, .int .i64 r1, .string r2, .string r3] /\ Below w.heap.size w wf := by
       rw [hwf]
       first
        | exact two_putL _ _ _ _ _ _ kXz kRz (by omega) Bz (by omega) (by omega)
        | exact two_putL _ _ _ _ _ _ kXz.drew kRz.drew (by omega) Bz.drew (by omega) (by omega)
      clear hwf x_0 x_1 r_0 r_1 r_2 r_3
      obtain ⟨x_0, x_1⟩ := hX.g2
      obtain ⟨r_0, r_1, r_2, r_3⟩ := hR.g4
      refine bodyPost_ret (v := .tuple #[.agg #[.int .i64 nx, .slice A xs.length c], .agg #[.int .i64 r0, .int .i64 r1, .string r2, .string r3]]) (by simp [results, Tryz.results119, go_sem, x_0, x_1, r_0, r_1, r_2, r_3]) rfl ⟨⟨_, _, _, rfl, ⟨_, _, _, _, rfl⟩, hq', .inl ⟨rfl, rfl⟩⟩, hB⟩
     ·skip
      obtain ⟨nx', xs'⟩ := V'
      simp only at hq' hY' ⊢
      obtain ⟨x_0, x_1⟩ := kXz.g2
      obtain ⟨xf0, xf1⟩ := kXz.f2
      obtain ⟨r_0, r_1, r_2, r_3⟩ := kRz.g4
      obtain ⟨rf0, rf1, rf2, rf3⟩ := kRz.f4
      have xl := kXz.lt
      have rl := kRz.lt
      go_wp2
      refine foldBPL ?_
      intro wf hwf
      have YF : YR wf w5.heap.size g' c' xs' us' := by
       rw [hwf]
       exact ((hY'.farV kXz 0 _).farV (kXz.put 0 (.int .i64 nx') #[.int .i64 nx', .slice none 0 0] rfl) 1 _).far4 ((kRz.far (p := ⟨w.heap.size + 1 + 1, 0, none⟩) (show w.heap.size + 1 + 1 + 1 ≠ w.heap.size + 1 + 1 by omega) _).far (p := ⟨w.heap.size + 1 + 1, 1, none⟩) (show w.heap.size + 1 + 1 + 1 ≠ w.heap.size + 1 + 1 by omega) _) _ _ _ _
      obtain ⟨hX, hR, hB⟩ : Blk wf (w.heap.size + 1 + 1) 26 #[.int .i64 nx', .slice (some ⟨g', 0, none⟩) xs'.length c'] /\ Blk wf (w.heap.size + 1 + 1 + 1) 54 #[.int .i64 r0, .int .i64 r1, .string r2, .string r3] /\ Below w.heap.size w wf := by
       rw [hwf]
       first
        | exact two_putL _ _ _ _ _ _ kXz kRz (by omega) Bz (by omega) (by omega)
        | exact two_putL _ _ _ _ _ _ kXz.drew kRz.drew (by omega) Bz.drew (by omega) (by omega)
      clear hwf x_0 x_1 r_0 r_1 r_2 r_3
      obtain ⟨x_0, x_1⟩ := hX.g2
      obtain ⟨r_0, r_1, r_2, r_3⟩ := hR.g4
      refine bodyPost_ret (v := .tuple #[.agg #[.int .i64 nx', .slice (some ⟨g', 0, none⟩) xs'.length c'], .agg #[.int .i64 r0, .int .i64 r1, .string r2, .string r3]]) (by simp [results, Tryz.results119, go_sem, x_0, x_1, r_0, r_1, r_2, r_3]) rfl ⟨⟨_, ⟨nx', xs'⟩, _, rfl, ⟨_, _, _, _, rfl⟩, hq', .inr ⟨g', c', us', rfl, YF.more (by omega)⟩⟩, hB⟩
    ·skip
     obtain ⟨v_0, v_1⟩ := kV5.g2
     obtain ⟨c_0, c_1, c_2, c_3, c_4, c_5⟩ := kC5.g6
     go_wp2_with fail
     clear v_0 v_1 c_0 c_1 c_2 c_3 c_4 c_5
     refine (l6Make_up (.agg #[.int .i64 nx, .slice A xs.length c]) ⟨nx, xs⟩ K Hq.out h1K 2 a s tg nm dt (.inr rfl) hs k hk Hp.out Hdk.out w5 (hvv.out.next B5)).mono ?_
     rintro e wz ⟨⟨v', V', r, rfl, ⟨r0, r1, r2, r3, rfl⟩, hq', hd'⟩, hbz⟩
     have Bz := belN B5 hbz
     have szz : w.heap.size + 4 <= w5.heap.size := by have := kR5.lt; omega
     have kXz := kX5.below hbz kX5.lt
     have kRz := kR5.below hbz kR5.lt
     rcases hd' with ⟨rfl, rfl⟩ | ⟨g', c', us', rfl, hY'⟩
     ·skip
      obtain ⟨x_0, x_1⟩ := kXz.g2
      obtain ⟨xf0, xf1⟩ := kXz.f2
      obtain ⟨r_0, r_1, r_2, r_3⟩ := kRz.g4
      obtain ⟨rf0, rf1, rf2, rf3⟩ := kRz.f4
      have xl := kXz.lt
      have rl := kRz.lt
      go_wp2
      refine foldBPL ?_
      intro wf hwf
      obtain ⟨hX, hR, hB⟩ : Blk wf (w.heap.size + 1 + 1) 26 #[.int .i64 nx, .slice A xs.length c] /\ Blk wf (w.heap.size + 1 + 1 + 1) 54 #[.int .i64 r0, .int .i64 r1, .string r2, .string r3] /\ Below w.heap.size w wf := by
       rw [hwf]
       first
        | exact two_putL _ _ _ _ _ _ kXz kRz (by omega) Bz (by omega) (by omega)
        | exact two_putL _ _ _ _ _ _ kXz.drew kRz.drew (by omega) Bz.drew (by omega) (by omega)
      clear hwf x_0 x_1 r_0 r_1 r_2 r_3
      obtain ⟨x_0, x_1⟩ := hX.g2
      obtain ⟨r_0, r_1, r_2, r_3⟩ := hR.g4
      refine bodyPost_ret (v := .tuple #[.agg #[.int .i64 nx, .slice A xs.length c], .agg #[.int .i64 r0, .int .i64 r1, .string r2, .string r3]]) (by simp [results, Tryz.results119, go_sem, x_0, x_1, r_0, r_1, r_2, r_3]) rfl ⟨⟨_, _, _, rfl, ⟨_, _, _, _, rfl⟩, hq', .inl ⟨rfl, rfl⟩⟩, hB⟩
     ·skip
      obtain ⟨nx', xs'⟩ := V'
      simp only at hq' hY' ⊢
      obtain ⟨x_0, x_1⟩ := kXz.g2
      obtain ⟨xf0, xf1⟩ := kXz.f2
      obtain ⟨r_0, r_1, r_2, r_3⟩ := kRz.g4
      obtain ⟨rf0, rf1, rf2, rf3⟩ := kRz.f4
      have xl := kXz.lt
      have rl := kRz.lt
      go_wp2
      refine foldBPL ?_
      intro wf hwf
      have YF : YR wf w5.heap.size g' c' xs' us' := by
       rw [hwf]
       exact ((hY'.farV kXz 0 _).farV (kXz.put 0 (.int .i64 nx') #[.int .i64 nx', .slice none 0 0] rfl) 1 _).far4 ((kRz.far (p := ⟨w.heap.size + 1 + 1, 0, none⟩) (show w.heap.size + 1 + 1 + 1 ≠ w.heap.size + 1 + 1 by omega) _).far (p := ⟨w.heap.size + 1 + 1, 1, none⟩) (show w.heap.size + 1 + 1 + 1 ≠ w.heap.size + 1 + 1 by omega) _) _ _ _ _
      obtain ⟨hX, hR, hB⟩ : Blk wf (w.heap.size + 1 + 1) 26 #[.int .i64 nx', .slice (some ⟨g', 0, none⟩) xs'.length c'] /\ Blk wf (w.heap.size + 1 + 1 + 1) 54 #[.int .i64 r0, .int .i64 r1, .string r2, .string r3] /\ Below w.heap.size w wf := by
       rw [hwf]
       first
        | exact two_putL _ _ _ _ _ _ kXz kRz (by omega) Bz (by omega) (by omega)
        | exact two_putL _ _ _ _ _ _ kXz.drew kRz.drew (by omega) Bz.drew (by omega) (by omega)
      clear hwf x_0 x_1 r_0 r_1 r_2 r_3
      obtain ⟨x_0, x_1⟩ := hX.g2
      obtain ⟨r_0, r_1, r_2, r_3⟩ := hR.g4
      refine bodyPost_ret (v := .tuple #[.agg #[.int .i64 nx', .slice (some ⟨g', 0, none⟩) xs'.length c'], .agg #[.int .i64 r0, .int .i64 r1, .string r2, .string r3]]) (by simp [results, Tryz.results119, go_sem, x_0, x_1, r_0, r_1, r_2, r_3]) rfl ⟨⟨_, ⟨nx', xs'⟩, _, rfl, ⟨_, _, _, _, rfl⟩, hq', .inr ⟨g', c', us', rfl, YF.more (by omega)⟩⟩, hB⟩
   have hkk : 3 <= kd := by omega
   have t1 : (kd == 1) = false := beq_eq_false_iff_ne.2 (show kd ≠ 1 by omega)
   have t2 : (kd == 2) = false := beq_eq_false_iff_ne.2 (show kd ≠ 2 by omega)
   clear k12
   obtain ⟨v_0, v_1⟩ := kV5.g2
   obtain ⟨c_0, c_1, c_2, c_3, c_4, c_5⟩ := kC5.g6
   go_wp2_with fail
   clear v_0 v_1 c_0 c_1 c_2 c_3 c_4 c_5
   refine (l6On_all (.agg #[.int .i64 nx, .slice A xs.length c]) ⟨nx, xs⟩ K Hq.out a s tg nm dt hs hKl kd (by omega) hdt (fun h => absurd (of_decide_eq_false Htw.out) (fun h2 => h2 h)) k hk Hp.out w5 (hvv.out.next B5)).mono ?_
   rintro e wz ⟨⟨v', V', r, rfl, ⟨r0, r1, r2, r3, rfl⟩, hq', hd'⟩, hbz⟩
   have Bz := belN B5 hbz
   have szz : w.heap.size + 4 <= w5.heap.size := by have := kR5.lt; omega
   have kXz := kX5.below hbz kX5.lt
   have kRz := kR5.below hbz kR5.lt
   rcases hd' with ⟨rfl, rfl⟩ | ⟨g', c', us', rfl, hY'⟩
   ·skip
    obtain ⟨x_0, x_1⟩ := kXz.g2
    obtain ⟨xf0, xf1⟩ := kXz.f2
    obtain ⟨r_0, r_1, r_2, r_3⟩ := kRz.g4
    obtain ⟨rf0, rf1, rf2, rf3⟩ := kRz.f4
    have xl := kXz.lt
    have rl := kRz.lt
    go_wp2
    refine foldBPL ?_
    intro wf hwf
    obtain ⟨hX, hR, hB⟩ : Blk wf (w.heap.size + 1 + 1) 26 #[.int .i64 nx, .slice A xs.length c] /\ Blk wf (w.heap.size + 1 + 1 + 1) 54 #[.int .i64 r0, .int .i64 r1, .string r2, .string r3] /\ Below w.heap.size w wf := by
     rw [hwf]
     first
      | exact two_putL _ _ _ _ _ _ kXz kRz (by omega) Bz (by omega) (by omega)
      | exact two_putL _ _ _ _ _ _ kXz.drew kRz.drew (by omega) Bz.drew (by omega) (by omega)
    clear hwf x_0 x_1 r_0 r_1 r_2 r_3
    obtain ⟨x_0, x_1⟩ := hX.g2
    obtain ⟨r_0, r_1, r_2, r_3⟩ := hR.g4
    refine bodyPost_ret (v := .tuple #[.agg #[.int .i64 nx, .slice A xs.length c], .agg #[.int .i64 r0, .int .i64 r1, .string r2, .string r3]]) (by simp [results, Tryz.results119, go_sem, x_0, x_1, r_0, r_1, r_2, r_3]) rfl ⟨⟨_, _, _, rfl, ⟨_, _, _, _, rfl⟩, hq', .inl ⟨rfl, rfl⟩⟩, hB⟩
   ·skip
    obtain ⟨nx', xs'⟩ := V'
    simp only at hq' hY' ⊢
    obtain ⟨x_0, x_1⟩ := kXz.g2
    obtain ⟨xf0, xf1⟩ := kXz.f2
    obtain ⟨r_0, r_1, r_2, r_3⟩ := kRz.g4
    obtain ⟨rf0, rf1, rf2, rf3⟩ := kRz.f4
    have xl := kXz.lt
    have rl := kRz.lt
    go_wp2
    refine foldBPL ?_
    intro wf hwf
    have YF : YR wf w5.heap.size g' c' xs' us' := by
     rw [hwf]
     exact ((hY'.farV kXz 0 _).farV (kXz.put 0 (.int .i64 nx') #[.int .i64 nx', .slice none 0 0] rfl) 1 _).far4 ((kRz.far (p := ⟨w.heap.size + 1 + 1, 0, none⟩) (show w.heap.size + 1 + 1 + 1 ≠ w.heap.size + 1 + 1 by omega) _).far (p := ⟨w.heap.size + 1 + 1, 1, none⟩) (show w.heap.size + 1 + 1 + 1 ≠ w.heap.size + 1 + 1 by omega) _) _ _ _ _
    obtain ⟨hX, hR, hB⟩ : Blk wf (w.heap.size + 1 + 1) 26 #[.int .i64 nx', .slice (some ⟨g', 0, none⟩) xs'.length c'] /\ Blk wf (w.heap.size + 1 + 1 + 1) 54 #[.int .i64 r0, .int .i64 r1, .string r2, .string r3] /\ Below w.heap.size w wf := by
     rw [hwf]
     first
      | exact two_putL _ _ _ _ _ _ kXz kRz (by omega) Bz (by omega) (by omega)
      | exact two_putL _ _ _ _ _ _ kXz.drew kRz.drew (by omega) Bz.drew (by omega) (by omega)
    clear hwf x_0 x_1 r_0 r_1 r_2 r_3
    obtain ⟨x_0, x_1⟩ := hX.g2
    obtain ⟨r_0, r_1, r_2, r_3⟩ := hR.g4
    refine bodyPost_ret (v := .tuple #[.agg #[.int .i64 nx', .slice (some ⟨g', 0, none⟩) xs'.length c'], .agg #[.int .i64 r0, .int .i64 r1, .string r2, .string r3]]) (by simp [results, Tryz.results119, go_sem, x_0, x_1, r_0, r_1, r_2, r_3]) rfl ⟨⟨_, ⟨nx', xs'⟩, _, rfl, ⟨_, _, _, _, rfl⟩, hq', .inr ⟨g', c', us', rfl, YF.more (by omega)⟩⟩, hB⟩
  ·skip
   skip
   obtain ⟨v_0, v_1⟩ := kV2.g2
   have c_0 := kC2.get 0 rfl
   have c_i := kC2.get 1 rfl
   go_wp2_with fail
   refine (Hat.out a w2 (hvv.out.next B2).is).mono ?_
   rintro e w3 ⟨rfl, hb3⟩
   clear v_0 v_1 c_0 c_i
   have B3 := belN B2 hb3
   have sz3 := hb3.size
   have kV3 := kV2.below hb3 kV2.lt
   have kC3 := kC2.below hb3 kC2.lt
   have kX3 := kX2.below hb3 kX2.lt
   have kR3 := kR2.below hb3 kR2.lt
   clear kV2 kC2 kX2 kR2
   rcases plc_cases xs a with ⟨hp, _⟩ | ⟨k, hk, hp, _⟩
   ·rw [hp]
    clear hp
    obtain ⟨v_0, v_1⟩ := kV3.g2
    obtain ⟨x_0, x_1⟩ := kX3.g2
    obtain ⟨r_0, r_1, r_2, r_3⟩ := kR3.g4
    obtain ⟨xf0, xf1⟩ := kX3.f2
    have xl := kX3.lt
    obtain ⟨rf0, rf1, rf2, rf3⟩ := kR3.f4
    have rl := kR3.lt
    go_wp2
    refine foldBPL ?_
    intro wf hwf
    obtain ⟨hX, hR, hB⟩ : Blk wf (w.heap.size + 1 + 1) 26 #[.int .i64 nx, .slice A xs.length c] /\ Blk wf (w.heap.size + 1 + 1 + 1) 54 #[.int .i64 2, .int .i64 0, .string ⟨#[]⟩, .string ⟨#[]⟩] /\ Below w.heap.size w wf := by
     rw [hwf]
     first
      | exact two_putL _ _ _ _ _ _ kX3 kR3 (by omega) B3 (by omega) (by omega)
      | exact two_putL _ _ _ _ _ _ kX3.drew kR3.drew (by omega) B3.drew (by omega) (by omega)
    clear hwf x_0 x_1 r_0 r_1 r_2 r_3
    obtain ⟨x_0, x_1⟩ := hX.g2
    obtain ⟨r_0, r_1, r_2, r_3⟩ := hR.g4
    refine bodyPost_ret (v := .tuple #[.agg #[.int .i64 nx, .slice A xs.length c], .agg #[.int .i64 2, .int .i64 0, .string ⟨#[]⟩, .string ⟨#[]⟩]]) (by simp [results, Tryz.results119, go_sem, x_0, x_1, r_0, r_1, r_2, r_3]) rfl ⟨⟨_, _, _, rfl, ⟨_, _, _, _, rfl⟩, Hqm.out, .inl ⟨rfl, rfl⟩⟩, hB⟩
   have qk : ¬ ((k : Int) < 0) := by omega
   rw [hp]
   have Hp := Lib.hid hp
   clear hp
   obtain ⟨v_0, v_1⟩ := kV3.g2
   have c_0 := kC3.get 0 rfl
   have c_i := kC3.get 3 rfl
   go_wp2_with fail
   refine (Hat.out tg w3 (hvv.out.next B3).is).mono ?_
   rintro e w4 ⟨rfl, hb4⟩
   clear v_0 v_1 c_0 c_i
   have B4 := belN B3 hb4
   have sz4 := hb4.size
   have kV4 := kV3.below hb4 kV3.lt
   have kC4 := kC3.below hb4 kC3.lt
   have kX4 := kX3.below hb4 kX3.lt
   have kR4 := kR3.below hb4 kR3.lt
   clear kV3 kC3 kX3 kR3
   rcases plc_cases xs tg with ⟨hp, _⟩ | ⟨k2, hk2, hp, _⟩
   ·rw [hp]
    clear hp
    obtain ⟨v_0, v_1⟩ := kV4.g2
    obtain ⟨x_0, x_1⟩ := kX4.g2
    obtain ⟨r_0, r_1, r_2, r_3⟩ := kR4.g4
    obtain ⟨xf0, xf1⟩ := kX4.f2
    have xl := kX4.lt
    obtain ⟨rf0, rf1, rf2, rf3⟩ := kR4.f4
    have rl := kR4.lt
    go_wp2
    refine foldBPL ?_
    intro wf hwf
    obtain ⟨hX, hR, hB⟩ : Blk wf (w.heap.size + 1 + 1) 26 #[.int .i64 nx, .slice A xs.length c] /\ Blk wf (w.heap.size + 1 + 1 + 1) 54 #[.int .i64 2, .int .i64 0, .string ⟨#[]⟩, .string ⟨#[]⟩] /\ Below w.heap.size w wf := by
     rw [hwf]
     first
      | exact two_putL _ _ _ _ _ _ kX4 kR4 (by omega) B4 (by omega) (by omega)
      | exact two_putL _ _ _ _ _ _ kX4.drew kR4.drew (by omega) B4.drew (by omega) (by omega)
    clear hwf x_0 x_1 r_0 r_1 r_2 r_3
    obtain ⟨x_0, x_1⟩ := hX.g2
    obtain ⟨r_0, r_1, r_2, r_3⟩ := hR.g4
    refine bodyPost_ret (v := .tuple #[.agg #[.int .i64 nx, .slice A xs.length c], .agg #[.int .i64 2, .int .i64 0, .string ⟨#[]⟩, .string ⟨#[]⟩]]) (by simp [results, Tryz.results119, go_sem, x_0, x_1, r_0, r_1, r_2, r_3]) rfl ⟨⟨_, _, _, rfl, ⟨_, _, _, _, rfl⟩, Hqm.out, .inl ⟨rfl, rfl⟩⟩, hB⟩
   have qk2 : ¬ ((k2 : Int) < 0) := by omega
   rw [hp]
   have Hpt := Lib.hid hp
   clear hp
   obtain ⟨v_0, v_1⟩ := kV4.g2
   have c_0 := kC4.get 0 rfl
   have c_i := kC4.get 1 rfl
   go_wp2_with fail
   refine (Hdir.out a w4 (hvv.out.next B4)).mono ?_
   rintro e w5 ⟨rfl, hb5⟩
   clear v_0 v_1 c_0 c_i
   have B5 := belN B4 hb5
   have sz5 := hb5.size
   have kV5 := kV4.below hb5 kV4.lt
   have kC5 := kC4.below hb5 kC4.lt
   have kX5 := kX4.below hb5 kX4.lt
   have kR5 := kR4.below hb5 kR4.lt
   clear kV4 kC4 kX4 kR4
   have hb0 := bg_atD hk Hp.out
   by_cases hdk : xs[k].kd = 2
   rotate_left
   ·have hbg : (bgPD xs a == 0) = false := by rw [hb0, if_neg hdk]; rfl
    rw [hbg]
    clear hbg hb0 hdk
    obtain ⟨v_0, v_1⟩ := kV5.g2
    obtain ⟨x_0, x_1⟩ := kX5.g2
    obtain ⟨r_0, r_1, r_2, r_3⟩ := kR5.g4
    obtain ⟨xf0, xf1⟩ := kX5.f2
    have xl := kX5.lt
    obtain ⟨rf0, rf1, rf2, rf3⟩ := kR5.f4
    have rl := kR5.lt
    go_wp2
    refine foldBPL ?_
    intro wf hwf
    obtain ⟨hX, hR, hB⟩ : Blk wf (w.heap.size + 1 + 1) 26 #[.int .i64 nx, .slice A xs.length c] /\ Blk wf (w.heap.size + 1 + 1 + 1) 54 #[.int .i64 4, .int .i64 0, .string ⟨#[]⟩, .string ⟨#[]⟩] /\ Below w.heap.size w wf := by
     rw [hwf]
     first
      | exact two_putL _ _ _ _ _ _ kX5 kR5 (by omega) B5 (by omega) (by omega)
      | exact two_putL _ _ _ _ _ _ kX5.drew kR5.drew (by omega) B5.drew (by omega) (by omega)
    clear hwf x_0 x_1 r_0 r_1 r_2 r_3
    obtain ⟨x_0, x_1⟩ := hX.g2
    obtain ⟨r_0, r_1, r_2, r_3⟩ := hR.g4
    refine bodyPost_ret (v := .tuple #[.agg #[.int .i64 nx, .slice A xs.length c], .agg #[.int .i64 4, .int .i64 0, .string ⟨#[]⟩, .string ⟨#[]⟩]]) (by simp [results, Tryz.results119, go_sem, x_0, x_1, r_0, r_1, r_2, r_3]) rfl ⟨⟨_, _, _, rfl, ⟨_, _, _, _, rfl⟩, Hqm.out, .inl ⟨rfl, rfl⟩⟩, hB⟩
   have hbg : (bgPD xs a == 0) = true := by rw [hb0, if_pos hdk]; rfl
   rw [hbg]
   have Hdk := Lib.hid hdk
   clear hbg hb0 hdk
   obtain ⟨v_0, v_1⟩ := kV5.g2
   have c_0 := kC5.get 0 rfl
   have c_i := kC5.get 3 rfl
   go_wp2_with fail
   refine (Hdir.out tg w5 (hvv.out.next B5)).mono ?_
   rintro e w6 ⟨rfl, hb6⟩
   clear v_0 v_1 c_0 c_i
   have B6 := belN B5 hb6
   have sz6 := hb6.size
   have kV6 := kV5.below hb6 kV5.lt
   have kC6 := kC5.below hb6 kC5.lt
   have kX6 := kX5.below hb6 kX5.lt
   have kR6 := kR5.below hb6 kR5.lt
   clear kV5 kC5 kX5 kR5
   have hb0 := bg_atD hk2 Hpt.out
   by_cases hdk2 : xs[k2].kd = 2
   rotate_left
   ·have hbg : (bgPD xs tg == 0) = false := by rw [hb0, if_neg hdk2]; rfl
    rw [hbg]
    clear hbg hb0 hdk2
    obtain ⟨v_0, v_1⟩ := kV6.g2
    obtain ⟨x_0, x_1⟩ := kX6.g2
    obtain ⟨r_0, r_1, r_2, r_3⟩ := kR6.g4
    obtain ⟨xf0, xf1⟩ := kX6.f2
    have xl := kX6.lt
    obtain ⟨rf0, rf1, rf2, rf3⟩ := kR6.f4
    have rl := kR6.lt
    go_wp2
    refine foldBPL ?_
    intro wf hwf
    obtain ⟨hX, hR, hB⟩ : Blk wf (w.heap.size + 1 + 1) 26 #[.int .i64 nx, .slice A xs.length c] /\ Blk wf (w.heap.size + 1 + 1 + 1) 54 #[.int .i64 4, .int .i64 0, .string ⟨#[]⟩, .string ⟨#[]⟩] /\ Below w.heap.size w wf := by
     rw [hwf]
     first
      | exact two_putL _ _ _ _ _ _ kX6 kR6 (by omega) B6 (by omega) (by omega)
      | exact two_putL _ _ _ _ _ _ kX6.drew kR6.drew (by omega) B6.drew (by omega) (by omega)
    clear hwf x_0 x_1 r_0 r_1 r_2 r_3
    obtain ⟨x_0, x_1⟩ := hX.g2
    obtain ⟨r_0, r_1, r_2, r_3⟩ := hR.g4
    refine bodyPost_ret (v := .tuple #[.agg #[.int .i64 nx, .slice A xs.length c], .agg #[.int .i64 4, .int .i64 0, .string ⟨#[]⟩, .string ⟨#[]⟩]]) (by simp [results, Tryz.results119, go_sem, x_0, x_1, r_0, r_1, r_2, r_3]) rfl ⟨⟨_, _, _, rfl, ⟨_, _, _, _, rfl⟩, Hqm.out, .inl ⟨rfl, rfl⟩⟩, hB⟩
   have hbg : (bgPD xs tg == 0) = true := by rw [hb0, if_pos hdk2]; rfl
   rw [hbg]
   have Hdk2 := Lib.hid hdk2
   clear hbg hb0 hdk2
   obtain ⟨v_0, v_1⟩ := kV6.g2
   have c_0 := kC6.get 0 rfl
   have c_i := kC6.get 2 rfl
   go_wp2_with fail
   refine (nameOk_spec s (by omega) w6).mono ?_
   rintro e w7 ⟨rfl, hb7⟩
   clear v_0 v_1 c_0 c_i
   have B7 := belN B6 hb7
   have sz7 := hb7.size
   have kV7 := kV6.below hb7 kV6.lt
   have kC7 := kC6.below hb7 kC6.lt
   have kX7 := kX6.below hb7 kX6.lt
   have kR7 := kR6.below hb7 kR6.lt
   clear kV6 kC6 kX6 kR6
   rcases nameOkB s with _ | _
   ·skip
    obtain ⟨v_0, v_1⟩ := kV7.g2
    obtain ⟨x_0, x_1⟩ := kX7.g2
    obtain ⟨r_0, r_1, r_2, r_3⟩ := kR7.g4
    obtain ⟨xf0, xf1⟩ := kX7.f2
    have xl := kX7.lt
    obtain ⟨rf0, rf1, rf2, rf3⟩ := kR7.f4
    have rl := kR7.lt
    go_wp2
    refine foldBPL ?_
    intro wf hwf
    obtain ⟨hX, hR, hB⟩ : Blk wf (w.heap.size + 1 + 1) 26 #[.int .i64 nx, .slice A xs.length c] /\ Blk wf (w.heap.size + 1 + 1 + 1) 54 #[.int .i64 1, .int .i64 0, .string ⟨#[]⟩, .string ⟨#[]⟩] /\ Below w.heap.size w wf := by
     rw [hwf]
     first
      | exact two_putL _ _ _ _ _ _ kX7 kR7 (by omega) B7 (by omega) (by omega)
      | exact two_putL _ _ _ _ _ _ kX7.drew kR7.drew (by omega) B7.drew (by omega) (by omega)
    clear hwf x_0 x_1 r_0 r_1 r_2 r_3
    obtain ⟨x_0, x_1⟩ := hX.g2
    obtain ⟨r_0, r_1, r_2, r_3⟩ := hR.g4
    refine bodyPost_ret (v := .tuple #[.agg #[.int .i64 nx, .slice A xs.length c], .agg #[.int .i64 1, .int .i64 0, .string ⟨#[]⟩, .string ⟨#[]⟩]]) (by simp [results, Tryz.results119, go_sem, x_0, x_1, r_0, r_1, r_2, r_3]) rfl ⟨⟨_, _, _, rfl, ⟨_, _, _, _, rfl⟩, Hqm.out, .inl ⟨rfl, rfl⟩⟩, hB⟩
   obtain ⟨v_0, v_1⟩ := kV7.g2
   have c_0 := kC7.get 0 rfl
   have c_i := kC7.get 4 rfl
   go_wp2_with fail
   refine (nameOk_spec nm (by omega) w7).mono ?_
   rintro e w8 ⟨rfl, hb8⟩
   clear v_0 v_1 c_0 c_i
   have B8 := belN B7 hb8
   have sz8 := hb8.size
   have kV8 := kV7.below hb8 kV7.lt
   have kC8 := kC7.below hb8 kC7.lt
   have kX8 := kX7.below hb8 kX7.lt
   have kR8 := kR7.below hb8 kR7.lt
   clear kV7 kC7 kX7 kR7
   rcases nameOkB nm with _ | _
   ·skip
    obtain ⟨v_0, v_1⟩ := kV8.g2
    obtain ⟨x_0, x_1⟩ := kX8.g2
    obtain ⟨r_0, r_1, r_2, r_3⟩ := kR8.g4
    obtain ⟨xf0, xf1⟩ := kX8.f2
    have xl := kX8.lt
    obtain ⟨rf0, rf1, rf2, rf3⟩ := kR8.f4
    have rl := kR8.lt
    go_wp2
    refine foldBPL ?_
    intro wf hwf
    obtain ⟨hX, hR, hB⟩ : Blk wf (w.heap.size + 1 + 1) 26 #[.int .i64 nx, .slice A xs.length c] /\ Blk wf (w.heap.size + 1 + 1 + 1) 54 #[.int .i64 1, .int .i64 0, .string ⟨#[]⟩, .string ⟨#[]⟩] /\ Below w.heap.size w wf := by
     rw [hwf]
     first
      | exact two_putL _ _ _ _ _ _ kX8 kR8 (by omega) B8 (by omega) (by omega)
      | exact two_putL _ _ _ _ _ _ kX8.drew kR8.drew (by omega) B8.drew (by omega) (by omega)
    clear hwf x_0 x_1 r_0 r_1 r_2 r_3
    obtain ⟨x_0, x_1⟩ := hX.g2
    obtain ⟨r_0, r_1, r_2, r_3⟩ := hR.g4
    refine bodyPost_ret (v := .tuple #[.agg #[.int .i64 nx, .slice A xs.length c], .agg #[.int .i64 1, .int .i64 0, .string ⟨#[]⟩, .string ⟨#[]⟩]]) (by simp [results, Tryz.results119, go_sem, x_0, x_1, r_0, r_1, r_2, r_3]) rfl ⟨⟨_, _, _, rfl, ⟨_, _, _, _, rfl⟩, Hqm.out, .inl ⟨rfl, rfl⟩⟩, hB⟩
   have hkk : 5 <= kd := by have := of_decide_eq_true Htw.out; omega
   have t1 : (kd == 1) = false := beq_eq_false_iff_ne.2 (show kd ≠ 1 by omega)
   have t2 : (kd == 2) = false := beq_eq_false_iff_ne.2 (show kd ≠ 2 by omega)
   obtain ⟨v_0, v_1⟩ := kV8.g2
   obtain ⟨c_0, c_1, c_2, c_3, c_4, c_5⟩ := kC8.g6
   go_wp2_with fail
   clear v_0 v_1 c_0 c_1 c_2 c_3 c_4 c_5
   refine (l6On_all (.agg #[.int .i64 nx, .slice A xs.length c]) ⟨nx, xs⟩ K Hq.out a s tg nm dt hs hKl kd (by omega) hdt (fun _ => ⟨hnz, k2, hk2, Hpt.out, Hdk2.out⟩) k hk Hp.out w8 (hvv.out.next B8)).mono ?_
   rintro e wz ⟨⟨v', V', r, rfl, ⟨r0, r1, r2, r3, rfl⟩, hq', hd'⟩, hbz⟩
   have Bz := belN B8 hbz
   have szz : w.heap.size + 4 <= w8.heap.size := by have := kR8.lt; omega
   have kXz := kX8.below hbz kX8.lt
   have kRz := kR8.below hbz kR8.lt
   rcases hd' with ⟨rfl, rfl⟩ | ⟨g', c', us', rfl, hY'⟩
   ·skip
    obtain ⟨x_0, x_1⟩ := kXz.g2
    obtain ⟨xf0, xf1⟩ := kXz.f2
    obtain ⟨r_0, r_1, r_2, r_3⟩ := kRz.g4
    obtain ⟨rf0, rf1, rf2, rf3⟩ := kRz.f4
    have xl := kXz.lt
    have rl := kRz.lt
    go_wp2
    refine foldBPL ?_
    intro wf hwf
    obtain ⟨hX, hR, hB⟩ : Blk wf (w.heap.size + 1 + 1) 26 #[.int .i64 nx, .slice A xs.length c] /\ Blk wf (w.heap.size + 1 + 1 + 1) 54 #[.int .i64 r0, .int .i64 r1, .string r2, .string r3] /\ Below w.heap.size w wf := by
     rw [hwf]
     first
      | exact two_putL _ _ _ _ _ _ kXz kRz (by omega) Bz (by omega) (by omega)
      | exact two_putL _ _ _ _ _ _ kXz.drew kRz.drew (by omega) Bz.drew (by omega) (by omega)
    clear hwf x_0 x_1 r_0 r_1 r_2 r_3
    obtain ⟨x_0, x_1⟩ := hX.g2
    obtain ⟨r_0, r_1, r_2, r_3⟩ := hR.g4
    refine bodyPost_ret (v := .tuple #[.agg #[.int .i64 nx, .slice A xs.length c], .agg #[.int .i64 r0, .int .i64 r1, .string r2, .string r3]]) (by simp [results, Tryz.results119, go_sem, x_0, x_1, r_0, r_1, r_2, r_3]) rfl ⟨⟨_, _, _, rfl, ⟨_, _, _, _, rfl⟩, hq', .inl ⟨rfl, rfl⟩⟩, hB⟩
   ·skip
    obtain ⟨nx', xs'⟩ := V'
    simp only at hq' hY' ⊢
    obtain ⟨x_0, x_1⟩ := kXz.g2
    obtain ⟨xf0, xf1⟩ := kXz.f2
    obtain ⟨r_0, r_1, r_2, r_3⟩ := kRz.g4
    obtain ⟨rf0, rf1, rf2, rf3⟩ := kRz.f4
    have xl := kXz.lt
    have rl := kRz.lt
    go_wp2
    refine foldBPL ?_
    intro wf hwf
    have YF : YR wf w8.heap.size g' c' xs' us' := by
     rw [hwf]
     exact ((hY'.farV kXz 0 _).farV (kXz.put 0 (.int .i64 nx') #[.int .i64 nx', .slice none 0 0] rfl) 1 _).far4 ((kRz.far (p := ⟨w.heap.size + 1 + 1, 0, none⟩) (show w.heap.size + 1 + 1 + 1 ≠ w.heap.size + 1 + 1 by omega) _).far (p := ⟨w.heap.size + 1 + 1, 1, none⟩) (show w.heap.size + 1 + 1 + 1 ≠ w.heap.size + 1 + 1 by omega) _) _ _ _ _
    obtain ⟨hX, hR, hB⟩ : Blk wf (w.heap.size + 1 + 1) 26 #[.int .i64 nx', .slice (some ⟨g', 0, none⟩) xs'.length c'] /\ Blk wf (w.heap.size + 1 + 1 + 1) 54 #[.int .i64 r0, .int .i64 r1, .string r2, .string r3] /\ Below w.heap.size w wf := by
     rw [hwf]
     first
      | exact two_putL _ _ _ _ _ _ kXz kRz (by omega) Bz (by omega) (by omega)
      | exact two_putL _ _ _ _ _ _ kXz.drew kRz.drew (by omega) Bz.drew (by omega) (by omega)
    clear hwf x_0 x_1 r_0 r_1 r_2 r_3
    obtain ⟨x_0, x_1⟩ := hX.g2
    obtain ⟨r_0, r_1, r_2, r_3⟩ := hR.g4
    refine bodyPost_ret (v := .tuple #[.agg #[.int .i64 nx', .slice (some ⟨g', 0, none⟩) xs'.length c'], .agg #[.int .i64 r0, .int .i64 r1, .string r2, .string r3]]) (by simp [results, Tryz.results119, go_sem, x_0, x_1, r_0, r_1, r_2, r_3]) rfl ⟨⟨_, ⟨nx', xs'⟩, _, rfl, ⟨_, _, _, _, rfl⟩, hq', .inr ⟨g', c', us', rfl, YF.more (by omega)⟩⟩, hB⟩

end Go.Proofs.YtjjniapamdleoaaGreatDoor
