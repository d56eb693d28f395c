/- l6Do: a call on a volume that calls have made. -/
import Derived.Test.YtjjniapamdleoaaGreatDoorRCL6M
import Derived.Test.YtjjniapamdleoaaGreatDoorRCVolB
import Derived.Deep.CutBlock
namespace Go.Proofs.YtjjniapamdleoaaGreatDoor
open Go Go.RowKit
set_option maxHeartbeats 4000000
set_option maxRecDepth 100000

def bgPD (xs : List InoD) (a : Int) : Int := if plc xs a < 0 then 2 else match xs[(plc xs a).toNat]? with | none => 2 | some x => if x.kd = 2 then 0 else 4
theorem bg_noneD {xs : List InoD} {a : Int} (h : plc xs a = -1) : bgPD xs a = 2 := by unfold bgPD; rw [if_pos (by omega)]
theorem bg_atD {xs : List InoD} {a : Int} {k : Nat} (hk : k < xs.length) (h : plc xs a = (k : Int)) : bgPD xs a = if xs[k].kd = 2 then 0 else 4 := by
 unfold bgPD; rw [if_neg (by omega), h, Int.toNat_natCast, List.getElem?_eq_getElem hk]

theorem l6Dir_rd (v : Value) (V : VolD) (hn : V.xs.length <= 10000000) (a : Int) (w : World) (hC : IsVolC w v V) :
  Calls Tryz.prog 167 #[v, .int .i64 a] w fun e w' => e = .returned (.bool (bgPD V.xs a == 0)) /\ Below w.heap.size w w' := by
 have Hat := Lib.hid (fun W hW => l6At_any v V hn a W hW)
 have hv := Lib.hid hC
 have h := hC.is
 obtain ⟨A, c, rfl, h⟩ := h
 obtain ⟨nx, xs⟩ := V
 simp only at Hat h hn ⊢
 have H := Lib.hid h
 clear h hC
 obtain ⟨n, hn'⟩ : ∃ n, xs.length = n := ⟨_, rfl⟩
 have HL := Lib.hid hn'
 simp only [hn'] at Hat hv H hn ⊢
 clear hn'
 obtain ⟨W1, hW1⟩ : ∃ W1, w.alloc (.cells #[.int .i64 nx, .slice A n c] 26) = W1 := ⟨_, rfl⟩
 have B1 : Below w.heap.size w W1 := by rw [<- hW1]; exact belA (bel0 w) _
 have hV : Blk W1 w.heap.size 26 #[.int .i64 nx, .slice A n c] := by rw [<- hW1]; exact Blk.new' _ _ _ _ rfl
 have HW1 := Lib.hid hW1
 have V1 := Lib.hid (hV.get 1 rfl)
 clear hW1 hV
 rcases plc_cases xs a with ⟨hp, _⟩ | ⟨k, hkx, hp, _⟩
 ·have Hb := Lib.hid (show (bgPD xs a == 0) = false by rw [bg_noneD hp]; rfl)
  simp only [hp] at Hat
  clear hp
  go_enter Tryz.func167, Tryz.ntmps167
  go_wp2_with fail
  rw [HW1.out]
  refine (Hat.out W1 (hv.out.next B1).is).mono ?_
  rintro e w2 ⟨rfl, hb2⟩
  go_wp2
  go_ret
  exact ⟨ret_bool Hb.out.symm, belN B1 hb2⟩
 ·have Hb := Lib.hid (bg_atD hkx hp)
  have hkn : k < n := by have := HL.out; omega
  simp only [hp] at Hat
  clear hp
  have q0 : (0 : Int) <= ↑k := by omega
  have q1 : (↑k : Int) < ↑n := by omega
  obtain ⟨y, hy⟩ : ∃ y, xs[k].kd = y := ⟨_, rfl⟩
  have Hb2 := Lib.hid (show (bgPD xs a == 0) = (y == 2) by
   rw [Hb.out, hy]; by_cases h : y = 2
   ·subst h; rfl
   ·rw [if_neg h, Bool.eq_iff_iff]; simp [h])
  go_enter Tryz.func167, Tryz.ntmps167
  go_wp2_with fail
  rw [HW1.out]
  refine (Hat.out W1 (hv.out.next B1).is).mono ?_
  rintro e w2 ⟨rfl, hb2⟩
  have v1 := kp_ hb2 V1.out
  obtain ⟨_, b, o, A', c', rfl, hadb, z0, z1, z2, z3, z4, hrow⟩ := (H.out.next (belN B1 hb2)).at_ hkn
  rw [hy] at z1
  clear z0 z2 z3 z4 hrow hy
  go_wp2
  go_ret
  exact ⟨ret_bool Hb2.out.symm, belN B1 hb2⟩

theorem callOk_any (kd a : Int) (s : ByteArray) (tg : Int) (nm dt : ByteArray) (w : World) :
  Calls Tryz.prog 166 #[.agg #[.int .i64 kd, .int .i64 a, .string s, .int .i64 tg, .string nm, .string dt]] w fun e w' => ∃ b, e = .returned (.bool b) /\ (b = true -> 1 <= kd /\ kd <= 8 /\ s.size <= 24 /\ nm.size <= 24 /\ dt.size <= 20) /\ Below w.heap.size w w' := by
 obtain ⟨W1, hW1⟩ : ∃ W1, w.alloc (.cells #[.int .i64 kd, .int .i64 a, .string s, .int .i64 tg, .string nm, .string dt] 95) = W1 := ⟨_, rfl⟩
 have B1 : Below w.heap.size w W1 := by rw [<- hW1]; exact belA (bel0 w) _
 have kC : Blk W1 w.heap.size 95 #[.int .i64 kd, .int .i64 a, .string s, .int .i64 tg, .string nm, .string dt] := by rw [<- hW1]; exact Blk.new' _ _ _ _ rfl
 obtain ⟨c_0, c_1, c_2, c_3, c_4, c_5⟩ := kC.g6
 have HW1 := Lib.hid hW1
 clear hW1 kC
 go_enter Tryz.func166, Tryz.ntmps166
 go_wp2_with fail
 rw [HW1.out]
 clear HW1
 refine (l1In_any kd 1 8 _).mono ?_
 rintro e w2 ⟨rfl, hw⟩
 subst hw
 rcases h1 : inI kd 1 8 with _ | _
 ·clear h1
  go_wp2
  go_ret
  exact ⟨_, rfl, (fun h => by cases h), B1⟩
 have Hk := Lib.hid (inI_true.1 h1)
 clear h1
 go_wp2_with fail
 refine (l1In_any a 0 100000 _).mono ?_
 rintro e w2 ⟨rfl, hw⟩
 subst hw
 rcases h2 : inI a 0 100000 with _ | _
 ·clear h2
  go_wp2
  go_ret
  exact ⟨_, rfl, (fun h => by cases h), B1⟩
 clear h2
 go_wp2_with fail
 refine (l1In_any tg 0 100000 _).mono ?_
 rintro e w2 ⟨rfl, hw⟩
 subst hw
 rcases h3 : inI tg 0 100000 with _ | _
 ·clear h3
  go_wp2
  go_ret
  exact ⟨_, rfl, (fun h => by cases h), B1⟩
 clear h3
 by_cases g1 : (24 : Int) < ((s.size : Nat) : Int)
 ·skip
  go_wp2
  go_ret
  exact ⟨_, rfl, (fun h => by cases h), B1⟩
 by_cases g2 : (24 : Int) < ((nm.size : Nat) : Int)
 ·skip
  go_wp2
  go_ret
  exact ⟨_, rfl, (fun h => by cases h), B1⟩
 by_cases g3 : (20 : Int) < ((dt.size : Nat) : Int)
 ·skip
  go_wp2
  go_ret
  exact ⟨_, rfl, (fun h => by cases h), B1⟩
 by_cases k5 : kd = 5
 ·subst k5
  go_wp2
  go_ret
  exact ⟨_, rfl, fun _ => ⟨by have := Hk.out; omega, by have := Hk.out; omega, by omega, by omega, by omega⟩, B1⟩
 by_cases k6 : kd = 6
 ·subst k6
  go_wp2
  go_ret
  exact ⟨_, rfl, fun _ => ⟨by have := Hk.out; omega, by have := Hk.out; omega, by omega, by omega, by omega⟩, B1⟩
 have t5 : (kd == 5) = false := by simpa using k5
 have t6 : (kd == 6) = false := by simpa using k6
 clear k5 k6
 rcases t0 : (tg == 0) with _ | _
 ·skip
  go_wp2
  go_ret
  exact ⟨_, rfl, fun _ => ⟨by have := Hk.out; omega, by have := Hk.out; omega, by omega, by omega, by omega⟩, B1⟩
 rcases tn : nm.toList.isEmpty with _ | _
 ·skip
  go_wp2
  go_ret
  exact ⟨_, rfl, fun _ => ⟨by have := Hk.out; omega, by have := Hk.out; omega, by omega, by omega, by omega⟩, B1⟩
 rcases t7 : (kd == 7) with _ | _
 ·skip
  go_wp2
  go_ret
  exact ⟨_, rfl, fun _ => ⟨by have := Hk.out; omega, by have := Hk.out; omega, by omega, by omega, by omega⟩, B1⟩
 ·skip
  go_wp2
  go_ret
  exact ⟨_, rfl, fun _ => ⟨by have := Hk.out; omega, by have := Hk.out; omega, by omega, by omega, by omega⟩, B1⟩

end Go.Proofs.YtjjniapamdleoaaGreatDoor
