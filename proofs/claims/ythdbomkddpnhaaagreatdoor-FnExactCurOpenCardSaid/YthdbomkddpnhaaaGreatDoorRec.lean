/- Records: their texts, in both packages. -/
import Derived.Test.YthdbomkddpnhaaaGreatDoorBase
import Derived.Deep.RegionHeld3
namespace Go.Proofs.YthdbomkddpnhaaaGreatDoor
open Go Go.RowKit

/-- A text behind its sum. -/
def sumB (s : ByteArray) : ByteArray := fix4 (crcB s) ++ s
theorem sumB_size (s : ByteArray) : (sumB s).size = s.size + 4 := by rw [sumB, ByteArray.size_append, fix4_size]; omega

theorem summed_any (s : ByteArray) (hs : s.size ≤ 1000000000) (w : World) :
    Calls Tryz.prog 227 #[.string s] w fun e w' => e = .returned (.string (sumB s)) ∧ Below w.heap.size w w' := by
  have hb := crcB_bd s
  have hz := fix4_size (crcB s)
  go_enter Tryz.func227, Tryz.ntmps227
  go_wp2_with (first
    | (go_at_call 222; refine (crc_impl s hs _).mono ?_; rintro e w' ⟨rfl, rfl⟩)
    | (go_at_call 276; refine (fixed_impl _ hb.1 hb.2 _).mono ?_; rintro e w1 ⟨rfl, hb1⟩))
  go_ret
  exact ⟨rfl, hb1⟩

def recB (q : Int) (t : ByteArray) : ByteArray := str [114] ++ varB q ++ t
theorem recB_size (q : Int) (t : ByteArray) : (recB q t).size ≤ 8 + t.size := by
  have := varB_size q
  rw [recB, ByteArray.size_append, ByteArray.size_append, str_size, List.length_singleton]; omega
def showRecB (q : Int) (t : ByteArray) : ByteArray := if inI q 1 1000000 && decide (t.size ≤ 80) then sumB (recB q t) else str []

set_option maxHeartbeats 1000000 in
theorem showRec_impl (q : Int) (t : ByteArray) (w : World) (ht : t.size ≤ 9223372036854775807) :
    Calls Tryz.prog 228 #[.agg #[.int .i64 q, .string t]] w fun e w' => e = .returned (.string (showRecB q t)) ∧ Below w.heap.size w w' := by
  cases hin : inI q 1 1000000
  · have Hf := Lib.hid (show showRecB q t = str [] by unfold showRecB; rw [hin]; rfl)
    go_enter Tryz.func228, Tryz.ntmps228
    go_wp2_with (go_at_call 124; refine (within_any _ _ _ _).mono ?_; rintro e w' ⟨rfl, rfl⟩)
    go_ret
    exact ⟨ret_str Hf.out.symm, (Below.refl _ _).alloc (Nat.le_refl _) _⟩
  · by_cases hl : t.size ≤ 80
    · have Hf := Lib.hid (show showRecB q t = sumB (recB q t) by unfold showRecB; rw [hin]; simp [hl])
      have hv := varB_size q
      have n1 : ¬ 9223372036854775807 < 1 + (varB q).size := by omega
      have n2 : ¬ 9223372036854775807 < 1 + (varB q).size + t.size := by omega
      go_enter Tryz.func228, Tryz.ntmps228
      go_wp2_with (go_at_call 124; refine (within_any _ _ _ _).mono ?_; rintro e w' ⟨rfl, rfl⟩)
      go_region_held3 (fun w' => w'.cell? ⟨w.heap.size, 0, none⟩ = some (.int .i64 q) ∧ w'.cell? ⟨w.heap.size, 1, none⟩ = some (.string t))
        (first | go_keep | (refine ⟨keep1 hb2 ?_, keep1 hb2 ?_⟩ <;> go_keep) | (refine ⟨keep1 hb1 ?_, keep1 hb1 ?_⟩ <;> go_keep))
        (first
          | (go_at_call 210; refine (var_impl _ _).mono ?_; rintro e w1 ⟨rfl, hb1⟩)
          | (go_at_call 227; refine (summed_any _ (by simp only [ByteArray.size_append, str1_size]; omega) _).mono ?_; rintro e w2 ⟨rfl, hb2⟩))
      go_wp2
      go_ret
      exact ⟨ret_str Hf.out.symm, belN (belN (belA (bel0 w) _).drew hb1) hb2⟩
    · have Hf := Lib.hid (show showRecB q t = str [] by unfold showRecB; rw [hin]; simp [hl])
      go_enter Tryz.func228, Tryz.ntmps228
      go_wp2_with (go_at_call 124; refine (within_any _ _ _ _).mono ?_; rintro e w' ⟨rfl, rfl⟩)
      go_ret
      exact ⟨ret_str Hf.out.symm, (Below.refl _ _).alloc (Nat.le_refl _) _⟩
set_option maxHeartbeats 1000000 in
theorem showRec_spec (q : Int) (t : ByteArray) (w : World) (ht : t.size ≤ 9223372036854775807) :
    Calls Tryz.prog 217 #[.agg #[.int .i64 q, .string t]] w fun e w' => e = .returned (.string (showRecB q t)) ∧ Below w.heap.size w w' := by
  cases hin : inI q 1 1000000
  · have Hf := Lib.hid (show showRecB q t = str [] by unfold showRecB; rw [hin]; rfl)
    go_enter Tryz.func217, Tryz.ntmps217
    go_wp2_with (go_at_call 115; refine (l1In_any _ _ _ _).mono ?_; rintro e w' ⟨rfl, rfl⟩)
    go_ret
    exact ⟨ret_str Hf.out.symm, (Below.refl _ _).alloc (Nat.le_refl _) _⟩
  · by_cases hl : t.size ≤ 80
    · have Hf := Lib.hid (show showRecB q t = sumB (recB q t) by unfold showRecB; rw [hin]; simp [hl])
      have hv := varB_size q
      have n1 : ¬ 9223372036854775807 < 1 + (varB q).size := by omega
      have n2 : ¬ 9223372036854775807 < 1 + (varB q).size + t.size := by omega
      go_enter Tryz.func217, Tryz.ntmps217
      go_wp2_with (go_at_call 115; refine (l1In_any _ _ _ _).mono ?_; rintro e w' ⟨rfl, rfl⟩)
      go_region_held3 (fun w' => w'.cell? ⟨w.heap.size, 0, none⟩ = some (.int .i64 q) ∧ w'.cell? ⟨w.heap.size, 1, none⟩ = some (.string t))
        (first | go_keep | (refine ⟨keep1 hb1 ?_, keep1 hb1 ?_⟩ <;> go_keep))
        (first
          | (go_at_call 209; refine (var_spec _ _).mono ?_; rintro e w1 ⟨rfl, hb1⟩))
      have hc := crcB_bd (recB q t)
      have hcz := fix4_size (crcB (recB q t))
      have hz : (recB q t).size ≤ 1000 := by have := recB_size q t; omega
      unfold recB str at hc hcz hz
      go_wp2_with (first
        | (go_at_call 215; refine (crc_spec _ (by omega) _).mono ?_; rintro e w' ⟨rfl, rfl⟩)
        | (go_at_call 216; refine (fixed_spec _ hc.1 hc.2 _).mono ?_; rintro e w2 ⟨rfl, hb2⟩))
      go_ret
      exact ⟨ret_str Hf.out.symm, belN (belN (belA (bel0 w) _).drew hb1) hb2⟩
    · have Hf := Lib.hid (show showRecB q t = str [] by unfold showRecB; rw [hin]; simp [hl])
      go_enter Tryz.func217, Tryz.ntmps217
      go_wp2_with (go_at_call 115; refine (l1In_any _ _ _ _).mono ?_; rintro e w' ⟨rfl, rfl⟩)
      go_ret
      exact ⟨ret_str Hf.out.symm, (Below.refl _ _).alloc (Nat.le_refl _) _⟩

end Go.Proofs.YthdbomkddpnhaaaGreatDoor
