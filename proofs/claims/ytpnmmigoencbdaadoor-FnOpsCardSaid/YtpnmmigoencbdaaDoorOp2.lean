/- Changes of a directory and their texts, in both packages. -/
import Derived.Test.YtpnmmigoencbdaaDoorOp
namespace Go.Proofs.YtpnmmigoencbdaaDoor
open Go Go.RowKit

/-- A change's text. -/
def showOpB (k : Int) (s : ByteArray) (i : Int) : ByteArray := if opOkB k s i = true then varB k ++ varB i ++ s else str []
theorem opOk_size {k i : Int} {s : ByteArray} (h : opOkB k s i = true) : s.size ≤ 24 := by
  have hn : nameOkB s = true := by
    unfold opOkB at h
    split at h
    · rw [Bool.and_eq_true] at h; exact h.1
    · rw [Bool.and_eq_true, Bool.and_eq_true] at h; exact h.1.2
  unfold nameOkB at hn
  split at hn
  · cases hn
  · rw [Bool.and_eq_true, Bool.and_eq_true, Bool.and_eq_true] at hn
    have := inI_true.1 hn.1.1.1
    omega

set_option maxRecDepth 100000 in
set_option maxHeartbeats 2000000 in
theorem showOp_impl (k : Int) (s : ByteArray) (i : Int) (hs : s.size ≤ 2000000) (w : World) (hT : Tab w) :
    Calls Tryd.prog 7 #[.agg #[.int .i64 k, .string s, .int .i64 i]] w fun e w' => e = .returned (.string (showOpB k s i)) ∧ Below w.heap.size w w' := by
  have HT := Lib.hid hT
  clear hT
  rcases ho : opOkB k s i with _ | _
  · have Hf := Lib.hid (show showOpB k s i = str [] by unfold showOpB; rw [ho]; rfl)
    go_enter Tryd.func7, Tryd.ntmps7
    go_wp2_with (go_at_call 9; refine (opOk_impl _ _ _ hs _ (HT.out.al _)).mono ?_; rintro e w1 ⟨rfl, hb1⟩)
    go_ret
    exact ⟨ret_str Hf.out.symm, belN (belA (bel0 w) _) hb1⟩
  · have Hf := Lib.hid (show showOpB k s i = varB k ++ varB i ++ s by unfold showOpB; rw [if_pos ho])
    have hz := opOk_size ho
    have hk := varB_size k
    have hi := varB_size i
    have n1 : ¬ 9223372036854775807 < (varB k).size + (varB i).size := by omega
    have n2 : ¬ 9223372036854775807 < (varB k).size + (varB i).size + s.size := by omega
    have tok1 : True := trivial
    go_enter Tryd.func7, Tryd.ntmps7
    go_wp2_with fail
    refine (opOk_impl _ _ _ hs _ (HT.out.al _)).mono ?_
    rintro e w1 ⟨rfl, hb1⟩
    have c0 := keep1 hb1 (p := ⟨w.heap.size, 0, none⟩) (x := .int .i64 k) (by simp [go_sem])
    have c1 := keep1 hb1 (p := ⟨w.heap.size, 1, none⟩) (x := .string s) (by simp [go_sem])
    have c2 := keep1 hb1 (p := ⟨w.heap.size, 2, none⟩) (x := .int .i64 i) (by simp [go_sem])
    go_wp2_with fail
    go_region_held3 (fun w' => w'.cell? ⟨w.heap.size, 0, none⟩ = some (.int .i64 k) ∧ w'.cell? ⟨w.heap.size, 1, none⟩ = some (.string s) ∧ w'.cell? ⟨w.heap.size, 2, none⟩ = some (.int .i64 i))
      (first | go_keep | (refine ⟨keep1 hb3 ?_, keep1 hb3 ?_, keep1 hb3 ?_⟩ <;> go_keep) | (refine ⟨keep1 hb2 ?_, keep1 hb2 ?_, keep1 hb2 ?_⟩ <;> go_keep))
      (first
        | (go_at_call 22; have _t := tok1; refine (var_impl k _).mono ?_; rintro e w2 ⟨rfl, hb2⟩; clear tok1)
        | (go_at_call 22; refine (var_impl i _).mono ?_; rintro e w3 ⟨rfl, hb3⟩))
    go_wp2
    go_ret
    exact ⟨ret_str Hf.out.symm, belN (belN (belN (belA (bel0 w) _) hb1).drew hb2) hb3⟩

set_option maxRecDepth 100000 in
set_option maxHeartbeats 2000000 in
theorem showOp_spec (k : Int) (s : ByteArray) (i : Int) (hs : s.size ≤ 2000000) (w : World) :
    Calls Tryd.prog 28 #[.agg #[.int .i64 k, .string s, .int .i64 i]] w fun e w' => e = .returned (.string (showOpB k s i)) ∧ Below w.heap.size w w' := by
  rcases ho : opOkB k s i with _ | _
  · have Hf := Lib.hid (show showOpB k s i = str [] by unfold showOpB; rw [ho]; rfl)
    go_enter Tryd.func28, Tryd.ntmps28
    go_wp2_with (go_at_call 8; refine (opOk_spec _ _ _ hs _).mono ?_; rintro e w1 ⟨rfl, hb1⟩)
    go_ret
    exact ⟨ret_str Hf.out.symm, belN (belA (bel0 w) _) hb1⟩
  · have Hf := Lib.hid (show showOpB k s i = varB k ++ varB i ++ s by unfold showOpB; rw [if_pos ho])
    have hz := opOk_size ho
    have hk := varB_size k
    have hi := varB_size i
    have n1 : ¬ 9223372036854775807 < (varB k).size + (varB i).size := by omega
    have n2 : ¬ 9223372036854775807 < (varB k).size + (varB i).size + s.size := by omega
    have tok1 : True := trivial
    go_enter Tryd.func28, Tryd.ntmps28
    go_wp2_with fail
    refine (opOk_spec _ _ _ hs _).mono ?_
    rintro e w1 ⟨rfl, hb1⟩
    have c0 := keep1 hb1 (p := ⟨w.heap.size, 0, none⟩) (x := .int .i64 k) (by simp [go_sem])
    have c1 := keep1 hb1 (p := ⟨w.heap.size, 1, none⟩) (x := .string s) (by simp [go_sem])
    have c2 := keep1 hb1 (p := ⟨w.heap.size, 2, none⟩) (x := .int .i64 i) (by simp [go_sem])
    go_wp2_with fail
    go_region_held3 (fun w' => w'.cell? ⟨w.heap.size, 0, none⟩ = some (.int .i64 k) ∧ w'.cell? ⟨w.heap.size, 1, none⟩ = some (.string s) ∧ w'.cell? ⟨w.heap.size, 2, none⟩ = some (.int .i64 i))
      (first | go_keep | (refine ⟨keep1 hb3 ?_, keep1 hb3 ?_, keep1 hb3 ?_⟩ <;> go_keep) | (refine ⟨keep1 hb2 ?_, keep1 hb2 ?_, keep1 hb2 ?_⟩ <;> go_keep))
      (first
        | (go_at_call 43; have _t := tok1; refine (var_spec k _).mono ?_; rintro e w2 ⟨rfl, hb2⟩; clear tok1)
        | (go_at_call 43; refine (var_spec i _).mono ?_; rintro e w3 ⟨rfl, hb3⟩))
    go_wp2
    go_ret
    exact ⟨ret_str Hf.out.symm, belN (belN (belN (belA (bel0 w) _) hb1).drew hb2) hb3⟩

end Go.Proofs.YtpnmmigoencbdaaDoor
