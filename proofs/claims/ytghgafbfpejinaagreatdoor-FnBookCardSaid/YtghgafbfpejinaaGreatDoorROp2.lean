/- Changes of a directory and their texts, in both packages. -/
import Derived.Test.YtghgafbfpejinaaGreatDoorRApart
namespace Go.Proofs.YtghgafbfpejinaaGreatDoor
open Go Go.RowKit

/-- A change is right. -/
def opOkB (k : Int) (s : ByteArray) (i : Int) : Bool := if k = 2 then nameOkB s && i == 0 else inI k 1 3 && nameOkB s && inI i 1 100000

set_option maxRecDepth 100000 in
set_option maxHeartbeats 1000000 in
theorem isId_any (i : Int) (w : World) :
  Calls Tryz.prog 78 #[.int .i64 i] w fun e w' => e = .returned (.bool (inI i 1 100000)) ∧ w = w' := by
 go_enter Tryz.func78, Tryz.ntmps78
 go_wp2_with (go_at_call 55; refine (within_any _ _ _ _).mono ?_; rintro e w' ⟨rfl, rfl⟩)
 go_ret
 exact ⟨rfl, rfl⟩

set_option maxRecDepth 100000 in
set_option maxHeartbeats 2000000 in
theorem opOk_impl (k : Int) (s : ByteArray) (i : Int) (hs : s.size ≤ 2000000) (w : World) (hT : Tab w) :
  Calls Tryz.prog 35 #[.agg #[.int .i64 k, .string s, .int .i64 i]] w fun e w' => e = .returned (.bool (opOkB k s i)) ∧ Below w.heap.size w w' := by
 have HT := Lib.hid hT
 clear hT
 by_cases h2 : k = 2
 ·have Hf := Lib.hid (show opOkB k s i = (nameOkB s && i == 0) by unfold opOkB; rw [if_pos h2])
  have hk : (k == 2) = true := beq_iff_eq.2 h2
  clear h2
  rcases hn : nameOkB s with _ | _
  all_goals
   go_enter Tryz.func35, Tryz.ntmps35
   go_wp2_with (go_at_call 77; refine (nameOk_impl s hs _ (HT.out.al _)).mono ?_; rintro e w1 ⟨rfl, hb1⟩; have c2 := keep1 hb1 (p := ⟨w.heap.size, 2, none⟩) (x := .int .i64 i) (by simp [go_sem]))
   go_ret
   exact ⟨ret_bool (by rw [Hf.out, hn]; simp), belN (belA (bel0 w) _) hb1⟩
 ·have Hf := Lib.hid (show opOkB k s i = (inI k 1 3 && nameOkB s && inI i 1 100000) by unfold opOkB; rw [if_neg h2])
  have hk : (k == 2) = false := beq_eq_false_iff_ne.2 h2
  clear h2
  rcases hi : inI k 1 3 with _ | _
  ·go_enter Tryz.func35, Tryz.ntmps35
   go_wp2_with (go_at_call 55; refine (within_any _ _ _ _).mono ?_; rintro e w' ⟨rfl, rfl⟩)
   go_ret
   exact ⟨ret_bool (by rw [Hf.out, hi]; rfl), belA (bel0 w) _⟩
  ·rcases hn : nameOkB s with _ | _
   all_goals
    go_enter Tryz.func35, Tryz.ntmps35
    go_wp2_with (first
     | (go_at_call 55; refine (within_any _ _ _ _).mono ?_; rintro e w' ⟨rfl, rfl⟩)
     | (go_at_call 78; refine (isId_any _ _).mono ?_; rintro e w' ⟨rfl, rfl⟩)
     | (go_at_call 77; refine (nameOk_impl s hs _ (HT.out.al _)).mono ?_; rintro e w1 ⟨rfl, hb1⟩; have c2 := keep1 hb1 (p := ⟨w.heap.size, 2, none⟩) (x := .int .i64 i) (by simp [go_sem])))
    go_ret
    exact ⟨ret_bool (by rw [Hf.out, hi, hn]; simp), belN (belA (bel0 w) _) hb1⟩

set_option maxRecDepth 100000 in
set_option maxHeartbeats 2000000 in
theorem opOk_spec (k : Int) (s : ByteArray) (i : Int) (hs : s.size ≤ 2000000) (w : World) :
  Calls Tryz.prog 45 #[.agg #[.int .i64 k, .string s, .int .i64 i]] w fun e w' => e = .returned (.bool (opOkB k s i)) ∧ Below w.heap.size w w' := by
 rcases hi : inI k 1 3 with _ | _
 ·have Hf := Lib.hid (show opOkB k s i = false by
   unfold opOkB
   rw [if_neg (fun e => by rw [e] at hi; cases hi), hi]; rfl)
  go_enter Tryz.func45, Tryz.ntmps45
  go_wp2_with (go_at_call 43; refine (l1In_any _ _ _ _).mono ?_; rintro e w' ⟨rfl, rfl⟩)
  go_ret
  exact ⟨ret_bool Hf.out.symm, belA (bel0 w) _⟩
 rcases hn : nameOkB s with _ | _
 ·have Hf := Lib.hid (show opOkB k s i = false by unfold opOkB; rw [hn, hi]; split <;> rfl)
  go_enter Tryz.func45, Tryz.ntmps45
  go_wp2_with (first
   | (go_at_call 43; refine (l1In_any _ _ _ _).mono ?_; rintro e w' ⟨rfl, rfl⟩)
   | (go_at_call 82; refine (nameOk_spec s hs _).mono ?_; rintro e w1 ⟨rfl, hb1⟩))
  go_ret
  exact ⟨ret_bool Hf.out.symm, belN (belA (bel0 w) _) hb1⟩
 by_cases h2 : k = 2
 ·have Hf := Lib.hid (show opOkB k s i = (i == 0) by unfold opOkB; rw [if_pos h2, hn]; rfl)
  have hk : (k == 2) = true := beq_iff_eq.2 h2
  have hk' : (k != 2) = false := by simp [h2]
  clear h2
  rcases h0 : (i == 0) with _ | _
  all_goals
   go_enter Tryz.func45, Tryz.ntmps45
   go_wp2_with (first
    | (go_at_call 43; refine (l1In_any _ _ _ _).mono ?_; rintro e w' ⟨rfl, rfl⟩)
    | (go_at_call 82; refine (nameOk_spec s hs _).mono ?_; rintro e w1 ⟨rfl, hb1⟩; have c0 := keep1 hb1 (p := ⟨w.heap.size, 0, none⟩) (x := .int .i64 k) (by simp [go_sem]); have c2 := keep1 hb1 (p := ⟨w.heap.size, 2, none⟩) (x := .int .i64 i) (by simp [go_sem])))
   go_ret
   exact ⟨ret_bool (by rw [Hf.out, h0]), belN (belA (bel0 w) _) hb1⟩
 ·have Hf := Lib.hid (show opOkB k s i = inI i 1 100000 by unfold opOkB; rw [if_neg h2, hn, hi]; rfl)
  have hk : (k == 2) = false := beq_eq_false_iff_ne.2 h2
  have hk' : (k != 2) = true := bne_iff_ne.2 h2
  clear h2
  go_enter Tryz.func45, Tryz.ntmps45
  go_wp2_with (first
   | (go_at_call 43; refine (l1In_any _ _ _ _).mono ?_; rintro e w' ⟨rfl, rfl⟩)
   | (go_at_call 82; refine (nameOk_spec s hs _).mono ?_; rintro e w1 ⟨rfl, hb1⟩; have c0 := keep1 hb1 (p := ⟨w.heap.size, 0, none⟩) (x := .int .i64 k) (by simp [go_sem]); have c2 := keep1 hb1 (p := ⟨w.heap.size, 2, none⟩) (x := .int .i64 i) (by simp [go_sem])))
  go_ret
  exact ⟨ret_bool (by rw [Hf.out]), belN (belA (bel0 w) _) hb1⟩

/-- A change's text. -/
def showOpB (k : Int) (s : ByteArray) (i : Int) : ByteArray := if opOkB k s i = true then varB k ++ varB i ++ s else str []
theorem opOk_size {k i : Int} {s : ByteArray} (h : opOkB k s i = true) : s.size ≤ 24 := by
 have hn : nameOkB s = true := by
  unfold opOkB at h
  split at h
  ·rw [Bool.and_eq_true] at h; exact h.1
  ·rw [Bool.and_eq_true, Bool.and_eq_true] at h; exact h.1.2
 unfold nameOkB at hn
 split at hn
 ·cases hn
 ·rw [Bool.and_eq_true, Bool.and_eq_true, Bool.and_eq_true] at hn
  have := inI_true.1 hn.1.1.1
  omega

set_option maxRecDepth 100000 in
set_option maxHeartbeats 2000000 in
theorem showOp_impl (k : Int) (s : ByteArray) (i : Int) (hs : s.size ≤ 2000000) (w : World) (hT : Tab w) :
  Calls Tryz.prog 37 #[.agg #[.int .i64 k, .string s, .int .i64 i]] w fun e w' => e = .returned (.string (showOpB k s i)) ∧ Below w.heap.size w w' := by
 have HT := Lib.hid hT
 clear hT
 rcases ho : opOkB k s i with _ | _
 ·have Hf := Lib.hid (show showOpB k s i = str [] by unfold showOpB; rw [ho]; rfl)
  go_enter Tryz.func37, Tryz.ntmps37
  go_wp2_with (go_at_call 35; refine (opOk_impl _ _ _ hs _ (HT.out.al _)).mono ?_; rintro e w1 ⟨rfl, hb1⟩)
  go_ret
  exact ⟨ret_str Hf.out.symm, belN (belA (bel0 w) _) hb1⟩
 ·have Hf := Lib.hid (show showOpB k s i = varB k ++ varB i ++ s by unfold showOpB; rw [if_pos ho])
  have hz := opOk_size ho
  have hk := varB_size k
  have hi := varB_size i
  have n1 : ¬ 9223372036854775807 < (varB k).size + (varB i).size := by omega
  have n2 : ¬ 9223372036854775807 < (varB k).size + (varB i).size + s.size := by omega
  have tok1 : True := trivial
  go_enter Tryz.func37, Tryz.ntmps37
  go_wp2_with fail
  refine (opOk_impl _ _ _ hs _ (HT.out.al _)).mono ?_
  rintro e w1 ⟨rfl, hb1⟩
  have c0 := keep1 hb1 (p := ⟨w.heap.size, 0, none⟩) (x := .int .i64 k) (by simp [go_sem])
  have c1 := keep1 hb1 (p := ⟨w.heap.size, 1, none⟩) (x := .string s) (by simp [go_sem])
  have c2 := keep1 hb1 (p := ⟨w.heap.size, 2, none⟩) (x := .int .i64 i) (by simp [go_sem])
  go_wp2_with fail
  go_region_held3 (fun w' => w'.cell? ⟨w.heap.size, 0, none⟩ = some (.int .i64 k) ∧ w'.cell? ⟨w.heap.size, 1, none⟩ = some (.string s) ∧ w'.cell? ⟨w.heap.size, 2, none⟩ = some (.int .i64 i))
   (first | go_keep | (refine ⟨keep1 hb3 ?_, keep1 hb3 ?_, keep1 hb3 ?_⟩ <;> go_keep) | (refine ⟨keep1 hb2 ?_, keep1 hb2 ?_, keep1 hb2 ?_⟩ <;> go_keep))
   (first
    | (go_at_call 57; have _t := tok1; refine (var_impl k _).mono ?_; rintro e w2 ⟨rfl, hb2⟩; clear tok1)
    | (go_at_call 57; refine (var_impl i _).mono ?_; rintro e w3 ⟨rfl, hb3⟩))
  go_wp2
  go_ret
  exact ⟨ret_str Hf.out.symm, belN (belN (belN (belA (bel0 w) _) hb1).drew hb2) hb3⟩

set_option maxRecDepth 100000 in
set_option maxHeartbeats 2000000 in
theorem showOp_spec (k : Int) (s : ByteArray) (i : Int) (hs : s.size ≤ 2000000) (w : World) :
  Calls Tryz.prog 47 #[.agg #[.int .i64 k, .string s, .int .i64 i]] w fun e w' => e = .returned (.string (showOpB k s i)) ∧ Below w.heap.size w w' := by
 rcases ho : opOkB k s i with _ | _
 ·have Hf := Lib.hid (show showOpB k s i = str [] by unfold showOpB; rw [ho]; rfl)
  go_enter Tryz.func47, Tryz.ntmps47
  go_wp2_with (go_at_call 45; refine (opOk_spec _ _ _ hs _).mono ?_; rintro e w1 ⟨rfl, hb1⟩)
  go_ret
  exact ⟨ret_str Hf.out.symm, belN (belA (bel0 w) _) hb1⟩
 ·have Hf := Lib.hid (show showOpB k s i = varB k ++ varB i ++ s by unfold showOpB; rw [if_pos ho])
  have hz := opOk_size ho
  have hk := varB_size k
  have hi := varB_size i
  have n1 : ¬ 9223372036854775807 < (varB k).size + (varB i).size := by omega
  have n2 : ¬ 9223372036854775807 < (varB k).size + (varB i).size + s.size := by omega
  have tok1 : True := trivial
  go_enter Tryz.func47, Tryz.ntmps47
  go_wp2_with fail
  refine (opOk_spec _ _ _ hs _).mono ?_
  rintro e w1 ⟨rfl, hb1⟩
  have c0 := keep1 hb1 (p := ⟨w.heap.size, 0, none⟩) (x := .int .i64 k) (by simp [go_sem])
  have c1 := keep1 hb1 (p := ⟨w.heap.size, 1, none⟩) (x := .string s) (by simp [go_sem])
  have c2 := keep1 hb1 (p := ⟨w.heap.size, 2, none⟩) (x := .int .i64 i) (by simp [go_sem])
  go_wp2_with fail
  go_region_held3 (fun w' => w'.cell? ⟨w.heap.size, 0, none⟩ = some (.int .i64 k) ∧ w'.cell? ⟨w.heap.size, 1, none⟩ = some (.string s) ∧ w'.cell? ⟨w.heap.size, 2, none⟩ = some (.int .i64 i))
   (first | go_keep | (refine ⟨keep1 hb3 ?_, keep1 hb3 ?_, keep1 hb3 ?_⟩ <;> go_keep) | (refine ⟨keep1 hb2 ?_, keep1 hb2 ?_, keep1 hb2 ?_⟩ <;> go_keep))
   (first
    | (go_at_call 86; have _t := tok1; refine (var_spec k _).mono ?_; rintro e w2 ⟨rfl, hb2⟩; clear tok1)
    | (go_at_call 86; refine (var_spec i _).mono ?_; rintro e w3 ⟨rfl, hb3⟩))
  go_wp2
  go_ret
  exact ⟨ret_str Hf.out.symm, belN (belN (belN (belA (bel0 w) _) hb1).drew hb2) hb3⟩

end Go.Proofs.YtghgafbfpejinaaGreatDoor
