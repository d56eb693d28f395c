/- Changes of a directory: whether they are right, in both packages. -/
import Derived.Test.YtpnmmigoencbdaaDoorApart
namespace Go.Proofs.YtpnmmigoencbdaaDoor
open Go Go.RowKit

/-- A change is right. -/
def opOkB (k : Int) (s : ByteArray) (i : Int) : Bool := if k = 2 then nameOkB s && i == 0 else inI k 1 3 && nameOkB s && inI i 1 100000

set_option maxRecDepth 100000 in
set_option maxHeartbeats 1000000 in
theorem isId_any (i : Int) (w : World) :
    Calls Tryd.prog 27 #[.int .i64 i] w fun e w' => e = .returned (.bool (inI i 1 100000)) ∧ w = w' := by
  go_enter Tryd.func27, Tryd.ntmps27
  go_wp2_with (go_at_call 26; refine (within_any _ _ _ _).mono ?_; rintro e w' ⟨rfl, rfl⟩)
  go_ret
  exact ⟨rfl, rfl⟩

set_option maxRecDepth 100000 in
set_option maxHeartbeats 2000000 in
theorem opOk_impl (k : Int) (s : ByteArray) (i : Int) (hs : s.size ≤ 2000000) (w : World) (hT : Tab w) :
    Calls Tryd.prog 9 #[.agg #[.int .i64 k, .string s, .int .i64 i]] w fun e w' => e = .returned (.bool (opOkB k s i)) ∧ Below w.heap.size w w' := by
  have HT := Lib.hid hT
  clear hT
  by_cases h2 : k = 2
  · have Hf := Lib.hid (show opOkB k s i = (nameOkB s && i == 0) by unfold opOkB; rw [if_pos h2])
    have hk : (k == 2) = true := beq_iff_eq.2 h2
    clear h2
    rcases hn : nameOkB s with _ | _
    all_goals
      go_enter Tryd.func9, Tryd.ntmps9
      go_wp2_with (go_at_call 25; refine (nameOk_impl s hs _ (HT.out.al _)).mono ?_; rintro e w1 ⟨rfl, hb1⟩; have c2 := keep1 hb1 (p := ⟨w.heap.size, 2, none⟩) (x := .int .i64 i) (by simp [go_sem]))
      go_ret
      exact ⟨ret_bool (by rw [Hf.out, hn]; simp), belN (belA (bel0 w) _) hb1⟩
  · have Hf := Lib.hid (show opOkB k s i = (inI k 1 3 && nameOkB s && inI i 1 100000) by unfold opOkB; rw [if_neg h2])
    have hk : (k == 2) = false := beq_eq_false_iff_ne.2 h2
    clear h2
    rcases hi : inI k 1 3 with _ | _
    · go_enter Tryd.func9, Tryd.ntmps9
      go_wp2_with (go_at_call 26; refine (within_any _ _ _ _).mono ?_; rintro e w' ⟨rfl, rfl⟩)
      go_ret
      exact ⟨ret_bool (by rw [Hf.out, hi]; rfl), belA (bel0 w) _⟩
    · rcases hn : nameOkB s with _ | _
      all_goals
        go_enter Tryd.func9, Tryd.ntmps9
        go_wp2_with (first
          | (go_at_call 26; refine (within_any _ _ _ _).mono ?_; rintro e w' ⟨rfl, rfl⟩)
          | (go_at_call 27; refine (isId_any _ _).mono ?_; rintro e w' ⟨rfl, rfl⟩)
          | (go_at_call 25; refine (nameOk_impl s hs _ (HT.out.al _)).mono ?_; rintro e w1 ⟨rfl, hb1⟩; have c2 := keep1 hb1 (p := ⟨w.heap.size, 2, none⟩) (x := .int .i64 i) (by simp [go_sem])))
        go_ret
        exact ⟨ret_bool (by rw [Hf.out, hi, hn]; simp), belN (belA (bel0 w) _) hb1⟩

set_option maxRecDepth 100000 in
set_option maxHeartbeats 2000000 in
theorem opOk_spec (k : Int) (s : ByteArray) (i : Int) (hs : s.size ≤ 2000000) (w : World) :
    Calls Tryd.prog 8 #[.agg #[.int .i64 k, .string s, .int .i64 i]] w fun e w' => e = .returned (.bool (opOkB k s i)) ∧ Below w.heap.size w w' := by
  rcases hi : inI k 1 3 with _ | _
  · have Hf := Lib.hid (show opOkB k s i = false by
      unfold opOkB
      rw [if_neg (fun e => by rw [e] at hi; cases hi), hi]; rfl)
    go_enter Tryd.func8, Tryd.ntmps8
    go_wp2_with (go_at_call 23; refine (l1In_any _ _ _ _).mono ?_; rintro e w' ⟨rfl, rfl⟩)
    go_ret
    exact ⟨ret_bool Hf.out.symm, belA (bel0 w) _⟩
  rcases hn : nameOkB s with _ | _
  · have Hf := Lib.hid (show opOkB k s i = false by unfold opOkB; rw [hn, hi]; split <;> rfl)
    go_enter Tryd.func8, Tryd.ntmps8
    go_wp2_with (first
      | (go_at_call 23; refine (l1In_any _ _ _ _).mono ?_; rintro e w' ⟨rfl, rfl⟩)
      | (go_at_call 24; refine (nameOk_spec s hs _).mono ?_; rintro e w1 ⟨rfl, hb1⟩))
    go_ret
    exact ⟨ret_bool Hf.out.symm, belN (belA (bel0 w) _) hb1⟩
  by_cases h2 : k = 2
  · have Hf := Lib.hid (show opOkB k s i = (i == 0) by unfold opOkB; rw [if_pos h2, hn]; rfl)
    have hk : (k == 2) = true := beq_iff_eq.2 h2
    have hk' : (k != 2) = false := by simp [h2]
    clear h2
    rcases h0 : (i == 0) with _ | _
    all_goals
      go_enter Tryd.func8, Tryd.ntmps8
      go_wp2_with (first
        | (go_at_call 23; refine (l1In_any _ _ _ _).mono ?_; rintro e w' ⟨rfl, rfl⟩)
        | (go_at_call 24; refine (nameOk_spec s hs _).mono ?_; rintro e w1 ⟨rfl, hb1⟩; have c0 := keep1 hb1 (p := ⟨w.heap.size, 0, none⟩) (x := .int .i64 k) (by simp [go_sem]); have c2 := keep1 hb1 (p := ⟨w.heap.size, 2, none⟩) (x := .int .i64 i) (by simp [go_sem])))
      go_ret
      exact ⟨ret_bool (by rw [Hf.out, h0]), belN (belA (bel0 w) _) hb1⟩
  · have Hf := Lib.hid (show opOkB k s i = inI i 1 100000 by unfold opOkB; rw [if_neg h2, hn, hi]; rfl)
    have hk : (k == 2) = false := beq_eq_false_iff_ne.2 h2
    have hk' : (k != 2) = true := bne_iff_ne.2 h2
    clear h2
    go_enter Tryd.func8, Tryd.ntmps8
    go_wp2_with (first
      | (go_at_call 23; refine (l1In_any _ _ _ _).mono ?_; rintro e w' ⟨rfl, rfl⟩)
      | (go_at_call 24; refine (nameOk_spec s hs _).mono ?_; rintro e w1 ⟨rfl, hb1⟩; have c0 := keep1 hb1 (p := ⟨w.heap.size, 0, none⟩) (x := .int .i64 k) (by simp [go_sem]); have c2 := keep1 hb1 (p := ⟨w.heap.size, 2, none⟩) (x := .int .i64 i) (by simp [go_sem])))
    go_ret
    exact ⟨ret_bool (by rw [Hf.out]), belN (belA (bel0 w) _) hb1⟩

/-- What is left of a measure. -/
def szM (left : Int) (n : Nat) : Int := if left - n < 0 then -1 else left - n

theorem szM_ok {left : Int} {n : Nat} (h : ¬ szM left n < 0) : (n : Int) ≤ left := by
  unfold szM at h
  by_cases h' : left - n < 0
  · rw [if_pos h'] at h; omega
  · omega

end Go.Proofs.YtpnmmigoencbdaaDoor
