/- The walks of the functions on numbers: within, l1In, Var, Fixed at four bytes, Crc, in both packages. -/
import Derived.Test.YtdijbgdbpkeghaaDoorRows
import Derived.Test.YtdijbgdbpkeghaaDoorPl
import Derived.Deep.DeepMust
namespace Go.Proofs.YtdijbgdbpkeghaaDoor
open Go Go.RowKit
theorem Tryd.el_u8 : ElemOk Tryd.prog 52 5 (.int .u8 0) 1 1 := ⟨Tryd.underlying52, by kernel_rfl, rfl, by omega⟩

set_option maxHeartbeats 400000 in
theorem within_any (a b c : Int) (w : World) :
    Calls Tryd.prog 24 #[.int .i64 a, .int .i64 b, .int .i64 c] w fun e w' => e = .returned (.bool (inI a b c)) ∧ w = w' := by
  go_enter Tryd.func24, Tryd.ntmps24
  by_cases h1 : b ≤ a <;> by_cases h2 : a ≤ c
  all_goals
    go_wp2
    go_ret
    simp [inI, h1, h2]
set_option maxHeartbeats 400000 in
theorem l1In_any (a b c : Int) (w : World) :
    Calls Tryd.prog 21 #[.int .i64 a, .int .i64 b, .int .i64 c] w fun e w' => e = .returned (.bool (inI a b c)) ∧ w = w' := by
  go_enter Tryd.func21, Tryd.ntmps21
  by_cases h1 : b ≤ a <;> by_cases h2 : a ≤ c
  all_goals
    go_wp2
    go_ret
    simp [inI, h1, h2]

theorem ret_str {a b : ByteArray} (h : a = b) : Ending.returned (.string a) = .returned (.string b) := by rw [h]
theorem ret_int {k : IntKind} {a b : Int} (h : a = b) : Ending.returned (.int k a) = .returned (.int k b) := by rw [h]
theorem varB_no (n : Int) (h : inI n 0 maxVar = false) : varB n = str [] := by unfold varB; rw [h]; rfl
theorem varB_yes (n : Int) (h : inI n 0 maxVar = true) : varB n = str (varL n.toNat) := by unfold varB; rw [h]; rfl
theorem varL_step {n q : Int} {bs : List UInt8} (h : bs ++ varL q.toNat = varL n.toNat) (hq : 127 < q) {b : UInt8} (hb : b = UInt8.ofNat (q.toNat % 128 + 128)) : (bs ++ [b]) ++ varL (q / 128).toNat = varL n.toNat := by
  rw [← h, varL_ge (n := q.toNat) (by omega), hb, List.append_assoc, show (q / 128).toNat = q.toNat / 128 by omega]
  rfl
theorem varL_end {n q : Int} {bs : List UInt8} (h : bs ++ varL q.toNat = varL n.toNat) (hq : q ≤ 127) (h0 : 0 ≤ q) {b : UInt8} (hb : b = UInt8.ofNat q.toNat) : bs ++ [b] = varL n.toNat := by
  rw [← h, varL_lt (n := q.toNat) (by omega), hb]
theorem varL_len_of {n q : Int} {bs : List UInt8} (h : bs ++ varL q.toNat = varL n.toNat) (h7 : (varL n.toNat).length ≤ 7) : bs.length ≤ 6 := by
  have := congrArg List.length h
  have := varL_pos q.toNat
  rw [List.length_append] at *
  omega
theorem max_small {k : Nat} (h : k ≤ 1000000000) : k ≤ maxLen := by unfold maxLen; omega

set_option maxHeartbeats 400000 in
theorem var_impl (n : Int) (w : World) :
    Calls Tryd.prog 27 #[.int .i64 n] w fun e w' => e = .returned (.string (varB n)) ∧ Below w.heap.size w w' := by
  cases hin : inI n 0 maxVar
  · have Hf := Lib.hid (varB_no n hin)
    unfold maxVar at hin
    go_enter Tryd.func27, Tryd.ntmps27
    go_wp2_with (go_at_call 24; refine (within_any _ _ _ _).mono ?_; rintro e w' ⟨rfl, rfl⟩)
    go_ret
    exact ⟨ret_str Hf.out.symm, Below.refl _ _⟩
  · have Hf := Lib.hid (varB_yes n hin)
    obtain ⟨h0, hm⟩ := inI_true.1 hin
    have H7 := Lib.hid (varL_len7 n h0 hm)
    have Hb := Lib.hid (show n < 9223372036854775808 by unfold maxVar at hm; omega)
    clear hm
    unfold maxVar at hin
    go_enter Tryd.func27, Tryd.ntmps27
    go_wp2_with (go_at_call 24; refine (within_any _ _ _ _).mono ?_; rintro e w' ⟨rfl, rfl⟩)
    clear hin
    go_loopw [0, 3] (fun m v wr => ∃ (bs : List UInt8) (q : Int), 0 ≤ q ∧ q < 9223372036854775808 ∧ m = .int .i64 q ∧ Hid (bs ++ varL q.toNat = varL n.toNat) ∧ wr.ownsRow w.heap.size 5 1 v bs.length (B8 bs) ∧ Below w.heap.size w wr) (fun m _ _ => (intOf m).toNat)
    case atStart => exact ⟨[], n, h0, Hb.out, rfl, rfl, World.ownsRow_lit w #[] 0 (Nat.le_refl _) (by unfold maxLen; omega) rfl, (Below.refl _ _).alloc (Nat.le_refl _) _⟩
    case round =>
      obtain ⟨bs, q, h1, h2, rfl, heq, hown, hb⟩ := hrel
      have hl := varL_len_of heq.out H7.out
      have hb0 := hb.size
      by_cases hlt : 127 < q
      · obtain ⟨b, hbv, hbb⟩ := byte_ex (bits .or .i64 (bits .and .i64 q 127) 128 % 256) (q.toNat % 128 + 128) (by rw [and_127 q h1 h2, or_128 _ (by omega) (by omega)]; omega) (by omega)
        go_wp2_with (at_builtin; go_must (refine wpList_app _ rfl _ _ _ rfl Tryd.el_u8 (hown.alloc _) rfl (reads_new _ _ _ _ 1 (by rfl)) rfl (B8_cells [b]) (max_small (by omega)) (by omega) (by simp; omega) ?_); intro v1 w1 own1 hg1 _ hb1)
        go_roundw
        case rel => exact ⟨bs ++ [b], q / 128, by omega, by omega, rfl, varL_step heq.out hlt hbb.out, by rw [B8_append, List.length_append]; exact own1, (hb.alloc (by omega) _).trans hb1⟩
        case measure => simp [intOf]; omega
      · obtain ⟨b, rfl, hbb⟩ := byte_ex q q.toNat (by omega) (by omega)
        go_wp2_with (at_builtin; go_must (refine wpList_app _ rfl _ _ _ rfl Tryd.el_u8 (hown.alloc _) rfl (reads_new _ _ _ _ 1 (by rfl)) rfl (B8_cells [b]) (max_small (by omega)) (by omega) (by simp; omega) ?_); intro v1 w1 own1 hg1 _ hb1; have hcv := run_convert_own Tryd.underlying52 Tryd.underlying5 Tryd.underlying9 (l := bs ++ [b]) (by rw [B8_append]; exact own1))
        go_ret
        exact ⟨ret_str (by rw [Hf.out, varL_end heq.out (by omega) h1 hbb.out]), (hb.alloc (by omega) _).trans hb1⟩
set_option maxHeartbeats 400000 in
theorem var_spec (n : Int) (w : World) :
    Calls Tryd.prog 26 #[.int .i64 n] w fun e w' => e = .returned (.string (varB n)) ∧ Below w.heap.size w w' := by
  cases hin : inI n 0 maxVar
  · have Hf := Lib.hid (varB_no n hin)
    unfold maxVar at hin
    go_enter Tryd.func26, Tryd.ntmps26
    go_wp2_with (go_at_call 21; refine (l1In_any _ _ _ _).mono ?_; rintro e w' ⟨rfl, rfl⟩)
    go_ret
    exact ⟨ret_str Hf.out.symm, Below.refl _ _⟩
  · have Hf := Lib.hid (varB_yes n hin)
    obtain ⟨h0, hm⟩ := inI_true.1 hin
    have H7 := Lib.hid (varL_len7 n h0 hm)
    have Hb := Lib.hid (show n < 9223372036854775808 by unfold maxVar at hm; omega)
    clear hm
    unfold maxVar at hin
    go_enter Tryd.func26, Tryd.ntmps26
    go_wp2_with (go_at_call 21; refine (l1In_any _ _ _ _).mono ?_; rintro e w' ⟨rfl, rfl⟩)
    clear hin
    go_loopw [0, 3] (fun m v wr => ∃ (bs : List UInt8) (q : Int), 0 ≤ q ∧ q < 9223372036854775808 ∧ m = .int .i64 q ∧ Hid (bs ++ varL q.toNat = varL n.toNat) ∧ wr.ownsRow w.heap.size 5 1 v bs.length (B8 bs) ∧ Below w.heap.size w wr) (fun m _ _ => (intOf m).toNat)
    case atStart => exact ⟨[], n, h0, Hb.out, rfl, rfl, World.ownsRow_lit w #[] 0 (Nat.le_refl _) (by unfold maxLen; omega) rfl, (Below.refl _ _).alloc (Nat.le_refl _) _⟩
    case round =>
      obtain ⟨bs, q, h1, h2, rfl, heq, hown, hb⟩ := hrel
      have hl := varL_len_of heq.out H7.out
      have hb0 := hb.size
      by_cases hlt : 128 ≤ q
      · obtain ⟨b, hbv, hbb⟩ := byte_ex (128 + q % 128) (q.toNat % 128 + 128) (by omega) (by omega)
        go_wp2_with (at_builtin; go_must (refine wpList_app _ rfl _ _ _ rfl Tryd.el_u8 (hown.alloc _) rfl (reads_new _ _ _ _ 1 (by rfl)) rfl (B8_cells [b]) (max_small (by omega)) (by omega) (by simp; omega) ?_); intro v1 w1 own1 hg1 _ hb1)
        go_roundw
        case rel => exact ⟨bs ++ [b], q / 128, by omega, by omega, rfl, varL_step heq.out (by omega) hbb.out, by rw [B8_append, List.length_append]; exact own1, (hb.alloc (by omega) _).trans hb1⟩
        case measure => simp [intOf]; omega
      · obtain ⟨b, rfl, hbb⟩ := byte_ex q q.toNat (by omega) (by omega)
        go_wp2_with (at_builtin; go_must (refine wpList_app _ rfl _ _ _ rfl Tryd.el_u8 (hown.alloc _) rfl (reads_new _ _ _ _ 1 (by rfl)) rfl (B8_cells [b]) (max_small (by omega)) (by omega) (by simp; omega) ?_); intro v1 w1 own1 hg1 _ hb1; have hcv := run_convert_own Tryd.underlying52 Tryd.underlying5 Tryd.underlying9 (l := bs ++ [b]) (by rw [B8_append]; exact own1))
        go_ret
        exact ⟨ret_str (by rw [Hf.out, varL_end heq.out (by omega) h1 hbb.out]), (hb.alloc (by omega) _).trans hb1⟩
theorem conv_lit (b : UInt8) (W : World) (g : Nat) (hg : g = W.heap.size) :
    (convert 52 9 (.slice (some ⟨g, 0, none⟩) 1 1)).run Tryd.prog (W.alloc (.cells #[.int .u8 b.toNat] 5)) = .ok (.string (str [b])) (W.alloc (.cells #[.int .u8 b.toNat] 5)) := by
  subst hg
  exact run_convert_own Tryd.underlying52 Tryd.underlying5 Tryd.underlying9 (l := [b]) (World.ownsRow_lit (e := 5) (size := 1) W #[.int .u8 b.toNat] 1 (Nat.le_refl _) (by unfold maxLen; omega) rfl)

end Go.Proofs.YtdijbgdbpkeghaaDoor
