/- The walks of the functions on numbers: within, l1In, Var, Fixed at four bytes, Crc, in both packages. -/
import Derived.Test.YtlgjehdocppofaaDoorRows
import Derived.Test.YtlgjehdocppofaaDoorPl
import Derived.Deep.DeepMust
namespace Go.Proofs.YtlgjehdocppofaaDoor
open Go Go.RowKit
theorem Tryd.el_u8 : ElemOk Tryd.prog 69 5 (.int .u8 0) 1 1 := ⟨Tryd.underlying69, by kernel_rfl, rfl, by omega⟩

set_option maxHeartbeats 400000 in
theorem within_any (a b c : Int) (w : World) :
    Calls Tryd.prog 88 #[.int .i64 a, .int .i64 b, .int .i64 c] w fun e w' => e = .returned (.bool (inI a b c)) ∧ w = w' := by
  go_enter Tryd.func88, Tryd.ntmps88
  by_cases h1 : b ≤ a <;> by_cases h2 : a ≤ c
  all_goals
    go_wp2
    go_ret
    simp [inI, h1, h2]
set_option maxHeartbeats 400000 in
theorem l1In_any (a b c : Int) (w : World) :
    Calls Tryd.prog 82 #[.int .i64 a, .int .i64 b, .int .i64 c] w fun e w' => e = .returned (.bool (inI a b c)) ∧ w = w' := by
  go_enter Tryd.func82, Tryd.ntmps82
  by_cases h1 : b ≤ a <;> by_cases h2 : a ≤ c
  all_goals
    go_wp2
    go_ret
    simp [inI, h1, h2]

theorem ret_str {a b : ByteArray} (h : a = b) : Ending.returned (.string a) = .returned (.string b) := by rw [h]
theorem ret_int {k : IntKind} {a b : Int} (h : a = b) : Ending.returned (.int k a) = .returned (.int k b) := by rw [h]
theorem varB_no (n : Int) (h : inI n 0 maxVar = false) : varB n = str [] := by unfold varB; rw [h]; rfl
theorem varB_yes (n : Int) (h : inI n 0 maxVar = true) : varB n = str (varL n.toNat) := by unfold varB; rw [h]; rfl
theorem varL_step {n q : Int} {bs : List UInt8} (h : bs ++ varL q.toNat = varL n.toNat) (hq : 127 < q) {b : UInt8} (hb : b = UInt8.ofNat (q.toNat % 128 + 128)) : (bs ++ [b]) ++ varL (q / 128).toNat = varL n.toNat := by
  rw [← h, varL_ge (n := q.toNat) (by omega), hb, List.append_assoc, show (q / 128).toNat = q.toNat / 128 by omega]
  rfl
theorem varL_end {n q : Int} {bs : List UInt8} (h : bs ++ varL q.toNat = varL n.toNat) (hq : q ≤ 127) (h0 : 0 ≤ q) {b : UInt8} (hb : b = UInt8.ofNat q.toNat) : bs ++ [b] = varL n.toNat := by
  rw [← h, varL_lt (n := q.toNat) (by omega), hb]
theorem varL_len_of {n q : Int} {bs : List UInt8} (h : bs ++ varL q.toNat = varL n.toNat) (h7 : (varL n.toNat).length ≤ 7) : bs.length ≤ 6 := by
  have := congrArg List.length h
  have := varL_pos q.toNat
  rw [List.length_append] at *
  omega
theorem max_small {k : Nat} (h : k ≤ 1000000000) : k ≤ maxLen := by unfold maxLen; omega

set_option maxHeartbeats 400000 in
theorem var_impl (n : Int) (w : World) :
    Calls Tryd.prog 98 #[.int .i64 n] w fun e w' => e = .returned (.string (varB n)) ∧ Below w.heap.size w w' := by
  cases hin : inI n 0 maxVar
  · have Hf := Lib.hid (varB_no n hin)
    unfold maxVar at hin
    go_enter Tryd.func98, Tryd.ntmps98
    go_wp2_with (go_at_call 88; refine (within_any _ _ _ _).mono ?_; rintro e w' ⟨rfl, rfl⟩)
    go_ret
    exact ⟨ret_str Hf.out.symm, Below.refl _ _⟩
  · have Hf := Lib.hid (varB_yes n hin)
    obtain ⟨h0, hm⟩ := inI_true.1 hin
    have H7 := Lib.hid (varL_len7 n h0 hm)
    have Hb := Lib.hid (show n < 9223372036854775808 by unfold maxVar at hm; omega)
    clear hm
    unfold maxVar at hin
    go_enter Tryd.func98, Tryd.ntmps98
    go_wp2_with (go_at_call 88; refine (within_any _ _ _ _).mono ?_; rintro e w' ⟨rfl, rfl⟩)
    clear hin
    go_loopw [0, 3] (fun m v wr => ∃ (bs : List UInt8) (q : Int), 0 ≤ q ∧ q < 9223372036854775808 ∧ m = .int .i64 q ∧ Hid (bs ++ varL q.toNat = varL n.toNat) ∧ wr.ownsRow w.heap.size 5 1 v bs.length (B8 bs) ∧ Below w.heap.size w wr) (fun m _ _ => (intOf m).toNat)
    case atStart => exact ⟨[], n, h0, Hb.out, rfl, rfl, World.ownsRow_lit w #[] 0 (Nat.le_refl _) (by unfold maxLen; omega) rfl, (Below.refl _ _).alloc (Nat.le_refl _) _⟩
    case round =>
      obtain ⟨bs, q, h1, h2, rfl, heq, hown, hb⟩ := hrel
      have hl := varL_len_of heq.out H7.out
      have hb0 := hb.size
      by_cases hlt : 127 < q
      · obtain ⟨b, hbv, hbb⟩ := byte_ex (bits .or .i64 (bits .and .i64 q 127) 128 % 256) (q.toNat % 128 + 128) (by rw [and_127 q h1 h2, or_128 _ (by omega) (by omega)]; omega) (by omega)
        go_wp2_with (at_builtin; go_must (refine wpList_app _ rfl _ _ _ rfl Tryd.el_u8 (hown.alloc _) rfl (reads_new _ _ _ _ 1 (by rfl)) rfl (B8_cells [b]) (max_small (by omega)) (by omega) (by simp; omega) ?_); intro v1 w1 own1 hg1 _ hb1)
        go_roundw
        case rel => exact ⟨bs ++ [b], q / 128, by omega, by omega, rfl, varL_step heq.out hlt hbb.out, by rw [B8_append, List.length_append]; exact own1, (hb.alloc (by omega) _).trans hb1⟩
        case measure => simp [intOf]; omega
      · obtain ⟨b, rfl, hbb⟩ := byte_ex q q.toNat (by omega) (by omega)
        go_wp2_with (at_builtin; go_must (refine wpList_app _ rfl _ _ _ rfl Tryd.el_u8 (hown.alloc _) rfl (reads_new _ _ _ _ 1 (by rfl)) rfl (B8_cells [b]) (max_small (by omega)) (by omega) (by simp; omega) ?_); intro v1 w1 own1 hg1 _ hb1; have hcv := run_convert_own Tryd.underlying69 Tryd.underlying5 Tryd.underlying9 (l := bs ++ [b]) (by rw [B8_append]; exact own1))
        go_ret
        exact ⟨ret_str (by rw [Hf.out, varL_end heq.out (by omega) h1 hbb.out]), (hb.alloc (by omega) _).trans hb1⟩
set_option maxHeartbeats 400000 in
theorem var_spec (n : Int) (w : World) :
    Calls Tryd.prog 115 #[.int .i64 n] w fun e w' => e = .returned (.string (varB n)) ∧ Below w.heap.size w w' := by
  cases hin : inI n 0 maxVar
  · have Hf := Lib.hid (varB_no n hin)
    unfold maxVar at hin
    go_enter Tryd.func115, Tryd.ntmps115
    go_wp2_with (go_at_call 82; refine (l1In_any _ _ _ _).mono ?_; rintro e w' ⟨rfl, rfl⟩)
    go_ret
    exact ⟨ret_str Hf.out.symm, Below.refl _ _⟩
  · have Hf := Lib.hid (varB_yes n hin)
    obtain ⟨h0, hm⟩ := inI_true.1 hin
    have H7 := Lib.hid (varL_len7 n h0 hm)
    have Hb := Lib.hid (show n < 9223372036854775808 by unfold maxVar at hm; omega)
    clear hm
    unfold maxVar at hin
    go_enter Tryd.func115, Tryd.ntmps115
    go_wp2_with (go_at_call 82; refine (l1In_any _ _ _ _).mono ?_; rintro e w' ⟨rfl, rfl⟩)
    clear hin
    go_loopw [0, 3] (fun m v wr => ∃ (bs : List UInt8) (q : Int), 0 ≤ q ∧ q < 9223372036854775808 ∧ m = .int .i64 q ∧ Hid (bs ++ varL q.toNat = varL n.toNat) ∧ wr.ownsRow w.heap.size 5 1 v bs.length (B8 bs) ∧ Below w.heap.size w wr) (fun m _ _ => (intOf m).toNat)
    case atStart => exact ⟨[], n, h0, Hb.out, rfl, rfl, World.ownsRow_lit w #[] 0 (Nat.le_refl _) (by unfold maxLen; omega) rfl, (Below.refl _ _).alloc (Nat.le_refl _) _⟩
    case round =>
      obtain ⟨bs, q, h1, h2, rfl, heq, hown, hb⟩ := hrel
      have hl := varL_len_of heq.out H7.out
      have hb0 := hb.size
      by_cases hlt : 128 ≤ q
      · obtain ⟨b, hbv, hbb⟩ := byte_ex (128 + q % 128) (q.toNat % 128 + 128) (by omega) (by omega)
        go_wp2_with (at_builtin; go_must (refine wpList_app _ rfl _ _ _ rfl Tryd.el_u8 (hown.alloc _) rfl (reads_new _ _ _ _ 1 (by rfl)) rfl (B8_cells [b]) (max_small (by omega)) (by omega) (by simp; omega) ?_); intro v1 w1 own1 hg1 _ hb1)
        go_roundw
        case rel => exact ⟨bs ++ [b], q / 128, by omega, by omega, rfl, varL_step heq.out (by omega) hbb.out, by rw [B8_append, List.length_append]; exact own1, (hb.alloc (by omega) _).trans hb1⟩
        case measure => simp [intOf]; omega
      · obtain ⟨b, rfl, hbb⟩ := byte_ex q q.toNat (by omega) (by omega)
        go_wp2_with (at_builtin; go_must (refine wpList_app _ rfl _ _ _ rfl Tryd.el_u8 (hown.alloc _) rfl (reads_new _ _ _ _ 1 (by rfl)) rfl (B8_cells [b]) (max_small (by omega)) (by omega) (by simp; omega) ?_); intro v1 w1 own1 hg1 _ hb1; have hcv := run_convert_own Tryd.underlying69 Tryd.underlying5 Tryd.underlying9 (l := bs ++ [b]) (by rw [B8_append]; exact own1))
        go_ret
        exact ⟨ret_str (by rw [Hf.out, varL_end heq.out (by omega) h1 hbb.out]), (hb.alloc (by omega) _).trans hb1⟩
set_option maxHeartbeats 1000000 in
set_option maxRecDepth 100000 in
theorem fixed_impl (n : Int) (h0 : 0 ≤ n) (h1 : n < 4294967296) (w : World) :
    Calls Tryd.prog 169 #[.int .i64 n, .int .i64 4] w fun e w' => e = .returned (.string (fix4 n)) ∧ Below w.heap.size w w' := by
  have hmk : ∀ w, (Instr.makeSlice 69 (.int .i64 4) (.int .i64 4)).run Tryd.prog w = .ok (.slice (some ⟨w.heap.size, 0, none⟩) 4 4) (w.alloc (.cells #[.int .u8 0, .int .u8 0, .int .u8 0, .int .u8 0] 5)) := fun _ => by kernel_rfl
  have h17 : inI 4 1 7 = true := rfl
  obtain ⟨b0, hb0, e0⟩ := byte_ex (bits .and .i64 n 255 % 256) (n.toNat % 256) (by rw [and_255 _ (by omega) (by omega)]; omega) (by omega)
  obtain ⟨b1, hb1, e1⟩ := byte_ex (bits .and .i64 (n / 256) 255 % 256) (n.toNat / 256 % 256) (by rw [and_255 _ (by omega) (by omega)]; omega) (by omega)
  obtain ⟨b2, hb2, e2⟩ := byte_ex (bits .and .i64 (n / 256 / 256) 255 % 256) (n.toNat / 65536 % 256) (by rw [and_255 _ (by omega) (by omega)]; omega) (by omega)
  obtain ⟨b3, hb3, e3⟩ := byte_ex (bits .and .i64 (n / 256 / 256 / 256) 255 % 256) (n.toNat / 16777216 % 256) (by rw [and_255 _ (by omega) (by omega)]; omega) (by omega)
  have hcv := run_convert_own Tryd.underlying69 Tryd.underlying5 Tryd.underlying9 (l := [b3, b2, b1, b0]) (World.ownsRow_lit (e := 5) (size := 1) w #[.int .u8 b3.toNat, .int .u8 b2.toNat, .int .u8 b1.toNat, .int .u8 b0.toNat] 4 (Nat.le_refl _) (by unfold maxLen; omega) rfl)
  go_enter Tryd.func169, Tryd.ntmps169
  go_wp2_with (go_at_call 88; refine (within_any _ _ _ _).mono ?_; rintro e w' ⟨rfl, rfl⟩)
  refine wp_loop_rounds 5 ?_
  rw [rounds_succ]
  go_wp2
  rw [rounds_succ]
  go_wp2
  rw [rounds_succ]
  go_wp2
  rw [rounds_succ]
  go_wp2
  rw [rounds_succ]
  go_wp2
  go_ret
  exact ⟨ret_str (by rw [fix4, be4, e0.out, e1.out, e2.out, e3.out]), (Below.refl _ _).alloc (Nat.le_refl _) _⟩

theorem conv_lit (b : UInt8) (W : World) (g : Nat) (hg : g = W.heap.size) :
    (convert 69 9 (.slice (some ⟨g, 0, none⟩) 1 1)).run Tryd.prog (W.alloc (.cells #[.int .u8 b.toNat] 5)) = .ok (.string (str [b])) (W.alloc (.cells #[.int .u8 b.toNat] 5)) := by
  subst hg
  exact run_convert_own Tryd.underlying69 Tryd.underlying5 Tryd.underlying9 (l := [b]) (World.ownsRow_lit (e := 5) (size := 1) W #[.int .u8 b.toNat] 1 (Nat.le_refl _) (by unfold maxLen; omega) rfl)

set_option maxHeartbeats 1000000 in
set_option maxRecDepth 100000 in
theorem fixed_spec (n : Int) (h0 : 0 ≤ n) (h1 : n < 4294967296) (w : World) :
    Calls Tryd.prog 117 #[.int .i64 n, .int .i64 4] w fun e w' => e = .returned (.string (fix4 n)) ∧ Below w.heap.size w w' := by
  have h17 : inI 4 1 7 = true := rfl
  obtain ⟨b0, hb0, e0⟩ := byte_ex (n % 256) (n.toNat % 256) (by omega) (by omega)
  obtain ⟨b1, hb1, e1⟩ := byte_ex (n / 256 % 256) (n.toNat / 256 % 256) (by omega) (by omega)
  obtain ⟨b2, hb2, e2⟩ := byte_ex (n / 256 / 256 % 256) (n.toNat / 65536 % 256) (by omega) (by omega)
  obtain ⟨b3, hb3, e3⟩ := byte_ex (n / 256 / 256 / 256 % 256) (n.toNat / 16777216 % 256) (by omega) (by omega)
  have c0 := conv_lit b0
  have c1 := conv_lit b1
  have c2 := conv_lit b2
  have c3 := conv_lit b3
  have z0 : (str [b0]).size = 1 := rfl
  have z1 : (str [b1]).size = 1 := rfl
  have z2 : (str [b2]).size = 1 := rfl
  have z3 : (str [b3]).size = 1 := rfl
  have hz : ¬ 0 < n / 256 / 256 / 256 / 256 := by omega
  go_enter Tryd.func117, Tryd.ntmps117
  go_wp2_with (go_at_call 82; refine (l1In_any _ _ _ _).mono ?_; rintro e w' ⟨rfl, rfl⟩)
  refine wp_loop_rounds 5 ?_
  rw [rounds_succ]
  go_wp2
  rw [rounds_succ]
  go_wp2
  rw [rounds_succ]
  go_wp2
  rw [rounds_succ]
  go_wp2
  rw [rounds_succ]
  go_wp2
  go_ret
  refine ⟨ret_str (bytes_ext ?_), ((((Below.refl _ _).alloc (Nat.le_refl _) _).alloc (by simp) _).alloc (by simp; omega) _).alloc (by simp; omega) _⟩
  simp only [append_list, str_list]
  rw [fix4, be4, e0.out, e1.out, e2.out, e3.out]
  rfl

set_option maxHeartbeats 1000000 in
theorem crc_impl (s : ByteArray) (hs : s.size ≤ 1000000000) (w : World) :
    Calls Tryd.prog 136 #[.string s] w fun e w' => e = .returned (.int .i64 (crcB s)) ∧ w = w' := by
  go_enter Tryd.func136, Tryd.ntmps136
  go_wp2
  go_loop [3, 4] (fun c i => ∃ (k : Nat) (d : Int), k ≤ s.size ∧ 0 ≤ d ∧ d < 4294967296 ∧ i = .int .i64 k ∧ c = .int .i64 d ∧ Hid (d = crcL (s.data.toList.take k))) (fun _ i => s.size - (intOf i).toNat)
  case atStart => exact ⟨0, 4294967295, Nat.zero_le _, by omega, by omega, rfl, rfl, rfl⟩
  case round =>
    obtain ⟨k, d, hk, hd0, hd1, rfl, rfl, hd⟩ := hrel
    by_cases hlt : k < s.size
    · have hb := (s[k]'hlt).toNat_lt
      have hbd := xor_bd d s[k].toNat hd0 hd1 (by omega) (by omega)
      have H2 := Lib.hid (crcL_snoc s k hlt)
      go_wp2
      clear hd0 hd1
      obtain ⟨x0, hx0⟩ : ∃ x0, bits .xor .i64 d (s[k].toNat : Int) = x0 := ⟨_, rfl⟩
      rw [hx0] at hbd ⊢
      have Hx := Lib.hid hx0
      clear hx0
      go_loop [3, 18] (fun c j => ∃ (t : Nat) (d : Int), t ≤ 8 ∧ 0 ≤ d ∧ d < 4294967296 ∧ j = .int .i64 t ∧ c = .int .i64 d ∧ Hid (d = crcIt t x0)) (fun _ j => 8 - (intOf j).toNat)
      case atStart => exact ⟨0, _, by omega, hbd.1, hbd.2, rfl, rfl, rfl⟩
      case round =>
        obtain ⟨t, d', ht, hd0, hd1, rfl, rfl, hd'⟩ := hrel
        clear hbd
        have a1 := and_1 d' hd0 (by omega)
        by_cases ht8 : t < 8
        · have H3 := Lib.hid (crcIt_succ' t x0)
          have H4 := Lib.hid (crcBit_bd d' hd0 hd1)
          rcases (show d' % 2 = 0 ∨ d' % 2 = 1 by omega) with h2 | h2
          · have tst : (bits BinOp.and IntKind.i64 d' 1 == 1) = false := by rw [a1, h2]; rfl
            have H5 := Lib.hid (show crcBit d' = d' / 2 by unfold crcBit; rw [if_neg (by omega)])
            clear a1 h2
            go_wp2
            go_round
            case rel => exact ⟨t + 1, d' / 2, by omega, by omega, by omega, by go_num, rfl, by show _ = _; rw [H3.out, ← hd'.out, H5.out]⟩
            case measure => simp [intOf]; omega
          · have tst : (bits BinOp.and IntKind.i64 d' 1 == 1) = true := by rw [a1, h2]; rfl
            have H5 := Lib.hid (show crcBit d' = bits .xor .i64 (d' / 2) 2197175160 by unfold crcBit; rw [if_pos h2])
            clear a1 h2
            go_wp2
            go_round
            case rel => exact ⟨t + 1, _, by omega, by rw [← H5.out]; exact H4.out.1, by rw [← H5.out]; exact H4.out.2, by go_num, rfl, by show _ = _; rw [H3.out, ← hd'.out, H5.out]⟩
            case measure => simp [intOf]; omega
        · obtain rfl : t = 8 := by omega
          clear a1
          go_wp2
          go_round
          case rel => exact ⟨k + 1, d', by omega, hd0, hd1, by go_num, rfl, by show _ = _; rw [H2.out, ← hd.out, hd'.out, crcByte, Hx.out]⟩
          case measure => simp [intOf]; omega
    · go_wp2
      go_ret
      exact ⟨ret_int (by rw [hd.out, take_all s k (by omega)]; rfl), rfl⟩
set_option maxHeartbeats 1000000 in
theorem crc_spec (s : ByteArray) (hs : s.size ≤ 1000000000) (w : World) :
    Calls Tryd.prog 118 #[.string s] w fun e w' => e = .returned (.int .i64 (crcB s)) ∧ w = w' := by
  go_enter Tryd.func118, Tryd.ntmps118
  go_wp2
  go_loop [3, 4] (fun c i => ∃ (k : Nat) (d : Int), k ≤ s.size ∧ 0 ≤ d ∧ d < 4294967296 ∧ i = .int .i64 k ∧ c = .int .i64 d ∧ Hid (d = crcL (s.data.toList.take k))) (fun _ i => s.size - (intOf i).toNat)
  case atStart => exact ⟨0, 4294967295, Nat.zero_le _, by omega, by omega, rfl, rfl, rfl⟩
  case round =>
    obtain ⟨k, d, hk, hd0, hd1, rfl, rfl, hd⟩ := hrel
    by_cases hlt : k < s.size
    · have hb := (s[k]'hlt).toNat_lt
      have hbd := xor_bd d s[k].toNat hd0 hd1 (by omega) (by omega)
      have H2 := Lib.hid (crcL_snoc s k hlt)
      go_wp2
      clear hd0 hd1
      obtain ⟨x0, hx0⟩ : ∃ x0, bits .xor .i64 d (s[k].toNat : Int) = x0 := ⟨_, rfl⟩
      rw [hx0] at hbd ⊢
      have Hx := Lib.hid hx0
      clear hx0
      go_loop [3, 5] (fun c j => ∃ (t : Nat) (d : Int), t ≤ 8 ∧ 0 ≤ d ∧ d < 4294967296 ∧ j = .int .i64 t ∧ c = .int .i64 d ∧ Hid (d = crcIt t x0)) (fun _ j => 8 - (intOf j).toNat)
      case atStart => exact ⟨0, _, by omega, hbd.1, hbd.2, rfl, rfl, rfl⟩
      case round =>
        obtain ⟨t, d', ht, hd0, hd1, rfl, rfl, hd'⟩ := hrel
        clear hbd
        by_cases ht8 : t < 8
        · have H3 := Lib.hid (crcIt_succ' t x0)
          have H4 := Lib.hid (crcBit_bd d' hd0 hd1)
          rcases (show d' % 2 = 0 ∨ d' % 2 = 1 by omega) with h2 | h2
          · have tst : (d' % 2 == 1) = false := by rw [h2]; rfl
            have H5 := Lib.hid (show crcBit d' = d' / 2 by unfold crcBit; rw [if_neg (by omega)])
            clear h2
            go_wp2
            go_round
            case rel => exact ⟨t + 1, d' / 2, by omega, by omega, by omega, by go_num, rfl, by show _ = _; rw [H3.out, ← hd'.out, H5.out]⟩
            case measure => simp [intOf]; omega
          · have tst : (d' % 2 == 1) = true := by rw [h2]; rfl
            have H5 := Lib.hid (show crcBit d' = bits .xor .i64 (d' / 2) 2197175160 by unfold crcBit; rw [if_pos h2])
            clear h2
            go_wp2
            go_round
            case rel => exact ⟨t + 1, _, by omega, by rw [← H5.out]; exact H4.out.1, by rw [← H5.out]; exact H4.out.2, by go_num, rfl, by show _ = _; rw [H3.out, ← hd'.out, H5.out]⟩
            case measure => simp [intOf]; omega
        · obtain rfl : t = 8 := by omega
          go_wp2
          go_round
          case rel => exact ⟨k + 1, d', by omega, hd0, hd1, by go_num, rfl, by show _ = _; rw [H2.out, ← hd.out, hd'.out, crcByte, Hx.out]⟩
          case measure => simp [intOf]; omega
    · go_wp2
      go_ret
      exact ⟨ret_int (by rw [hd.out, take_all s k (by omega)]; rfl), rfl⟩

end Go.Proofs.YtlgjehdocppofaaDoor
