/- The walks of the reference's reader of signs. -/
import Derived.Test.YtlgjehdocppofaaDoorSign
namespace Go.Proofs.YtlgjehdocppofaaDoor
open Go Go.RowKit

theorem drop_at (s : ByteArray) (a : Nat) (h : a < s.size) : s.data.toList.drop a = s[a] :: s.data.toList.drop (a + 1) := by
  have h0 : a < s.data.toList.length := by rw [size_list]; exact h
  exact List.drop_eq_getElem_cons h0
theorem oneAt_lead (s : ByteArray) (a : Nat) (h : a < s.size) (n c0 : Nat) (hn : leadN s[a].toNat = n) (hc : leadC s[a].toNat = c0) (h0 : n ≠ 0) : oneB (dropB s a) = fin1 n (contV (n - 1) (s.data.toList.drop (a + 1)) c0) := by
  subst hn hc
  rw [one_drop, drop_at s a h, one_cons, if_neg h0]
theorem oneAt_none (s : ByteArray) (a : Nat) (h : a < s.size) (hn : leadN s[a].toNat = 0) : oneB (dropB s a) = (0, 0) := by
  rw [one_drop, drop_at s a h, one_cons, if_pos hn]
theorem reads_one (W : World) (x : Int) (e : TypeId) : Reads (W.alloc (.cells #[.int .i64 x] e)) (W.alloc (.cells #[.int .i64 x] e)).heap.size 1 (some ⟨W.heap.size, 0, none⟩) 1 (II [x]) := by
  rw [show (W.alloc (.cells #[.int .i64 x] e)).heap.size = W.heap.size + 1 by simp]
  exact reads_new W #[.int .i64 x] e 1 1 rfl
theorem encLen_iff (d n : Nat) (hs : signOk d = true) (h : n = 2 ∧ d < 2048 ∨ n = 3 ∧ d < 65536 ∨ n = 4 ∧ d < 2097152) : (encB [(d : Int)]).size = n ↔ leastN n ≤ d := by
  rw [encB_one, if_pos hs, enc1_len]
  rcases h with ⟨rfl, h⟩ | ⟨rfl, h⟩ | ⟨rfl, h⟩
  · rw [show leastN 2 = 128 from rfl]; (repeat' split) <;> omega
  · rw [show leastN 3 = 2048 from rfl]; (repeat' split) <;> omega
  · rw [show leastN 4 = 65536 from rfl]; (repeat' split) <;> omega
theorem encB_ne (d n : Nat) (h : (encB [(d : Int)]).size ≠ n) : (((encB [(d : Int)]).size : Int) != n) = true := by
  rw [bne_iff_ne]; omega
theorem encB_eq (d n : Nat) (h : (encB [(d : Int)]).size = n) : (((encB [(d : Int)]).size : Int) != n) = false := by
  rw [h]; simp

set_option maxRecDepth 100000 in
set_option maxHeartbeats 2000000 in
theorem l3One_2 (s : ByteArray) (hs : s.size ≤ 1000000000) (a : Nat) (h : a < s.size) (hn : leadN s[a].toNat = 2) (w : World) :
    Calls Tryd.prog 189 #[.string s, .int .i64 a] w fun e w' => e = .returned (.tuple #[.int .i64 (oneB (dropB s a)).1, .int .i64 (oneB (dropB s a)).2]) ∧ Below w.heap.size w w' := by
  have hb := (s[a]'h).toNat_lt
  have hrange : 192 ≤ s[a].toNat ∧ s[a].toNat < 224 := by unfold leadN at hn; (repeat' split at hn) <;> omega
  obtain ⟨hr0, hr1⟩ := hrange
  have Hl := Lib.hid (oneAt_lead s a h 2 (s[a].toNat % 32) hn (by unfold leadC; (repeat' split) <;> omega) (by omega))
  clear hn
  obtain ⟨o, ho⟩ : ∃ o, oneB (dropB s a) = o := ⟨_, rfl⟩
  rw [ho] at Hl ⊢
  clear ho
  have a0 := and_31 (s[a].toNat : Int) (by omega) (by omega)
  go_enter Tryd.func189, Tryd.ntmps189
  by_cases hz : (s.size : Int) < (a : Int) + 2
  · go_wp2
    go_ret2
    exact ⟨ret_two (by rw [Hl.out, contV_short _ _ _ (by rw [List.length_drop, size_list]; omega)]; rfl) (by rw [Hl.out, contV_short _ _ _ (by rw [List.length_drop, size_list]; omega)]; rfl), bel0 w⟩
  · go_wp2
    clear a0
    go_loop [8, 9, 10] (fun c i _ => ∃ (k j d : Nat), k + j = 2 ∧ 1 ≤ k ∧ i = .int .i64 k ∧ c = .int .i64 d ∧ d < 32 * 64 ^ (k - 1) ∧ Hid (o = fin1 2 (contV j (s.data.toList.drop (a + k)) d))) (fun _ i _ => 2 - (intOf i).toNat)
    case atStart => exact ⟨1, 2 - 1, s[a].toNat % 32, by omega, by omega, rfl, rfl, by omega, Hl.out⟩
    case round =>
      obtain ⟨k, j, d, hkj, hk1, rfl, rfl, hd, Ho⟩ := hrel
      have hd9 : d < 8388608 := by
        have h1 : (64 : Nat) ^ (k - 1) ≤ 64 ^ 3 := Nat.pow_le_pow_right (by omega) (by omega)
        have h2 : (64 : Nat) ^ 3 = 262144 := by decide
        omega
      rcases j with _ | j
      · have hlt : ¬ (k : Int) < 2 := by omega
        have ho : o = fin1 2 (some d) := Ho.out
        rcases hsg : signOk d with _ | _
        · have Hf := Lib.hid (ho.trans (fin1_bad _ _ hsg))
          clear ho hd
          go_wp2_with (go_at_call 198; refine (l3Sign_any _ _).mono ?_; rintro e w' ⟨rfl, rfl⟩)
          go_ret2
          exact ⟨ret_two (by rw [Hf.out]; rfl) (by rw [Hf.out]; rfl), bel0 w⟩
        · have hdn : d < 32 * 64 ^ (2 - 1) := by
            obtain rfl : k = 2 := by omega
            exact hd
          have hpow : 32 * 64 ^ (2 - 1) = 2048 := by decide
          rw [hpow] at hdn
          by_cases hle : d < leastN 2
          · have Hf := Lib.hid (ho.trans (fin1_low _ _ hle))
            have he := encB_ne d 2 (fun e => by have := (encLen_iff d 2 hsg (by omega)).1 e; omega)
            clear ho hd hle hdn hpow
            go_wp2_with (first
              | (go_at_call 198; refine (l3Sign_any _ _).mono ?_; rintro e w' ⟨rfl, rfl⟩)
              | (go_at_call 187; go_must (refine (encode_spec _ 1 1 [(d : Int)] rfl (by omega) _ (reads_one _ _ _)).mono ?_); rintro e w1 ⟨rfl, hb1⟩))
            go_ret2
            exact ⟨ret_two (by rw [Hf.out]; rfl) (by rw [Hf.out]; rfl), belN (belA (bel0 w) _) hb1⟩
          · have Hf := Lib.hid (ho.trans (fin1_yes _ _ (by omega) hsg))
            have he := encB_eq d 2 ((encLen_iff d 2 hsg (by omega)).2 (by omega))
            clear ho hd hle hdn hpow
            go_wp2_with (first
              | (go_at_call 198; refine (l3Sign_any _ _).mono ?_; rintro e w' ⟨rfl, rfl⟩)
              | (go_at_call 187; go_must (refine (encode_spec _ 1 1 [(d : Int)] rfl (by omega) _ (reads_one _ _ _)).mono ?_); rintro e w1 ⟨rfl, hb1⟩))
            go_ret2
            exact ⟨ret_two (by rw [Hf.out]) (by rw [Hf.out]; rfl), belN (belA (bel0 w) _) hb1⟩
      · have hks : a + k < s.size := by omega
        have hkb := (s[a + k]'hks).toNat_lt
        have hlt : (k : Int) < 2 := by omega
        have hst := contV_step s (a + k) j d hks
        by_cases hc : 128 ≤ (s[a + k]'hks).toNat ∧ (s[a + k]'hks).toNat < 192
        · have Hf := Lib.hid (Ho.out.trans (by rw [hst, if_pos hc]))
          have a3 := and_63 ((s[a + k]'hks).toNat : Int) (by omega) (by omega)
          obtain ⟨hc1, hc2⟩ := hc
          have Hd := Lib.hid hd
          clear hst hd
          go_wp2_with fail
          go_round
          case rel =>
            refine ⟨k + 1, j, d * 64 + s[a + k].toNat % 64, by omega, by omega, by go_num, by go_num, ?_, Hf.out⟩
            have := Hd.out
            obtain ⟨m, rfl⟩ : ∃ m, k = m + 1 := ⟨k - 1, by omega⟩
            rw [show m + 1 + 1 - 1 = m + 1 from rfl, Nat.pow_succ]
            rw [show m + 1 - 1 = m from rfl] at this
            omega
          case measure => simp [intOf]; omega
        · have Hf := Lib.hid (Ho.out.trans (by rw [hst, if_neg hc]))
          by_cases hc1 : (s[a + k]'hks).toNat < 128
          · clear hst hc hd
            go_wp2_with fail
            go_ret2
            exact ⟨ret_two (by rw [Hf.out]; rfl) (by rw [Hf.out]; rfl), bel0 w⟩
          · have hc2 : 191 < (s[a + k]'hks).toNat := by omega
            clear hst hc hd
            go_wp2_with fail
            go_ret2
            exact ⟨ret_two (by rw [Hf.out]; rfl) (by rw [Hf.out]; rfl), bel0 w⟩

set_option maxRecDepth 100000 in
set_option maxHeartbeats 2000000 in
theorem l3One_3 (s : ByteArray) (hs : s.size ≤ 1000000000) (a : Nat) (h : a < s.size) (hn : leadN s[a].toNat = 3) (w : World) :
    Calls Tryd.prog 189 #[.string s, .int .i64 a] w fun e w' => e = .returned (.tuple #[.int .i64 (oneB (dropB s a)).1, .int .i64 (oneB (dropB s a)).2]) ∧ Below w.heap.size w w' := by
  have hb := (s[a]'h).toNat_lt
  have hrange : 224 ≤ s[a].toNat ∧ s[a].toNat < 240 := by unfold leadN at hn; (repeat' split at hn) <;> omega
  obtain ⟨hr0, hr1⟩ := hrange
  have Hl := Lib.hid (oneAt_lead s a h 3 (s[a].toNat % 16) hn (by unfold leadC; (repeat' split) <;> omega) (by omega))
  clear hn
  obtain ⟨o, ho⟩ : ∃ o, oneB (dropB s a) = o := ⟨_, rfl⟩
  rw [ho] at Hl ⊢
  clear ho
  have a0 := and_15 (s[a].toNat : Int) (by omega) (by omega)
  go_enter Tryd.func189, Tryd.ntmps189
  by_cases hz : (s.size : Int) < (a : Int) + 3
  · go_wp2
    go_ret2
    exact ⟨ret_two (by rw [Hl.out, contV_short _ _ _ (by rw [List.length_drop, size_list]; omega)]; rfl) (by rw [Hl.out, contV_short _ _ _ (by rw [List.length_drop, size_list]; omega)]; rfl), bel0 w⟩
  · go_wp2
    clear a0
    go_loop [8, 9, 10] (fun c i _ => ∃ (k j d : Nat), k + j = 3 ∧ 1 ≤ k ∧ i = .int .i64 k ∧ c = .int .i64 d ∧ d < 16 * 64 ^ (k - 1) ∧ Hid (o = fin1 3 (contV j (s.data.toList.drop (a + k)) d))) (fun _ i _ => 3 - (intOf i).toNat)
    case atStart => exact ⟨1, 3 - 1, s[a].toNat % 16, by omega, by omega, rfl, rfl, by omega, Hl.out⟩
    case round =>
      obtain ⟨k, j, d, hkj, hk1, rfl, rfl, hd, Ho⟩ := hrel
      have hd9 : d < 8388608 := by
        have h1 : (64 : Nat) ^ (k - 1) ≤ 64 ^ 3 := Nat.pow_le_pow_right (by omega) (by omega)
        have h2 : (64 : Nat) ^ 3 = 262144 := by decide
        omega
      rcases j with _ | j
      · have hlt : ¬ (k : Int) < 3 := by omega
        have ho : o = fin1 3 (some d) := Ho.out
        rcases hsg : signOk d with _ | _
        · have Hf := Lib.hid (ho.trans (fin1_bad _ _ hsg))
          clear ho hd
          go_wp2_with (go_at_call 198; refine (l3Sign_any _ _).mono ?_; rintro e w' ⟨rfl, rfl⟩)
          go_ret2
          exact ⟨ret_two (by rw [Hf.out]; rfl) (by rw [Hf.out]; rfl), bel0 w⟩
        · have hdn : d < 16 * 64 ^ (3 - 1) := by
            obtain rfl : k = 3 := by omega
            exact hd
          have hpow : 16 * 64 ^ (3 - 1) = 65536 := by decide
          rw [hpow] at hdn
          by_cases hle : d < leastN 3
          · have Hf := Lib.hid (ho.trans (fin1_low _ _ hle))
            have he := encB_ne d 3 (fun e => by have := (encLen_iff d 3 hsg (by omega)).1 e; omega)
            clear ho hd hle hdn hpow
            go_wp2_with (first
              | (go_at_call 198; refine (l3Sign_any _ _).mono ?_; rintro e w' ⟨rfl, rfl⟩)
              | (go_at_call 187; go_must (refine (encode_spec _ 1 1 [(d : Int)] rfl (by omega) _ (reads_one _ _ _)).mono ?_); rintro e w1 ⟨rfl, hb1⟩))
            go_ret2
            exact ⟨ret_two (by rw [Hf.out]; rfl) (by rw [Hf.out]; rfl), belN (belA (bel0 w) _) hb1⟩
          · have Hf := Lib.hid (ho.trans (fin1_yes _ _ (by omega) hsg))
            have he := encB_eq d 3 ((encLen_iff d 3 hsg (by omega)).2 (by omega))
            clear ho hd hle hdn hpow
            go_wp2_with (first
              | (go_at_call 198; refine (l3Sign_any _ _).mono ?_; rintro e w' ⟨rfl, rfl⟩)
              | (go_at_call 187; go_must (refine (encode_spec _ 1 1 [(d : Int)] rfl (by omega) _ (reads_one _ _ _)).mono ?_); rintro e w1 ⟨rfl, hb1⟩))
            go_ret2
            exact ⟨ret_two (by rw [Hf.out]) (by rw [Hf.out]; rfl), belN (belA (bel0 w) _) hb1⟩
      · have hks : a + k < s.size := by omega
        have hkb := (s[a + k]'hks).toNat_lt
        have hlt : (k : Int) < 3 := by omega
        have hst := contV_step s (a + k) j d hks
        by_cases hc : 128 ≤ (s[a + k]'hks).toNat ∧ (s[a + k]'hks).toNat < 192
        · have Hf := Lib.hid (Ho.out.trans (by rw [hst, if_pos hc]))
          have a3 := and_63 ((s[a + k]'hks).toNat : Int) (by omega) (by omega)
          obtain ⟨hc1, hc2⟩ := hc
          have Hd := Lib.hid hd
          clear hst hd
          go_wp2_with fail
          go_round
          case rel =>
            refine ⟨k + 1, j, d * 64 + s[a + k].toNat % 64, by omega, by omega, by go_num, by go_num, ?_, Hf.out⟩
            have := Hd.out
            obtain ⟨m, rfl⟩ : ∃ m, k = m + 1 := ⟨k - 1, by omega⟩
            rw [show m + 1 + 1 - 1 = m + 1 from rfl, Nat.pow_succ]
            rw [show m + 1 - 1 = m from rfl] at this
            omega
          case measure => simp [intOf]; omega
        · have Hf := Lib.hid (Ho.out.trans (by rw [hst, if_neg hc]))
          by_cases hc1 : (s[a + k]'hks).toNat < 128
          · clear hst hc hd
            go_wp2_with fail
            go_ret2
            exact ⟨ret_two (by rw [Hf.out]; rfl) (by rw [Hf.out]; rfl), bel0 w⟩
          · have hc2 : 191 < (s[a + k]'hks).toNat := by omega
            clear hst hc hd
            go_wp2_with fail
            go_ret2
            exact ⟨ret_two (by rw [Hf.out]; rfl) (by rw [Hf.out]; rfl), bel0 w⟩

set_option maxRecDepth 100000 in
set_option maxHeartbeats 2000000 in
theorem l3One_4 (s : ByteArray) (hs : s.size ≤ 1000000000) (a : Nat) (h : a < s.size) (hn : leadN s[a].toNat = 4) (w : World) :
    Calls Tryd.prog 189 #[.string s, .int .i64 a] w fun e w' => e = .returned (.tuple #[.int .i64 (oneB (dropB s a)).1, .int .i64 (oneB (dropB s a)).2]) ∧ Below w.heap.size w w' := by
  have hb := (s[a]'h).toNat_lt
  have hrange : 240 ≤ s[a].toNat ∧ s[a].toNat < 248 := by unfold leadN at hn; (repeat' split at hn) <;> omega
  obtain ⟨hr0, hr1⟩ := hrange
  have Hl := Lib.hid (oneAt_lead s a h 4 (s[a].toNat % 8) hn (by unfold leadC; (repeat' split) <;> omega) (by omega))
  clear hn
  obtain ⟨o, ho⟩ : ∃ o, oneB (dropB s a) = o := ⟨_, rfl⟩
  rw [ho] at Hl ⊢
  clear ho
  have a0 := and_7 (s[a].toNat : Int) (by omega) (by omega)
  go_enter Tryd.func189, Tryd.ntmps189
  by_cases hz : (s.size : Int) < (a : Int) + 4
  · go_wp2
    go_ret2
    exact ⟨ret_two (by rw [Hl.out, contV_short _ _ _ (by rw [List.length_drop, size_list]; omega)]; rfl) (by rw [Hl.out, contV_short _ _ _ (by rw [List.length_drop, size_list]; omega)]; rfl), bel0 w⟩
  · go_wp2
    clear a0
    go_loop [8, 9, 10] (fun c i _ => ∃ (k j d : Nat), k + j = 4 ∧ 1 ≤ k ∧ i = .int .i64 k ∧ c = .int .i64 d ∧ d < 8 * 64 ^ (k - 1) ∧ Hid (o = fin1 4 (contV j (s.data.toList.drop (a + k)) d))) (fun _ i _ => 4 - (intOf i).toNat)
    case atStart => exact ⟨1, 4 - 1, s[a].toNat % 8, by omega, by omega, rfl, rfl, by omega, Hl.out⟩
    case round =>
      obtain ⟨k, j, d, hkj, hk1, rfl, rfl, hd, Ho⟩ := hrel
      have hd9 : d < 8388608 := by
        have h1 : (64 : Nat) ^ (k - 1) ≤ 64 ^ 3 := Nat.pow_le_pow_right (by omega) (by omega)
        have h2 : (64 : Nat) ^ 3 = 262144 := by decide
        omega
      rcases j with _ | j
      · have hlt : ¬ (k : Int) < 4 := by omega
        have ho : o = fin1 4 (some d) := Ho.out
        rcases hsg : signOk d with _ | _
        · have Hf := Lib.hid (ho.trans (fin1_bad _ _ hsg))
          clear ho hd
          go_wp2_with (go_at_call 198; refine (l3Sign_any _ _).mono ?_; rintro e w' ⟨rfl, rfl⟩)
          go_ret2
          exact ⟨ret_two (by rw [Hf.out]; rfl) (by rw [Hf.out]; rfl), bel0 w⟩
        · have hdn : d < 8 * 64 ^ (4 - 1) := by
            obtain rfl : k = 4 := by omega
            exact hd
          have hpow : 8 * 64 ^ (4 - 1) = 2097152 := by decide
          rw [hpow] at hdn
          by_cases hle : d < leastN 4
          · have Hf := Lib.hid (ho.trans (fin1_low _ _ hle))
            have he := encB_ne d 4 (fun e => by have := (encLen_iff d 4 hsg (by omega)).1 e; omega)
            clear ho hd hle hdn hpow
            go_wp2_with (first
              | (go_at_call 198; refine (l3Sign_any _ _).mono ?_; rintro e w' ⟨rfl, rfl⟩)
              | (go_at_call 187; go_must (refine (encode_spec _ 1 1 [(d : Int)] rfl (by omega) _ (reads_one _ _ _)).mono ?_); rintro e w1 ⟨rfl, hb1⟩))
            go_ret2
            exact ⟨ret_two (by rw [Hf.out]; rfl) (by rw [Hf.out]; rfl), belN (belA (bel0 w) _) hb1⟩
          · have Hf := Lib.hid (ho.trans (fin1_yes _ _ (by omega) hsg))
            have he := encB_eq d 4 ((encLen_iff d 4 hsg (by omega)).2 (by omega))
            clear ho hd hle hdn hpow
            go_wp2_with (first
              | (go_at_call 198; refine (l3Sign_any _ _).mono ?_; rintro e w' ⟨rfl, rfl⟩)
              | (go_at_call 187; go_must (refine (encode_spec _ 1 1 [(d : Int)] rfl (by omega) _ (reads_one _ _ _)).mono ?_); rintro e w1 ⟨rfl, hb1⟩))
            go_ret2
            exact ⟨ret_two (by rw [Hf.out]) (by rw [Hf.out]; rfl), belN (belA (bel0 w) _) hb1⟩
      · have hks : a + k < s.size := by omega
        have hkb := (s[a + k]'hks).toNat_lt
        have hlt : (k : Int) < 4 := by omega
        have hst := contV_step s (a + k) j d hks
        by_cases hc : 128 ≤ (s[a + k]'hks).toNat ∧ (s[a + k]'hks).toNat < 192
        · have Hf := Lib.hid (Ho.out.trans (by rw [hst, if_pos hc]))
          have a3 := and_63 ((s[a + k]'hks).toNat : Int) (by omega) (by omega)
          obtain ⟨hc1, hc2⟩ := hc
          have Hd := Lib.hid hd
          clear hst hd
          go_wp2_with fail
          go_round
          case rel =>
            refine ⟨k + 1, j, d * 64 + s[a + k].toNat % 64, by omega, by omega, by go_num, by go_num, ?_, Hf.out⟩
            have := Hd.out
            obtain ⟨m, rfl⟩ : ∃ m, k = m + 1 := ⟨k - 1, by omega⟩
            rw [show m + 1 + 1 - 1 = m + 1 from rfl, Nat.pow_succ]
            rw [show m + 1 - 1 = m from rfl] at this
            omega
          case measure => simp [intOf]; omega
        · have Hf := Lib.hid (Ho.out.trans (by rw [hst, if_neg hc]))
          by_cases hc1 : (s[a + k]'hks).toNat < 128
          · clear hst hc hd
            go_wp2_with fail
            go_ret2
            exact ⟨ret_two (by rw [Hf.out]; rfl) (by rw [Hf.out]; rfl), bel0 w⟩
          · have hc2 : 191 < (s[a + k]'hks).toNat := by omega
            clear hst hc hd
            go_wp2_with fail
            go_ret2
            exact ⟨ret_two (by rw [Hf.out]; rfl) (by rw [Hf.out]; rfl), bel0 w⟩


set_option maxRecDepth 100000 in
set_option maxHeartbeats 2000000 in
theorem l3One_any (s : ByteArray) (hs : s.size ≤ 1000000000) (a : Nat) (h : a < s.size) (w : World) :
    Calls Tryd.prog 189 #[.string s, .int .i64 a] w fun e w' => e = .returned (.tuple #[.int .i64 (oneB (dropB s a)).1, .int .i64 (oneB (dropB s a)).2]) ∧ Below w.heap.size w w' := by
  have hb := (s[a]'h).toNat_lt
  by_cases h2 : leadN s[a].toNat = 2
  · exact l3One_2 s hs a h h2 w
  by_cases h3 : leadN s[a].toNat = 3
  · exact l3One_3 s hs a h h3 w
  by_cases h4 : leadN s[a].toNat = 4
  · exact l3One_4 s hs a h h4 w
  by_cases h1 : s[a].toNat < 128
  · have Hl := Lib.hid (oneAt_lead s a h 1 s[a].toNat (by unfold leadN; rw [if_pos h1]) (by unfold leadC; rw [if_pos h1]) (by omega))
    have hsg : signOk (s[a].toNat : Int) = true := by unfold signOk; rw [inI_true.2 ⟨by omega, by omega⟩, inI_false.2 (by omega)]; rfl
    have Hl2 := Lib.hid (Hl.out.trans (fin1_yes 1 _ (by simp [leastN]) hsg))
    have he := encB_eq s[a].toNat 1 (by rw [encB_one, if_pos hsg, enc1_len, if_pos (by omega)])
    obtain ⟨o, ho⟩ : ∃ o, oneB (dropB s a) = o := ⟨_, rfl⟩
    rw [ho] at Hl2 ⊢
    clear ho Hl h2 h3 h4
    go_enter Tryd.func189, Tryd.ntmps189
    go_wp2
    refine wp_loop_rounds 1 ?_
    rw [rounds_succ]
    go_wp2_with (first
      | (go_at_call 198; refine (l3Sign_any _ _).mono ?_; rintro e w' ⟨rfl, rfl⟩)
      | (go_at_call 187; go_must (refine (encode_spec _ 1 1 [(s[a].toNat : Int)] rfl (by omega) _ (reads_one _ _ _)).mono ?_); rintro e w1 ⟨rfl, hb1⟩))
    go_ret2
    exact ⟨ret_two (by rw [Hl2.out]) (by rw [Hl2.out]; rfl), belN (belA (bel0 w) _) hb1⟩
  · have h0 : leadN s[a].toNat = 0 := by unfold leadN at *; (repeat' split) <;> simp_all
    have Hl := Lib.hid (oneAt_none s a h h0)
    have hr : ¬ (192 ≤ s[a].toNat ∧ s[a].toNat < 248) := by unfold leadN at h0; (repeat' split at h0) <;> omega
    obtain ⟨o, ho⟩ : ∃ o, oneB (dropB s a) = o := ⟨_, rfl⟩
    rw [ho] at Hl ⊢
    clear h2 h3 h4 h0 ho
    by_cases hr1 : s[a].toNat < 192
    · clear hr
      go_enter Tryd.func189, Tryd.ntmps189
      go_wp2
      go_ret2
      exact ⟨ret_two (by rw [Hl.out]; rfl) (by rw [Hl.out]; rfl), bel0 w⟩
    · have hr2 : 248 ≤ s[a].toNat := by omega
      clear hr
      go_enter Tryd.func189, Tryd.ntmps189
      go_wp2
      go_ret2
      exact ⟨ret_two (by rw [Hl.out]; rfl) (by rw [Hl.out]; rfl), bel0 w⟩

set_option maxRecDepth 100000 in
set_option maxHeartbeats 2000000 in
theorem decode_spec (s : ByteArray) (hs : s.size ≤ 2000000) (w : World) :
    Calls Tryd.prog 162 #[.string s] w (DecPost w 3 (decB s)) := by
  go_enter Tryd.func162, Tryd.ntmps162
  go_wp2
  go_loopw [4, 5] (fun v i wr => ∃ (k : Nat) (xs : List Nat), k ≤ s.size ∧ xs.length ≤ k ∧ i = .int .i64 k ∧ Hid (decB s = preL xs (decL (s.data.toList.drop k))) ∧ wr.ownsRow w.heap.size 3 1 v xs.length (I64 xs) ∧ Below w.heap.size w wr)
    (fun _ i _ => s.size - (intOf i).toNat)
  case atStart => exact ⟨0, [], by omega, by simp, rfl, (preL_nil _).symm, World.ownsRow_lit w #[] 0 (Nat.le_refl _) (by unfold maxLen; omega) rfl, belA (bel0 w) _⟩
  case round =>
    obtain ⟨k, xs, hk, hxk, rfl, heq, hown, hbel⟩ := hrel
    have hsz := hbel.size
    by_cases hlt : k < s.size
    · have hz := dropB_size s k
      have hle := oneB_le (dropB s k)
      have Hd := Lib.hid (one_drop s k)
      obtain ⟨x, j, h⟩ : ∃ x j, oneB (dropB s k) = (x, j) := ⟨_, _, rfl⟩
      rw [h] at hle
      obtain ⟨hx, hj4, hjl⟩ := hle
      simp only at hx hj4 hjl
      have H := Lib.hid h
      by_cases hj : j = 0
      · have hj0 : ((j : Int) == 0) = true := by rw [hj]; rfl
        have Hf := Lib.hid (show decB s = none by rw [heq.out, decL_none xs (drop_ne s k hlt) (by rw [← Hd.out, H.out]; exact hj)])
        clear hj hjl
        go_wp2_with (go_at_call 189; refine (l3One_any s (by omega) k hlt _).mono ?_; rintro e w1 ⟨rfl, hb1⟩)
        go_ret2
        exact ⟨belA (belN hbel hb1) _, .inr ⟨_, Hf.out, rfl, World.ownsRow_lit w1 #[] 0 (belN hbel hb1).size (by unfold maxLen; omega) rfl⟩⟩
      · have hj0 : ((j : Int) == 0) = false := by simp; exact hj
        have Hf := Lib.hid (show decB s = preL (xs ++ [x]) (decL (s.data.toList.drop (k + j))) by rw [heq.out, decL_step xs (drop_ne s k hlt) (by rw [← Hd.out, H.out]; exact hj), ← Hd.out, H.out, List.drop_drop])
        have Hj := Lib.hid hj
        clear hj
        go_wp2_with (first
          | (go_at_call 189; refine (l3One_any s (by omega) k hlt _).mono ?_; rintro e w1 ⟨rfl, hb1⟩; have hown1 := own_below hown hb1 (Nat.le_refl _); have hs1 := hb1.size)
          | (at_builtin; go_must (refine wpList_app _ rfl _ _ _ rfl Tryd.el_int (hown1.alloc _) rfl (reads_new _ _ _ _ 1 (by rfl)) rfl (I64_cells [x]) (max_small (by omega)) (by omega) (by simp; omega) ?_); intro v2 w2 own2 hg2 _ hb2))
        go_roundw
        case rel =>
          have := Hj.out
          exact ⟨k + j, xs ++ [x], by omega, by simp; omega, by go_num, Hf.out, by rw [I64_append, List.length_append]; exact own2, ((hbel.trans (hb1.mono hsz)).alloc (by omega) _).trans hb2⟩
        case measure =>
          have := Hj.out
          simp [intOf]; omega
    · have Hf := Lib.hid (show decB s = some xs by rw [heq.out, show s.data.toList.drop k = [] from List.drop_eq_nil_of_le (by rw [size_list]; omega), decL_end])
      go_wp2
      go_ret2
      exact ⟨hbel, .inl ⟨xs, _, Hf.out, rfl, hown⟩⟩

end Go.Proofs.YtlgjehdocppofaaDoor
