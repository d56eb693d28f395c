/- The walks of the functions on signs. -/
import Derived.Test.YtlgjehdocppofaaDoorPl3
namespace Go.Proofs.YtlgjehdocppofaaDoor
open Go Go.RowKit

set_option maxRecDepth 100000 in
set_option maxHeartbeats 1000000 in
theorem isSign_any (c : Int) (w : World) :
    Calls Tryd.prog 194 #[.int .i64 c] w fun e w' => e = .returned (.bool (signOk c)) ∧ w = w' := by
  cases h1 : inI c 0 1114111 <;> cases h2 : inI c 55296 57343
  all_goals
    have Hs := Lib.hid (show signOk c = _ by unfold signOk; rw [h1, h2])
    go_enter Tryd.func194, Tryd.ntmps194
    go_wp2_with (go_at_call 88; refine (within_any _ _ _ _).mono ?_; rintro e w' ⟨rfl, rfl⟩)
    go_ret
    exact ⟨by rw [Hs.out]; rfl, rfl⟩

set_option maxRecDepth 100000 in
set_option maxHeartbeats 1000000 in
theorem l3Sign_any (c : Int) (w : World) :
    Calls Tryd.prog 198 #[.int .i64 c] w fun e w' => e = .returned (.bool (signOk c)) ∧ w = w' := by
  cases h1 : inI c 0 1114111 <;> cases h2 : inI c 55296 57343
  all_goals
    have Hs := Lib.hid (show signOk c = _ by unfold signOk; rw [h1, h2])
    go_enter Tryd.func198, Tryd.ntmps198
    go_wp2_with (go_at_call 82; refine (l1In_any _ _ _ _).mono ?_; rintro e w' ⟨rfl, rfl⟩)
    go_ret
    exact ⟨by rw [Hs.out]; rfl, rfl⟩

set_option maxRecDepth 100000 in
set_option maxHeartbeats 1000000 in
theorem least_any (n : Nat) (h : n = 2 ∨ n = 3 ∨ n = 4) (w : World) :
    Calls Tryd.prog 200 #[.int .i64 n] w fun e w' => e = .returned (.int .i64 (leastN n)) ∧ Below w.heap.size w w' := by
  rcases h with rfl | rfl | rfl
  all_goals
    go_enter Tryd.func200, Tryd.ntmps200
    go_wp2
    go_ret
    exact ⟨rfl, belA (bel0 w) _⟩

set_option maxRecDepth 100000 in
set_option maxHeartbeats 2000000 in
theorem signAt_2 (s : ByteArray) (hs : s.size ≤ 1000000000) (h : 0 < s.size) (hn : leadN s[0].toNat = 2) (w : World) :
    Calls Tryd.prog 190 #[.string s] w fun e w' => e = .returned (.tuple #[.int .i64 (oneB s).1, .int .i64 (oneB s).2]) ∧ Below w.heap.size w w' := by
  have hb := (s[0]'h).toNat_lt
  have hrange : 192 ≤ s[0].toNat ∧ s[0].toNat < 224 := by unfold leadN at hn; (repeat' split at hn) <;> omega
  obtain ⟨hr0, hr1⟩ := hrange
  have Hl := Lib.hid (oneB_lead s h 2 (s[0].toNat % 32) hn (by unfold leadC; (repeat' split) <;> omega) (by omega))
  clear hn
  have i1 : inI (s[0].toNat : Int) 192 223 = true := inI_true.2 ⟨by omega, by omega⟩
  have a0 := and_31 (s[0].toNat : Int) (by omega) (by omega)
  go_enter Tryd.func190, Tryd.ntmps190
  by_cases hz : (s.size : Int) < 2
  · go_wp2_with (go_at_call 88; refine (within_any _ _ _ _).mono ?_; rintro e w' ⟨rfl, rfl⟩)
    go_ret2
    exact ⟨ret_two (by rw [Hl.out, contV_short _ _ _ (by rw [List.length_drop, size_list]; omega)]; rfl) (by rw [Hl.out, contV_short _ _ _ (by rw [List.length_drop, size_list]; omega)]; rfl), bel0 w⟩
  · go_wp2_with (go_at_call 88; refine (within_any _ _ _ _).mono ?_; rintro e w' ⟨rfl, rfl⟩)
    clear i1 a0
    go_loop [6, 7] (fun c i => ∃ (k j d : Nat), k + j = 2 ∧ 1 ≤ k ∧ i = .int .i64 k ∧ c = .int .i64 d ∧ d < 32 * 64 ^ (k - 1) ∧ Hid (oneB s = fin1 2 (contV j (s.data.toList.drop k) d))) (fun _ i => 2 - (intOf i).toNat)
    case atStart => exact ⟨1, 2 - 1, s[0].toNat % 32, by omega, by omega, rfl, rfl, by omega, Hl.out⟩
    case round =>
      obtain ⟨k, j, d, hkj, hk1, rfl, rfl, hd, Ho⟩ := hrel
      have hd9 : d < 8388608 := by
        have h1 : (64 : Nat) ^ (k - 1) ≤ 64 ^ 3 := Nat.pow_le_pow_right (by omega) (by omega)
        have h2 : (64 : Nat) ^ 3 = 262144 := by decide
        omega
      rcases j with _ | j
      · have hlt : ¬ (k : Int) < 2 := by omega
        have ho : oneB s = fin1 2 (some d) := Ho.out
        by_cases hle : d < leastN 2
        · have Hf := Lib.hid (ho.trans (fin1_low _ _ hle))
          have hle' : (d : Int) < (leastN 2 : Int) := by omega
          clear ho hd hle
          go_wp2_with (go_at_call 200; refine (least_any 2 (by omega) _).mono ?_; rintro e w1 ⟨rfl, hb1⟩)
          go_ret2
          exact ⟨ret_two (by rw [Hf.out]; rfl) (by rw [Hf.out]; rfl), hb1⟩
        · have hle' : ¬ (d : Int) < (leastN 2 : Int) := by omega
          rcases hsg : signOk d with _ | _
          · have Hf := Lib.hid (ho.trans (fin1_bad _ _ hsg))
            clear ho hd hle
            go_wp2_with (first
              | (go_at_call 200; refine (least_any 2 (by omega) _).mono ?_; rintro e w1 ⟨rfl, hb1⟩)
              | (go_at_call 194; refine (isSign_any _ _).mono ?_; rintro e w' ⟨rfl, rfl⟩))
            go_ret2
            exact ⟨ret_two (by rw [Hf.out]; rfl) (by rw [Hf.out]; rfl), hb1⟩
          · have Hf := Lib.hid (ho.trans (fin1_yes _ _ (by omega) hsg))
            clear ho hd hle
            go_wp2_with (first
              | (go_at_call 200; refine (least_any 2 (by omega) _).mono ?_; rintro e w1 ⟨rfl, hb1⟩)
              | (go_at_call 194; refine (isSign_any _ _).mono ?_; rintro e w' ⟨rfl, rfl⟩))
            go_ret2
            exact ⟨ret_two (by rw [Hf.out]) (by rw [Hf.out]; rfl), hb1⟩
      · have hks : k < s.size := by omega
        have hkb := (s[k]'hks).toNat_lt
        have hlt : (k : Int) < 2 := by omega
        have hst := contV_step s k j d hks
        have a1 := and8_192 (s[k]'hks)
        by_cases hc : 128 ≤ (s[k]'hks).toNat ∧ (s[k]'hks).toNat < 192
        · have Hf := Lib.hid (Ho.out.trans (by rw [hst, if_pos hc]))
          have a2 : (bits .and .u8 ((s[k]'hks).toNat : Int) 192 == 128) = true := by rw [a1]; simpa using hc
          have a3 := and8_63 (s[k]'hks)
          have a4 := or_add64 d ((s[k]'hks).toNat % 64) (by omega) (by omega) (by omega) (by omega)
          have Hd := Lib.hid hd
          clear hst a1 hc hd
          go_wp2_with fail
          go_round
          case rel =>
            refine ⟨k + 1, j, d * 64 + s[k].toNat % 64, by omega, by omega, by go_num, by go_num, ?_, Hf.out⟩
            have := Hd.out
            obtain ⟨m, rfl⟩ : ∃ m, k = m + 1 := ⟨k - 1, by omega⟩
            rw [show m + 1 + 1 - 1 = m + 1 from rfl, Nat.pow_succ]
            rw [show m + 1 - 1 = m from rfl] at this
            omega
          case measure => simp [intOf]; omega
        · have Hf := Lib.hid (Ho.out.trans (by rw [hst, if_neg hc]))
          have a2 : (bits .and .u8 ((s[k]'hks).toNat : Int) 192 == 128) = false := by rw [a1]; simpa using hc
          clear hst a1 hc hd
          go_wp2_with fail
          go_ret2
          exact ⟨ret_two (by rw [Hf.out]; rfl) (by rw [Hf.out]; rfl), bel0 w⟩

set_option maxRecDepth 100000 in
set_option maxHeartbeats 2000000 in
theorem signAt_3 (s : ByteArray) (hs : s.size ≤ 1000000000) (h : 0 < s.size) (hn : leadN s[0].toNat = 3) (w : World) :
    Calls Tryd.prog 190 #[.string s] w fun e w' => e = .returned (.tuple #[.int .i64 (oneB s).1, .int .i64 (oneB s).2]) ∧ Below w.heap.size w w' := by
  have hb := (s[0]'h).toNat_lt
  have hrange : 224 ≤ s[0].toNat ∧ s[0].toNat < 240 := by unfold leadN at hn; (repeat' split at hn) <;> omega
  obtain ⟨hr0, hr1⟩ := hrange
  have Hl := Lib.hid (oneB_lead s h 3 (s[0].toNat % 16) hn (by unfold leadC; (repeat' split) <;> omega) (by omega))
  clear hn
  have i1 : inI (s[0].toNat : Int) 192 223 = false := inI_false.2 (by omega)
  have i2 : inI (s[0].toNat : Int) 224 239 = true := inI_true.2 ⟨by omega, by omega⟩
  have a0 := and_15 (s[0].toNat : Int) (by omega) (by omega)
  go_enter Tryd.func190, Tryd.ntmps190
  by_cases hz : (s.size : Int) < 3
  · go_wp2_with (go_at_call 88; refine (within_any _ _ _ _).mono ?_; rintro e w' ⟨rfl, rfl⟩)
    go_ret2
    exact ⟨ret_two (by rw [Hl.out, contV_short _ _ _ (by rw [List.length_drop, size_list]; omega)]; rfl) (by rw [Hl.out, contV_short _ _ _ (by rw [List.length_drop, size_list]; omega)]; rfl), bel0 w⟩
  · go_wp2_with (go_at_call 88; refine (within_any _ _ _ _).mono ?_; rintro e w' ⟨rfl, rfl⟩)
    clear i1 i2 a0
    go_loop [6, 7] (fun c i => ∃ (k j d : Nat), k + j = 3 ∧ 1 ≤ k ∧ i = .int .i64 k ∧ c = .int .i64 d ∧ d < 32 * 64 ^ (k - 1) ∧ Hid (oneB s = fin1 3 (contV j (s.data.toList.drop k) d))) (fun _ i => 3 - (intOf i).toNat)
    case atStart => exact ⟨1, 3 - 1, s[0].toNat % 16, by omega, by omega, rfl, rfl, by omega, Hl.out⟩
    case round =>
      obtain ⟨k, j, d, hkj, hk1, rfl, rfl, hd, Ho⟩ := hrel
      have hd9 : d < 8388608 := by
        have h1 : (64 : Nat) ^ (k - 1) ≤ 64 ^ 3 := Nat.pow_le_pow_right (by omega) (by omega)
        have h2 : (64 : Nat) ^ 3 = 262144 := by decide
        omega
      rcases j with _ | j
      · have hlt : ¬ (k : Int) < 3 := by omega
        have ho : oneB s = fin1 3 (some d) := Ho.out
        by_cases hle : d < leastN 3
        · have Hf := Lib.hid (ho.trans (fin1_low _ _ hle))
          have hle' : (d : Int) < (leastN 3 : Int) := by omega
          clear ho hd hle
          go_wp2_with (go_at_call 200; refine (least_any 3 (by omega) _).mono ?_; rintro e w1 ⟨rfl, hb1⟩)
          go_ret2
          exact ⟨ret_two (by rw [Hf.out]; rfl) (by rw [Hf.out]; rfl), hb1⟩
        · have hle' : ¬ (d : Int) < (leastN 3 : Int) := by omega
          rcases hsg : signOk d with _ | _
          · have Hf := Lib.hid (ho.trans (fin1_bad _ _ hsg))
            clear ho hd hle
            go_wp2_with (first
              | (go_at_call 200; refine (least_any 3 (by omega) _).mono ?_; rintro e w1 ⟨rfl, hb1⟩)
              | (go_at_call 194; refine (isSign_any _ _).mono ?_; rintro e w' ⟨rfl, rfl⟩))
            go_ret2
            exact ⟨ret_two (by rw [Hf.out]; rfl) (by rw [Hf.out]; rfl), hb1⟩
          · have Hf := Lib.hid (ho.trans (fin1_yes _ _ (by omega) hsg))
            clear ho hd hle
            go_wp2_with (first
              | (go_at_call 200; refine (least_any 3 (by omega) _).mono ?_; rintro e w1 ⟨rfl, hb1⟩)
              | (go_at_call 194; refine (isSign_any _ _).mono ?_; rintro e w' ⟨rfl, rfl⟩))
            go_ret2
            exact ⟨ret_two (by rw [Hf.out]) (by rw [Hf.out]; rfl), hb1⟩
      · have hks : k < s.size := by omega
        have hkb := (s[k]'hks).toNat_lt
        have hlt : (k : Int) < 3 := by omega
        have hst := contV_step s k j d hks
        have a1 := and8_192 (s[k]'hks)
        by_cases hc : 128 ≤ (s[k]'hks).toNat ∧ (s[k]'hks).toNat < 192
        · have Hf := Lib.hid (Ho.out.trans (by rw [hst, if_pos hc]))
          have a2 : (bits .and .u8 ((s[k]'hks).toNat : Int) 192 == 128) = true := by rw [a1]; simpa using hc
          have a3 := and8_63 (s[k]'hks)
          have a4 := or_add64 d ((s[k]'hks).toNat % 64) (by omega) (by omega) (by omega) (by omega)
          have Hd := Lib.hid hd
          clear hst a1 hc hd
          go_wp2_with fail
          go_round
          case rel =>
            refine ⟨k + 1, j, d * 64 + s[k].toNat % 64, by omega, by omega, by go_num, by go_num, ?_, Hf.out⟩
            have := Hd.out
            obtain ⟨m, rfl⟩ : ∃ m, k = m + 1 := ⟨k - 1, by omega⟩
            rw [show m + 1 + 1 - 1 = m + 1 from rfl, Nat.pow_succ]
            rw [show m + 1 - 1 = m from rfl] at this
            omega
          case measure => simp [intOf]; omega
        · have Hf := Lib.hid (Ho.out.trans (by rw [hst, if_neg hc]))
          have a2 : (bits .and .u8 ((s[k]'hks).toNat : Int) 192 == 128) = false := by rw [a1]; simpa using hc
          clear hst a1 hc hd
          go_wp2_with fail
          go_ret2
          exact ⟨ret_two (by rw [Hf.out]; rfl) (by rw [Hf.out]; rfl), bel0 w⟩

set_option maxRecDepth 100000 in
set_option maxHeartbeats 2000000 in
theorem signAt_4 (s : ByteArray) (hs : s.size ≤ 1000000000) (h : 0 < s.size) (hn : leadN s[0].toNat = 4) (w : World) :
    Calls Tryd.prog 190 #[.string s] w fun e w' => e = .returned (.tuple #[.int .i64 (oneB s).1, .int .i64 (oneB s).2]) ∧ Below w.heap.size w w' := by
  have hb := (s[0]'h).toNat_lt
  have hrange : 240 ≤ s[0].toNat ∧ s[0].toNat < 248 := by unfold leadN at hn; (repeat' split at hn) <;> omega
  obtain ⟨hr0, hr1⟩ := hrange
  have Hl := Lib.hid (oneB_lead s h 4 (s[0].toNat % 8) hn (by unfold leadC; (repeat' split) <;> omega) (by omega))
  clear hn
  have i1 : inI (s[0].toNat : Int) 192 223 = false := inI_false.2 (by omega)
  have i2 : inI (s[0].toNat : Int) 224 239 = false := inI_false.2 (by omega)
  have i3 : inI (s[0].toNat : Int) 240 247 = true := inI_true.2 ⟨by omega, by omega⟩
  have a0 := and_7 (s[0].toNat : Int) (by omega) (by omega)
  go_enter Tryd.func190, Tryd.ntmps190
  by_cases hz : (s.size : Int) < 4
  · go_wp2_with (go_at_call 88; refine (within_any _ _ _ _).mono ?_; rintro e w' ⟨rfl, rfl⟩)
    go_ret2
    exact ⟨ret_two (by rw [Hl.out, contV_short _ _ _ (by rw [List.length_drop, size_list]; omega)]; rfl) (by rw [Hl.out, contV_short _ _ _ (by rw [List.length_drop, size_list]; omega)]; rfl), bel0 w⟩
  · go_wp2_with (go_at_call 88; refine (within_any _ _ _ _).mono ?_; rintro e w' ⟨rfl, rfl⟩)
    clear i1 i2 i3 a0
    go_loop [6, 7] (fun c i => ∃ (k j d : Nat), k + j = 4 ∧ 1 ≤ k ∧ i = .int .i64 k ∧ c = .int .i64 d ∧ d < 32 * 64 ^ (k - 1) ∧ Hid (oneB s = fin1 4 (contV j (s.data.toList.drop k) d))) (fun _ i => 4 - (intOf i).toNat)
    case atStart => exact ⟨1, 4 - 1, s[0].toNat % 8, by omega, by omega, rfl, rfl, by omega, Hl.out⟩
    case round =>
      obtain ⟨k, j, d, hkj, hk1, rfl, rfl, hd, Ho⟩ := hrel
      have hd9 : d < 8388608 := by
        have h1 : (64 : Nat) ^ (k - 1) ≤ 64 ^ 3 := Nat.pow_le_pow_right (by omega) (by omega)
        have h2 : (64 : Nat) ^ 3 = 262144 := by decide
        omega
      rcases j with _ | j
      · have hlt : ¬ (k : Int) < 4 := by omega
        have ho : oneB s = fin1 4 (some d) := Ho.out
        by_cases hle : d < leastN 4
        · have Hf := Lib.hid (ho.trans (fin1_low _ _ hle))
          have hle' : (d : Int) < (leastN 4 : Int) := by omega
          clear ho hd hle
          go_wp2_with (go_at_call 200; refine (least_any 4 (by omega) _).mono ?_; rintro e w1 ⟨rfl, hb1⟩)
          go_ret2
          exact ⟨ret_two (by rw [Hf.out]; rfl) (by rw [Hf.out]; rfl), hb1⟩
        · have hle' : ¬ (d : Int) < (leastN 4 : Int) := by omega
          rcases hsg : signOk d with _ | _
          · have Hf := Lib.hid (ho.trans (fin1_bad _ _ hsg))
            clear ho hd hle
            go_wp2_with (first
              | (go_at_call 200; refine (least_any 4 (by omega) _).mono ?_; rintro e w1 ⟨rfl, hb1⟩)
              | (go_at_call 194; refine (isSign_any _ _).mono ?_; rintro e w' ⟨rfl, rfl⟩))
            go_ret2
            exact ⟨ret_two (by rw [Hf.out]; rfl) (by rw [Hf.out]; rfl), hb1⟩
          · have Hf := Lib.hid (ho.trans (fin1_yes _ _ (by omega) hsg))
            clear ho hd hle
            go_wp2_with (first
              | (go_at_call 200; refine (least_any 4 (by omega) _).mono ?_; rintro e w1 ⟨rfl, hb1⟩)
              | (go_at_call 194; refine (isSign_any _ _).mono ?_; rintro e w' ⟨rfl, rfl⟩))
            go_ret2
            exact ⟨ret_two (by rw [Hf.out]) (by rw [Hf.out]; rfl), hb1⟩
      · have hks : k < s.size := by omega
        have hkb := (s[k]'hks).toNat_lt
        have hlt : (k : Int) < 4 := by omega
        have hst := contV_step s k j d hks
        have a1 := and8_192 (s[k]'hks)
        by_cases hc : 128 ≤ (s[k]'hks).toNat ∧ (s[k]'hks).toNat < 192
        · have Hf := Lib.hid (Ho.out.trans (by rw [hst, if_pos hc]))
          have a2 : (bits .and .u8 ((s[k]'hks).toNat : Int) 192 == 128) = true := by rw [a1]; simpa using hc
          have a3 := and8_63 (s[k]'hks)
          have a4 := or_add64 d ((s[k]'hks).toNat % 64) (by omega) (by omega) (by omega) (by omega)
          have Hd := Lib.hid hd
          clear hst a1 hc hd
          go_wp2_with fail
          go_round
          case rel =>
            refine ⟨k + 1, j, d * 64 + s[k].toNat % 64, by omega, by omega, by go_num, by go_num, ?_, Hf.out⟩
            have := Hd.out
            obtain ⟨m, rfl⟩ : ∃ m, k = m + 1 := ⟨k - 1, by omega⟩
            rw [show m + 1 + 1 - 1 = m + 1 from rfl, Nat.pow_succ]
            rw [show m + 1 - 1 = m from rfl] at this
            omega
          case measure => simp [intOf]; omega
        · have Hf := Lib.hid (Ho.out.trans (by rw [hst, if_neg hc]))
          have a2 : (bits .and .u8 ((s[k]'hks).toNat : Int) 192 == 128) = false := by rw [a1]; simpa using hc
          clear hst a1 hc hd
          go_wp2_with fail
          go_ret2
          exact ⟨ret_two (by rw [Hf.out]; rfl) (by rw [Hf.out]; rfl), bel0 w⟩

set_option maxRecDepth 100000 in
set_option maxHeartbeats 2000000 in
theorem signAt_any (s : ByteArray) (hs : s.size ≤ 1000000000) (h : 0 < s.size) (w : World) :
    Calls Tryd.prog 190 #[.string s] w fun e w' => e = .returned (.tuple #[.int .i64 (oneB s).1, .int .i64 (oneB s).2]) ∧ Below w.heap.size w w' := by
  have hb := (s[0]'h).toNat_lt
  by_cases h2 : leadN s[0].toNat = 2
  · exact signAt_2 s hs h h2 w
  by_cases h3 : leadN s[0].toNat = 3
  · exact signAt_3 s hs h h3 w
  by_cases h4 : leadN s[0].toNat = 4
  · exact signAt_4 s hs h h4 w
  by_cases h1 : s[0].toNat < 128
  · have Hl := Lib.hid (oneB_lead s h 1 s[0].toNat (by unfold leadN; rw [if_pos h1]) (by unfold leadC; rw [if_pos h1]) (by omega))
    have Hl2 := Lib.hid (Hl.out.trans (fin1_yes 1 _ (by simp [leastN]) (by unfold signOk; rw [inI_true.2 ⟨by omega, by omega⟩, inI_false.2 (by omega)]; rfl)))
    go_enter Tryd.func190, Tryd.ntmps190
    go_wp2
    go_ret2
    exact ⟨ret_two (by rw [Hl2.out]) (by rw [Hl2.out]; rfl), bel0 w⟩
  · have h0 : leadN s[0].toNat = 0 := by unfold leadN at *; (repeat' split) <;> simp_all
    have Hl := Lib.hid (oneB_none s h h0)
    have hr : ¬ (192 ≤ s[0].toNat ∧ s[0].toNat < 248) := by unfold leadN at h0; (repeat' split at h0) <;> omega
    have i1 : inI (s[0].toNat : Int) 192 223 = false := inI_false.2 (by omega)
    have i2 : inI (s[0].toNat : Int) 224 239 = false := inI_false.2 (by omega)
    have i3 : inI (s[0].toNat : Int) 240 247 = false := inI_false.2 (by omega)
    clear h2 h3 h4 h0 hr
    go_enter Tryd.func190, Tryd.ntmps190
    go_wp2_with (go_at_call 88; refine (within_any _ _ _ _).mono ?_; rintro e w' ⟨rfl, rfl⟩)
    go_ret2
    exact ⟨ret_two (by rw [Hl.out]; rfl) (by rw [Hl.out]; rfl), bel0 w⟩

/-- Numbers as cells. -/
def II (l : List Int) : List Value := l.map fun n => .int .i64 n
theorem II_append (a b : List Int) : II (a ++ b) = II a ++ II b := by simp [II]
theorem II_length (l : List Int) : (II l).length = l.length := by simp [II]
theorem II_get (l : List Int) (k : Nat) (h : k < l.length) : (II l)[k]? = some (.int .i64 l[k]) := by simp [II, h]
theorem II_of (l : List Nat) : I64 l = II (l.map fun (n : Nat) => (n : Int)) := by simp [II, I64]
theorem II_cells (l : List Int) : ∀ u ∈ II l, u.oneCell' = true := by
  intro u hu
  simp only [II, List.mem_map] at hu
  obtain ⟨b, _, rfl⟩ := hu
  rfl
theorem reads_at {w : World} {B n : Nat} {A : Option Addr} {xs : List Int} (h : Reads w B 1 A n (II xs)) {k : Nat} (hk : k < n) : ∃ (hk' : k < xs.length) (ad : Addr), A = some ad ∧ ad.block < B ∧ w.cell? (ad.add k) = some (.int .i64 xs[k]) := by
  obtain ⟨ad, u, h1, h2, h3, h4⟩ := h.at_ hk
  have hl : k < xs.length := by have := h.1; rw [II_length] at this; omega
  rw [II_get _ _ hl] at h3
  injection h3 with h3
  exact ⟨hl, ad, h1, h2, by rw [h4, h3]⟩

set_option maxRecDepth 100000 in
set_option maxHeartbeats 2000000 in
theorem encode_spec (A : Option Addr) (n c : Nat) (xs : List Int) (hlen : xs.length = n) (hn : n ≤ 100000) (w : World) (hr : Reads w w.heap.size 1 A n (II xs)) :
    Calls Tryd.prog 187 #[.slice A n c] w fun e w' => e = .returned (.string (encB xs)) ∧ Below w.heap.size w w' := by
  have Hr := Lib.hid hr
  clear hr
  go_enter Tryd.func187, Tryd.ntmps187
  go_wp2
  go_loopw [3, 4] (fun v i wr => ∃ (k : Nat), k ≤ n ∧ i = .int .i64 k ∧ Hid ((xs.take k).all signOk = true) ∧ wr.ownsRow w.heap.size 5 1 v ((xs.take k).flatMap enc1).length (B8 ((xs.take k).flatMap enc1)) ∧ Below w.heap.size w wr)
    (fun _ i _ => n - (intOf i).toNat)
  case atStart => exact ⟨0, by omega, rfl, by simp [Hid], World.ownsRow_lit w #[] 0 (Nat.le_refl _) (by unfold maxLen; omega) rfl, belA (bel0 w) _⟩
  case round =>
    obtain ⟨k, hk, rfl, hall, hown, hbel⟩ := hrel
    have hsz := hbel.size
    by_cases hlt : k < n
    · obtain ⟨hkx, ad, rfl, hadb, hcell⟩ := reads_at (Hr.out.below hbel) hlt
      rcases hsg : signOk xs[k] with _ | _
      · have Hf := Lib.hid (show encB xs = str [] by unfold encB; rw [not_all hkx hsg]; rfl)
        go_wp2_with (go_at_call 198; refine (l3Sign_any _ _).mono ?_; rintro e w' ⟨rfl, rfl⟩)
        go_ret
        exact ⟨ret_str (by rw [Hf.out]; rfl), hbel⟩
      · have hle := encs_le (xs.take k)
        rw [List.length_take] at hle
        have hl2 : ((xs.take k).flatMap enc1).length ≤ 400000 := by omega
        have Hall := Lib.hid (all_take_succ hkx hall.out hsg)
        have Hsn := Lib.hid (encs_snoc hkx)
        obtain ⟨h0, h1⟩ := signOk_bd hsg
        obtain ⟨x, hx⟩ : ∃ x, xs[k] = x := ⟨_, rfl⟩
        rw [hx] at hcell hsg Hsn h0 h1
        clear hx hle
        have m0 := and_63 x h0 (by omega)
        by_cases x1 : x < 128
        · have Hc := Lib.hid (enc1_1 h0 x1)
          go_wp2_with (first
            | (go_at_call 198; refine (l3Sign_any _ _).mono ?_; rintro e w' ⟨rfl, rfl⟩)
            | (at_builtin; go_must (refine wpList_app _ rfl _ _ _ rfl Tryd.el_u8 (hown.alloc _) rfl (reads_new _ _ _ _ 1 (by rfl)) rfl (by simp [Value.oneCell']) (max_small (by omega)) (by omega) (by simp; omega) ?_); intro v1 w1 own1 hg1 _ hb1))
          go_roundw
          case rel => exact ⟨k + 1, by omega, by go_num, Hall.out, by rw [Hsn.out, B8_append, Hc.out, List.length_append, enc1_len, if_pos x1]; exact own1, (hbel.alloc hsz _).trans hb1⟩
          case measure => simp [intOf]; omega
        · have m1 := and_63 (x / 64) (by omega) (by omega)
          have m2 := and_63 (x / 4096) (by omega) (by omega)
          by_cases x2 : x < 2048
          · have Hc := Lib.hid (enc1_2 (c := x) (by omega) x2)
            go_wp2_with (first
              | (go_at_call 198; refine (l3Sign_any _ _).mono ?_; rintro e w' ⟨rfl, rfl⟩)
              | (at_builtin; go_must (refine wpList_app _ rfl _ _ _ rfl Tryd.el_u8 (hown.alloc _) rfl (reads_new _ _ _ _ 2 (by rfl)) rfl (by simp [Value.oneCell']) (max_small (by omega)) (by omega) (by simp; omega) ?_); intro v1 w1 own1 hg1 _ hb1))
            go_roundw
            case rel => exact ⟨k + 1, by omega, by go_num, Hall.out, by rw [Hsn.out, B8_append, Hc.out, List.length_append, enc1_len, if_neg (by omega), if_pos (by omega)]; exact own1, (hbel.alloc hsz _).trans hb1⟩
            case measure => simp [intOf]; omega
          · by_cases x3 : x < 65536
            · have Hc := Lib.hid (enc1_3 (c := x) (by omega) x3)
              go_wp2_with (first
                | (go_at_call 198; refine (l3Sign_any _ _).mono ?_; rintro e w' ⟨rfl, rfl⟩)
                | (at_builtin; go_must (refine wpList_app _ rfl _ _ _ rfl Tryd.el_u8 (hown.alloc _) rfl (reads_new _ _ _ _ 3 (by rfl)) rfl (by simp [Value.oneCell']) (max_small (by omega)) (by omega) (by simp; omega) ?_); intro v1 w1 own1 hg1 _ hb1))
              go_roundw
              case rel => exact ⟨k + 1, by omega, by go_num, Hall.out, by rw [Hsn.out, B8_append, Hc.out, List.length_append, enc1_len, if_neg (by omega), if_neg (by omega), if_pos (by omega)]; exact own1, (hbel.alloc hsz _).trans hb1⟩
              case measure => simp [intOf]; omega
            · have Hc := Lib.hid (enc1_4 (c := x) (by omega) h1)
              go_wp2_with (first
                | (go_at_call 198; refine (l3Sign_any _ _).mono ?_; rintro e w' ⟨rfl, rfl⟩)
                | (at_builtin; go_must (refine wpList_app _ rfl _ _ _ rfl Tryd.el_u8 (hown.alloc _) rfl (reads_new _ _ _ _ 4 (by rfl)) rfl (by simp [Value.oneCell']) (max_small (by omega)) (by omega) (by simp; omega) ?_); intro v1 w1 own1 hg1 _ hb1))
              go_roundw
              case rel => exact ⟨k + 1, by omega, by go_num, Hall.out, by rw [Hsn.out, B8_append, Hc.out, List.length_append, enc1_len, if_neg (by omega), if_neg (by omega), if_neg (by omega)]; exact own1, (hbel.alloc hsz _).trans hb1⟩
              case measure => simp [intOf]; omega
    · have Hf := Lib.hid (show encB xs = str (xs.flatMap enc1) by unfold encB; rw [← List.take_of_length_le (l := xs) (i := k) (by omega), hall.out]; rfl)
      have hcv := run_convert_own Tryd.underlying69 Tryd.underlying5 Tryd.underlying9 hown
      have Ht := Lib.hid (List.take_of_length_le (l := xs) (i := k) (by omega))
      clear hown
      go_wp2
      go_ret
      exact ⟨ret_str (by rw [Hf.out, Ht.out]), hbel⟩

/-- What Decode leaves. -/
def DecPost (w : World) (T : TypeId) (o : Option (List Nat)) (e : Ending) (w' : World) : Prop :=
  Below w.heap.size w w' ∧ ((∃ xs v, o = some xs ∧ e = .returned (.tuple #[v, .bool true]) ∧ w'.ownsRow w.heap.size T 1 v xs.length (I64 xs)) ∨ (∃ v, o = none ∧ e = .returned (.tuple #[v, .bool false]) ∧ w'.ownsRow w.heap.size T 1 v 0 []))
theorem drop_ne (s : ByteArray) (k : Nat) (h : k < s.size) : s.data.toList.drop k ≠ [] := by
  intro e
  have := congrArg List.length e
  rw [List.length_drop, size_list] at this; simp at this; omega

set_option maxRecDepth 100000 in
set_option maxHeartbeats 2000000 in
theorem decode_impl (s : ByteArray) (hs : s.size ≤ 2000000) (w : World) :
    Calls Tryd.prog 164 #[.string s] w (DecPost w 3 (decB s)) := by
  go_enter Tryd.func164, Tryd.ntmps164
  go_wp2
  go_loopw [4, 5] (fun v i wr => ∃ (k : Nat) (xs : List Nat), k ≤ s.size ∧ xs.length ≤ k ∧ i = .int .i64 k ∧ Hid (decB s = preL xs (decL (s.data.toList.drop k))) ∧ wr.ownsRow w.heap.size 3 1 v xs.length (I64 xs) ∧ Below w.heap.size w wr)
    (fun _ i _ => s.size - (intOf i).toNat)
  case atStart => exact ⟨0, [], by omega, by simp, rfl, (preL_nil _).symm, World.ownsRow_lit w #[] 0 (Nat.le_refl _) (by unfold maxLen; omega) rfl, belA (bel0 w) _⟩
  case round =>
    obtain ⟨k, xs, hk, hxk, rfl, heq, hown, hbel⟩ := hrel
    have hsz := hbel.size
    by_cases hlt : k < s.size
    · have hz := dropB_size s k
      have hle := oneB_le (dropB s k)
      have Hd := Lib.hid (one_drop s k)
      obtain ⟨x, j, h⟩ : ∃ x j, oneB (dropB s k) = (x, j) := ⟨_, _, rfl⟩
      rw [h] at hle
      obtain ⟨hx, hj4, hjl⟩ := hle
      simp only at hx hj4 hjl
      have H := Lib.hid h
      have p0 : (0 : Int) ≤ ↑k := by omega
      have p1 : (k : Int) ≤ ↑s.size := by omega
      unfold dropB at h hz hjl
      by_cases hj : j = 0
      · have hj0 : ((j : Int) == 0) = true := by rw [hj]; rfl
        have Hf := Lib.hid (show decB s = none by rw [heq.out, decL_none xs (drop_ne s k hlt) (by rw [← Hd.out, H.out]; exact hj)])
        clear hj hjl
        go_wp2_with (go_at_call 190; refine (signAt_any _ (by omega) (by omega) _).mono ?_; rintro e w1 ⟨rfl, hb1⟩)
        go_ret2
        exact ⟨belN hbel hb1, .inr ⟨_, Hf.out, rfl, World.ownsRow_nil _ _ _ _⟩⟩
      · have hj0 : ((j : Int) == 0) = false := by simp; exact hj
        have Hf := Lib.hid (show decB s = preL (xs ++ [x]) (decL (s.data.toList.drop (k + j))) by rw [heq.out, decL_step xs (drop_ne s k hlt) (by rw [← Hd.out, H.out]; exact hj), ← Hd.out, H.out, List.drop_drop])
        have Hj := Lib.hid hj
        clear hj
        go_wp2_with (first
          | (go_at_call 190; refine (signAt_any _ (by omega) (by omega) _).mono ?_; rintro e w1 ⟨rfl, hb1⟩; have hown1 := own_below hown hb1 (Nat.le_refl _); have hs1 := hb1.size)
          | (at_builtin; go_must (refine wpList_app _ rfl _ _ _ rfl Tryd.el_int (hown1.alloc _) rfl (reads_new _ _ _ _ 1 (by rfl)) rfl (I64_cells [x]) (max_small (by omega)) (by omega) (by simp; omega) ?_); intro v2 w2 own2 hg2 _ hb2))
        go_roundw
        case rel =>
          have := Hj.out
          exact ⟨k + j, xs ++ [x], by omega, by simp; omega, by go_num, Hf.out, by rw [I64_append, List.length_append]; exact own2, ((hbel.trans (hb1.mono hsz)).alloc (by omega) _).trans hb2⟩
        case measure =>
          have := Hj.out
          simp [intOf]; omega
    · have Hf := Lib.hid (show decB s = some xs by rw [heq.out, show s.data.toList.drop k = [] from List.drop_eq_nil_of_le (by rw [size_list]; omega), decL_end])
      go_wp2
      go_ret2
      exact ⟨hbel, .inl ⟨xs, _, Hf.out, rfl, hown⟩⟩

end Go.Proofs.YtlgjehdocppofaaDoor
