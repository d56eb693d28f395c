/- Encode of the program; signs of a text, an index, rows of the table, parts of a sign. -/
import Derived.Test.YtlgjehdocppofaaDoorCls
namespace Go.Proofs.YtlgjehdocppofaaDoor
open Go Go.RowKit

theorem or_lo (m q : Nat) (r : Int) (h0 : 0 ≤ r) (h1 : r < (2 ^ m : Nat)) (hb : 2 ^ m * q < 100000) (hm : (2 : Nat) ^ m < 100000) : bits .or .i64 ((2 ^ m * q : Nat) : Int) r = ((2 ^ m * q : Nat) : Int) + r := by
  obtain ⟨r, rfl⟩ := Int.eq_ofNat_of_zero_le h0
  have h := i64_or_nat (2 ^ m * q) r (by omega) (by omega)
  rw [← Nat.two_pow_add_eq_or_of_lt (by omega)] at h
  rw [h]; omega
theorem or_192 (r : Int) (h0 : 0 ≤ r) (h1 : r < 64) : bits .or .i64 192 r = 192 + r := or_lo 6 3 r h0 h1 (by omega) (by omega)
theorem or_128x (r : Int) (h0 : 0 ≤ r) (h1 : r < 64) : bits .or .i64 128 r = 128 + r := or_lo 6 2 r h0 h1 (by omega) (by omega)
theorem or_224 (r : Int) (h0 : 0 ≤ r) (h1 : r < 32) : bits .or .i64 224 r = 224 + r := or_lo 5 7 r h0 h1 (by omega) (by omega)
theorem or_240 (r : Int) (h0 : 0 ≤ r) (h1 : r < 16) : bits .or .i64 240 r = 240 + r := or_lo 4 15 r h0 h1 (by omega) (by omega)

set_option maxRecDepth 100000 in
set_option maxHeartbeats 2000000 in
theorem encode_impl (A : Option Addr) (n c : Nat) (xs : List Int) (hlen : xs.length = n) (hn : n ≤ 100000) (w : World) (hr : Reads w w.heap.size 1 A n (II xs)) :
    Calls Tryd.prog 176 #[.slice A n c] w fun e w' => e = .returned (.string (encB xs)) ∧ Below w.heap.size w w' := by
  have Hr := Lib.hid hr
  clear hr
  go_enter Tryd.func176, Tryd.ntmps176
  go_wp2
  go_loopw [3, 9] (fun v i wr => ∃ (k : Nat), k ≤ n ∧ i = .int .i64 k ∧ Hid ((xs.take k).all signOk = true) ∧ wr.ownsRow w.heap.size 5 1 v ((xs.take k).flatMap enc1).length (B8 ((xs.take k).flatMap enc1)) ∧ Below w.heap.size w wr)
    (fun _ i _ => n - (intOf i).toNat)
  case atStart => exact ⟨0, by omega, rfl, by simp [Hid], World.ownsRow_lit w #[] 0 (Nat.le_refl _) (by unfold maxLen; omega) rfl, belA (bel0 w) _⟩
  case round =>
    obtain ⟨k, hk, rfl, hall, hown, hbel⟩ := hrel
    have hsz := hbel.size
    by_cases hlt : k < n
    · obtain ⟨hkx, ad, rfl, hadb, hcell⟩ := reads_at (Hr.out.below hbel) hlt
      rcases hsg : signOk xs[k] with _ | _
      · have Hf := Lib.hid (show encB xs = str [] by unfold encB; rw [not_all hkx hsg]; rfl)
        go_wp2_with (go_at_call 194; refine (isSign_any _ _).mono ?_; rintro e w' ⟨rfl, rfl⟩)
        go_ret
        exact ⟨ret_str (by rw [Hf.out]; rfl), hbel⟩
      · have hle := encs_le (xs.take k)
        rw [List.length_take] at hle
        have hl2 : ((xs.take k).flatMap enc1).length ≤ 400000 := by omega
        have Hall := Lib.hid (all_take_succ hkx hall.out hsg)
        have Hsn := Lib.hid (encs_snoc hkx)
        obtain ⟨h0, h1⟩ := signOk_bd hsg
        obtain ⟨x, hx⟩ : ∃ x, xs[k] = x := ⟨_, rfl⟩
        rw [hx] at hcell hsg Hsn h0 h1
        clear hx hle
        have m0 := and_63 x h0 (by omega)
        have m1 := and_63 (x / 64) (by omega) (by omega)
        have m2 := and_63 (x / 4096) (by omega) (by omega)
        have o0 := or_128x (x % 64) (by omega) (by omega)
        have o1 := or_128x (x / 64 % 64) (by omega) (by omega)
        have o2 := or_128x (x / 4096 % 64) (by omega) (by omega)
        by_cases x1 : x < 128
        · have Hc := Lib.hid (enc1_1 h0 x1)
          go_wp2_with (first
            | (go_at_call 194; refine (isSign_any _ _).mono ?_; rintro e w' ⟨rfl, rfl⟩)
            | (at_builtin; go_must (refine wpList_app _ rfl _ _ _ rfl Tryd.el_u8 (hown.alloc _) rfl (reads_new _ _ _ _ 1 (by rfl)) rfl (by simp [Value.oneCell']) (max_small (by omega)) (by omega) (by simp; omega) ?_); intro v1 w1 own1 hg1 _ hb1))
          go_roundw
          case rel => exact ⟨k + 1, by omega, by go_num, Hall.out, by rw [Hsn.out, B8_append, Hc.out, List.length_append, enc1_len, if_pos x1]; exact own1, (hbel.alloc hsz _).trans hb1⟩
          case measure => simp [intOf]; omega
        · by_cases x2 : x < 2048
          · have Hc := Lib.hid (enc1_2 (c := x) (by omega) x2)
            have p0 := or_192 (x / 64) (by omega) (by omega)
            go_wp2_with (first
              | (go_at_call 194; refine (isSign_any _ _).mono ?_; rintro e w' ⟨rfl, rfl⟩)
              | (at_builtin; go_must (refine wpList_app _ rfl _ _ _ rfl Tryd.el_u8 (hown.alloc _) rfl (reads_new _ _ _ _ 2 (by rfl)) rfl (by simp [Value.oneCell']) (max_small (by omega)) (by omega) (by simp; omega) ?_); intro v1 w1 own1 hg1 _ hb1))
            go_roundw
            case rel => exact ⟨k + 1, by omega, by go_num, Hall.out, by rw [Hsn.out, B8_append, Hc.out, List.length_append, enc1_len, if_neg (by omega), if_pos (by omega)]; exact own1, (hbel.alloc hsz _).trans hb1⟩
            case measure => simp [intOf]; omega
          · by_cases x3 : x < 65536
            · have Hc := Lib.hid (enc1_3 (c := x) (by omega) x3)
              have p0 := or_224 (x / 4096) (by omega) (by omega)
              go_wp2_with (first
                | (go_at_call 194; refine (isSign_any _ _).mono ?_; rintro e w' ⟨rfl, rfl⟩)
                | (at_builtin; go_must (refine wpList_app _ rfl _ _ _ rfl Tryd.el_u8 (hown.alloc _) rfl (reads_new _ _ _ _ 3 (by rfl)) rfl (by simp [Value.oneCell']) (max_small (by omega)) (by omega) (by simp; omega) ?_); intro v1 w1 own1 hg1 _ hb1))
              go_roundw
              case rel => exact ⟨k + 1, by omega, by go_num, Hall.out, by rw [Hsn.out, B8_append, Hc.out, List.length_append, enc1_len, if_neg (by omega), if_neg (by omega), if_pos (by omega)]; exact own1, (hbel.alloc hsz _).trans hb1⟩
              case measure => simp [intOf]; omega
            · have Hc := Lib.hid (enc1_4 (c := x) (by omega) h1)
              have p0 := or_240 (x / 262144) (by omega) (by omega)
              go_wp2_with (first
                | (go_at_call 194; refine (isSign_any _ _).mono ?_; rintro e w' ⟨rfl, rfl⟩)
                | (at_builtin; go_must (refine wpList_app _ rfl _ _ _ rfl Tryd.el_u8 (hown.alloc _) rfl (reads_new _ _ _ _ 4 (by rfl)) rfl (by simp [Value.oneCell']) (max_small (by omega)) (by omega) (by simp; omega) ?_); intro v1 w1 own1 hg1 _ hb1))
              go_roundw
              case rel => exact ⟨k + 1, by omega, by go_num, Hall.out, by rw [Hsn.out, B8_append, Hc.out, List.length_append, enc1_len, if_neg (by omega), if_neg (by omega), if_neg (by omega)]; exact own1, (hbel.alloc hsz _).trans hb1⟩
              case measure => simp [intOf]; omega
    · have Hf := Lib.hid (show encB xs = str (xs.flatMap enc1) by unfold encB; rw [← List.take_of_length_le (l := xs) (i := k) (by omega), hall.out]; rfl)
      have hcv := run_convert_own Tryd.underlying69 Tryd.underlying5 Tryd.underlying9 hown
      have Ht := Lib.hid (List.take_of_length_le (l := xs) (i := k) (by omega))
      clear hown
      go_wp2
      go_ret
      exact ⟨ret_str (by rw [Hf.out, Ht.out]), hbel⟩

def ofB (s : ByteArray) : List Int := s.data.toList.map fun b => (b.toNat : Int)
theorem ofB_len (s : ByteArray) : (ofB s).length = s.size := by rw [ofB, List.length_map, size_list]

set_option maxHeartbeats 1000000 in
theorem signs_any (s : ByteArray) (hs : s.size ≤ 1000000) (w : World) :
    Calls Tryd.prog 210 #[.string s] w (RowPost w 3 (ofB s)) := by
  go_enter Tryd.func210, Tryd.ntmps210
  go_wp2
  go_loopw [3, 4] (fun v i wr => ∃ (k : Nat), k ≤ s.size ∧ i = .int .i64 k ∧ wr.ownsRow w.heap.size 3 1 v k (II ((ofB s).take k)) ∧ Below w.heap.size w wr)
    (fun _ i _ => s.size - (intOf i).toNat)
  case atStart => exact ⟨0, by omega, rfl, World.ownsRow_lit w #[] 0 (Nat.le_refl _) (by unfold maxLen; omega) rfl, belA (bel0 w) _⟩
  case round =>
    obtain ⟨k, hk, rfl, hown, hbel⟩ := hrel
    have hsz := hbel.size
    by_cases hlt : k < s.size
    · have hb := (s[k]'hlt).toNat_lt
      have Hs := Lib.hid (show (ofB s).take (k + 1) = (ofB s).take k ++ [((s[k]'hlt).toNat : Int)] by
        unfold ofB; rw [← List.map_take, ← List.map_take, take_snoc s k hlt, List.map_append]; rfl)
      go_wp2_with (at_builtin; go_must (refine wpList_app _ rfl _ _ _ rfl Tryd.el_int (hown.alloc _) rfl (reads_new _ _ _ _ 1 (by rfl)) rfl (by simp [Value.oneCell']) (max_small (by omega)) (by omega) (by simp; omega) ?_); intro v1 w1 own1 hg1 _ hb1)
      go_roundw
      case rel => exact ⟨k + 1, by omega, by go_num, by rw [Hs.out, II_append]; exact own1, (hbel.alloc hsz _).trans hb1⟩
      case measure => simp [intOf]; omega
    · obtain rfl : k = s.size := by omega
      rw [List.take_of_length_le (by rw [ofB_len]; exact Nat.le_refl _)] at hown
      go_wp2
      go_ret
      exact ⟨_, rfl, by rw [ofB_len]; exact hown, hbel⟩

/-- Where a number stands in a row. -/
def IdxR (xs : List Int) (q r : Int) : Prop := (r = -1 ∧ q ∉ xs) ∨ ∃ k, ∃ hk : k < xs.length, r = (k : Int) ∧ xs[k] = q

set_option maxHeartbeats 1000000 in
theorem index_any (A : Option Addr) (n c : Nat) (xs : List Int) (q : Int) (hn : n ≤ 10000000) (w : World) (hr : Reads w w.heap.size 1 A n (II xs)) :
    Calls Tryd.prog 183 #[.slice A n c, .int .i64 q] w fun e w' => ∃ r : Int, e = .returned (.int .i64 r) ∧ IdxR xs q r ∧ Below w.heap.size w w' := by
  have hl : xs.length = n := by have := hr.1; rw [II_length] at this; omega
  have Hr := Lib.hid hr
  clear hr
  go_enter Tryd.func183, Tryd.ntmps183
  go_wp2
  go_loopw [8] (fun i wr => ∃ (j : Nat), j ≤ n ∧ i = .int .i64 j ∧ Hid (q ∉ xs.take j) ∧ Below w.heap.size w wr)
    (fun i _ => n - (intOf i).toNat)
  case atStart => exact ⟨0, by omega, rfl, by simp [Hid], bel0 w⟩
  case round =>
    obtain ⟨j, hj, rfl, hno, hbel⟩ := hrel
    by_cases hlt : j < n
    · obtain ⟨hkx, ad, rfl, hadb, z0⟩ := reads_at (Hr.out.below hbel) hlt
      have q0 : (0 : Int) ≤ ↑j := by omega
      have q1 : (↑j : Int) < ↑n := by omega
      have Hs := Lib.hid (List.take_succ_eq_append_getElem hkx)
      obtain ⟨x, hx⟩ : ∃ x, xs[j] = x := ⟨_, rfl⟩
      have Hx := Lib.hid hx
      rw [hx] at z0 Hs
      clear hx
      by_cases he : q = x
      · have He := Lib.hid he
        have he' : (q == x) = true := by simpa using he
        clear he
        go_wp2
        go_ret
        exact ⟨_, rfl, .inr ⟨j, hkx, rfl, by rw [Hx.out, He.out]⟩, hbel⟩
      · have He := Lib.hid he
        have he' : (q == x) = false := by simpa using he
        clear he
        go_wp2
        go_roundw
        case rel => exact ⟨j + 1, by omega, by go_num, by show ¬ _; rw [Hs.out, List.mem_append]; rintro (h | h); exact hno.out h; exact He.out (by simpa using h), hbel⟩
        case measure => simp [intOf]; omega
    · have Hn := Lib.hid (show q ∉ xs by have := hno.out; rwa [List.take_of_length_le (by omega)] at this)
      go_wp2
      go_ret
      exact ⟨_, rfl, .inl ⟨rfl, Hn.out⟩, hbel⟩

end Go.Proofs.YtlgjehdocppofaaDoor
