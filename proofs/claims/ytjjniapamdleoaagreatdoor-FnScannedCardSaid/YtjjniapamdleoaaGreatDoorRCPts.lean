/- Encode of both sides; parts of signs; what is taken. -/
import Derived.Test.YtjjniapamdleoaaGreatDoorRCSgn
namespace Go.Proofs.YtjjniapamdleoaaGreatDoor
open Go Go.RowKit
set_option maxHeartbeats 4000000
set_option maxRecDepth 100000

theorem or_lo (m q : Nat) (r : Int) (h0 : 0 <= r) (h1 : r < (2 ^ m : Nat)) (hb : 2 ^ m * q < 100000) (hm : (2 : Nat) ^ m < 100000) : bits .or .i64 ((2 ^ m * q : Nat) : Int) r = ((2 ^ m * q : Nat) : Int) + r := by
 obtain ⟨r, rfl⟩ := Int.eq_ofNat_of_zero_le h0
 have h := i64_or_nat (2 ^ m * q) r (by omega) (by omega)
 rw [<- Nat.two_pow_add_eq_or_of_lt (by omega)] at h
 rw [h]; omega
theorem or_192 (r : Int) (h0 : 0 <= r) (h1 : r < 64) : bits .or .i64 192 r = 192 + r := or_lo 6 3 r h0 h1 (by omega) (by omega)
theorem or_128x (r : Int) (h0 : 0 <= r) (h1 : r < 64) : bits .or .i64 128 r = 128 + r := or_lo 6 2 r h0 h1 (by omega) (by omega)
theorem or_224 (r : Int) (h0 : 0 <= r) (h1 : r < 32) : bits .or .i64 224 r = 224 + r := or_lo 5 7 r h0 h1 (by omega) (by omega)
theorem or_240 (r : Int) (h0 : 0 <= r) (h1 : r < 16) : bits .or .i64 240 r = 240 + r := or_lo 4 15 r h0 h1 (by omega) (by omega)

theorem encode_impl (A : Option Addr) (n c : Nat) (xs : List Int) (hlen : xs.length = n) (hn : n <= 100000) (w : World) (hr : Reads w w.heap.size 1 A n (II xs)) :
  Calls Tryz.prog 207 #[.slice A n c] w fun e w' => e = .returned (.string (encB xs)) /\ Below w.heap.size w w' := by
 have Hr := Lib.hid hr
 clear hr
 go_enter Tryz.func207, Tryz.ntmps207
 go_wp2
 go_loopw [3, 9] (fun v i wr => ∃ (k : Nat), k <= n /\ i = .int .i64 k /\ Hid ((xs.take k).all signOk = true) /\ wr.ownsRow w.heap.size 5 1 v ((xs.take k).flatMap enc1).length (B8 ((xs.take k).flatMap enc1)) /\ Below w.heap.size w wr)
  (fun _ i _ => n - (intOf i).toNat)
 case atStart => exact ⟨0, by omega, rfl, by simp [Hid], World.ownsRow_lit w #[] 0 (Nat.le_refl _) (by unfold maxLen; omega) rfl, belA (bel0 w) _⟩
 case round =>
  obtain ⟨k, hk, rfl, hall, hown, hbel⟩ := hrel
  have hsz := hbel.size
  by_cases hlt : k < n
  ·obtain ⟨hkx, ad, rfl, hadb, hcell⟩ := reads_at (Hr.out.below hbel) hlt
   rcases hsg : signOk xs[k] with _ | _
   ·have Hf := Lib.hid (show encB xs = str [] by unfold encB; rw [not_all hkx hsg]; rfl)
    go_wp2_with (go_at_call 197; refine (isSign_any _ _).mono ?_; rintro e w' ⟨rfl, rfl⟩)
    go_ret
    exact ⟨ret_str (by rw [Hf.out]; rfl), hbel⟩
   ·have hle := encs_le (xs.take k)
    rw [List.length_take] at hle
    have hl2 : ((xs.take k).flatMap enc1).length <= 400000 := by omega
    have Hall := Lib.hid (all_take_succ hkx hall.out hsg)
    have Hsn := Lib.hid (encs_snoc hkx)
    obtain ⟨h0, h1⟩ := signOk_bd hsg
    obtain ⟨x, hx⟩ : ∃ x, xs[k] = x := ⟨_, rfl⟩
    rw [hx] at hcell hsg Hsn h0 h1
    clear hx hle
    have m0 := and_63 x h0 (by omega)
    have m1 := and_63 (x / 64) (by omega) (by omega)
    have m2 := and_63 (x / 4096) (by omega) (by omega)
    have o0 := or_128x (x % 64) (by omega) (by omega)
    have o1 := or_128x (x / 64 % 64) (by omega) (by omega)
    have o2 := or_128x (x / 4096 % 64) (by omega) (by omega)
    by_cases x1 : x < 128
    ·have Hc := Lib.hid (enc1_1 h0 x1)
     go_wp2_with (first
      | (go_at_call 197; refine (isSign_any _ _).mono ?_; rintro e w' ⟨rfl, rfl⟩)
      | (at_builtin; go_must (refine wpList_app _ rfl _ _ _ rfl Tryz.el_u8 (hown.alloc _) rfl (reads_new _ _ _ _ 1 (by rfl)) rfl (by simp [Value.oneCell']) (max_small (by omega)) (by omega) (by simp; omega) ?_); intro v1 w1 own1 hg1 _ hb1))
     go_roundw
     case rel => exact ⟨k + 1, by omega, by go_num, Hall.out, by rw [Hsn.out, B8_append, Hc.out, List.length_append, enc1_len, if_pos x1]; exact own1, (hbel.alloc hsz _).trans hb1⟩
     case measure => simp [intOf]; omega
    ·by_cases x2 : x < 2048
     ·have Hc := Lib.hid (enc1_2 (c := x) (by omega) x2)
      have p0 := or_192 (x / 64) (by omega) (by omega)
      go_wp2_with (first
       | (go_at_call 197; refine (isSign_any _ _).mono ?_; rintro e w' ⟨rfl, rfl⟩)
       | (at_builtin; go_must (refine wpList_app _ rfl _ _ _ rfl Tryz.el_u8 (hown.alloc _) rfl (reads_new _ _ _ _ 2 (by rfl)) rfl (by simp [Value.oneCell']) (max_small (by omega)) (by omega) (by simp; omega) ?_); intro v1 w1 own1 hg1 _ hb1))
      go_roundw
      case rel => exact ⟨k + 1, by omega, by go_num, Hall.out, by rw [Hsn.out, B8_append, Hc.out, List.length_append, enc1_len, if_neg (by omega), if_pos (by omega)]; exact own1, (hbel.alloc hsz _).trans hb1⟩
      case measure => simp [intOf]; omega
     ·by_cases x3 : x < 65536
      ·have Hc := Lib.hid (enc1_3 (c := x) (by omega) x3)
       have p0 := or_224 (x / 4096) (by omega) (by omega)
       go_wp2_with (first
        | (go_at_call 197; refine (isSign_any _ _).mono ?_; rintro e w' ⟨rfl, rfl⟩)
        | (at_builtin; go_must (refine wpList_app _ rfl _ _ _ rfl Tryz.el_u8 (hown.alloc _) rfl (reads_new _ _ _ _ 3 (by rfl)) rfl (by simp [Value.oneCell']) (max_small (by omega)) (by omega) (by simp; omega) ?_); intro v1 w1 own1 hg1 _ hb1))
       go_roundw
       case rel => exact ⟨k + 1, by omega, by go_num, Hall.out, by rw [Hsn.out, B8_append, Hc.out, List.length_append, enc1_len, if_neg (by omega), if_neg (by omega), if_pos (by omega)]; exact own1, (hbel.alloc hsz _).trans hb1⟩
       case measure => simp [intOf]; omega
      ·have Hc := Lib.hid (enc1_4 (c := x) (by omega) h1)
       have p0 := or_240 (x / 262144) (by omega) (by omega)
       go_wp2_with (first
        | (go_at_call 197; refine (isSign_any _ _).mono ?_; rintro e w' ⟨rfl, rfl⟩)
        | (at_builtin; go_must (refine wpList_app _ rfl _ _ _ rfl Tryz.el_u8 (hown.alloc _) rfl (reads_new _ _ _ _ 4 (by rfl)) rfl (by simp [Value.oneCell']) (max_small (by omega)) (by omega) (by simp; omega) ?_); intro v1 w1 own1 hg1 _ hb1))
       go_roundw
       case rel => exact ⟨k + 1, by omega, by go_num, Hall.out, by rw [Hsn.out, B8_append, Hc.out, List.length_append, enc1_len, if_neg (by omega), if_neg (by omega), if_neg (by omega)]; exact own1, (hbel.alloc hsz _).trans hb1⟩
       case measure => simp [intOf]; omega
  ·have Hf := Lib.hid (show encB xs = str (xs.flatMap enc1) by unfold encB; rw [<- List.take_of_length_le (l := xs) (i := k) (by omega), hall.out]; rfl)
   have hcv := run_convert_own Tryz.underlying22 Tryz.underlying5 Tryz.underlying9 hown
   have Ht := Lib.hid (List.take_of_length_le (l := xs) (i := k) (by omega))
   clear hown
   go_wp2
   go_ret
   exact ⟨ret_str (by rw [Hf.out, Ht.out]), hbel⟩

def ofB (s : ByteArray) : List Int := s.data.toList.map fun b => (b.toNat : Int)
theorem ofB_len (s : ByteArray) : (ofB s).length = s.size := by rw [ofB, List.length_map, size_list]

theorem signs_any (s : ByteArray) (hs : s.size <= 1000000) (w : World) :
  Calls Tryz.prog 253 #[.string s] w (RowPost w 3 (ofB s)) := by
 go_enter Tryz.func253, Tryz.ntmps253
 go_wp2
 go_loopw [3, 4] (fun v i wr => ∃ (k : Nat), k <= s.size /\ i = .int .i64 k /\ wr.ownsRow w.heap.size 3 1 v k (II ((ofB s).take k)) /\ Below w.heap.size w wr)
  (fun _ i _ => s.size - (intOf i).toNat)
 case atStart => exact ⟨0, by omega, rfl, World.ownsRow_lit w #[] 0 (Nat.le_refl _) (by unfold maxLen; omega) rfl, belA (bel0 w) _⟩
 case round =>
  obtain ⟨k, hk, rfl, hown, hbel⟩ := hrel
  have hsz := hbel.size
  by_cases hlt : k < s.size
  ·have hb := (s[k]'hlt).toNat_lt
   have Hs := Lib.hid (show (ofB s).take (k + 1) = (ofB s).take k ++ [((s[k]'hlt).toNat : Int)] by
    unfold ofB; rw [<- List.map_take, <- List.map_take, take_snoc s k hlt, List.map_append]; rfl)
   go_wp2_with (at_builtin; go_must (refine wpList_app _ rfl _ _ _ rfl Tryz.el_int (hown.alloc _) rfl (reads_new _ _ _ _ 1 (by rfl)) rfl (by simp [Value.oneCell']) (max_small (by omega)) (by omega) (by simp; omega) ?_); intro v1 w1 own1 hg1 _ hb1)
   go_roundw
   case rel => exact ⟨k + 1, by omega, by go_num, by rw [Hs.out, II_append]; exact own1, (hbel.alloc hsz _).trans hb1⟩
   case measure => simp [intOf]; omega
  ·obtain rfl : k = s.size := by omega
   rw [List.take_of_length_le (by rw [ofB_len]; exact Nat.le_refl _)] at hown
   go_wp2
   go_ret
   exact ⟨_, rfl, by rw [ofB_len]; exact hown, hbel⟩

/-- Where a number stands in a row. -/
def IdxR (xs : List Int) (q r : Int) : Prop := (r = -1 /\ q ∉ xs) ∨ ∃ k, ∃ hk : k < xs.length, r = (k : Int) /\ xs[k] = q

theorem index_any (A : Option Addr) (n c : Nat) (xs : List Int) (q : Int) (hn : n <= 10000000) (w : World) (hr : Reads w w.heap.size 1 A n (II xs)) :
  Calls Tryz.prog 129 #[.slice A n c, .int .i64 q] w fun e w' => ∃ r : Int, e = .returned (.int .i64 r) /\ IdxR xs q r /\ Below w.heap.size w w' := by
 have hl : xs.length = n := by have := hr.1; rw [II_length] at this; omega
 have Hr := Lib.hid hr
 clear hr
 go_enter Tryz.func129, Tryz.ntmps129
 go_wp2
 go_loopw [8] (fun i wr => ∃ (j : Nat), j <= n /\ i = .int .i64 j /\ Hid (q ∉ xs.take j) /\ Below w.heap.size w wr)
  (fun i _ => n - (intOf i).toNat)
 case atStart => exact ⟨0, by omega, rfl, by simp [Hid], bel0 w⟩
 case round =>
  obtain ⟨j, hj, rfl, hno, hbel⟩ := hrel
  by_cases hlt : j < n
  ·obtain ⟨hkx, ad, rfl, hadb, z0⟩ := reads_at (Hr.out.below hbel) hlt
   have q0 : (0 : Int) <= ↑j := by omega
   have q1 : (↑j : Int) < ↑n := by omega
   have Hs := Lib.hid (List.take_succ_eq_append_getElem hkx)
   obtain ⟨x, hx⟩ : ∃ x, xs[j] = x := ⟨_, rfl⟩
   have Hx := Lib.hid hx
   rw [hx] at z0 Hs
   clear hx
   by_cases he : q = x
   ·have He := Lib.hid he
    have he' : (q == x) = true := by simpa using he
    clear he
    go_wp2
    go_ret
    exact ⟨_, rfl, .inr ⟨j, hkx, rfl, by rw [Hx.out, He.out]⟩, hbel⟩
   ·have He := Lib.hid he
    have he' : (q == x) = false := by simpa using he
    clear he
    go_wp2
    go_roundw
    case rel => exact ⟨j + 1, by omega, by go_num, by show ¬ _; rw [Hs.out, List.mem_append]; rintro (h | h); exact hno.out h; exact He.out (by simpa using h), hbel⟩
    case measure => simp [intOf]; omega
  ·have Hn := Lib.hid (show q ∉ xs by have := hno.out; rwa [List.take_of_length_le (by omega)] at this)
   go_wp2
   go_ret
   exact ⟨_, rfl, .inl ⟨rfl, Hn.out⟩, hbel⟩

/-- What a row of the table leaves. -/
def RowsPost (w : World) (T : TypeId) (i : Nat) (e : Ending) (w' : World) : Prop :=
 ∃ v1 v2, e = .returned (.tuple #[v1, v2, .int .i64 (rowMark i)]) /\ w'.ownsRow w.heap.size T 1 v1 (rowFrom i).length (II (rowFrom i)) /\ w'.ownsRow w.heap.size T 1 v2 (rowLets i).length (II (rowLets i)) /\ Below w.heap.size w w'
theorem reads_newG (W : World) (g : Nat) (hg : g = W.heap.size) (cs : Array Value) (e : TypeId) (size m : Nat) (hs : cs.size = m * size) : Reads (W.alloc (.cells cs e)) (g + 1) size (some ⟨g, 0, none⟩) m cs.toList := by
 subst hg
 exact reads_new W cs e size m hs
theorem lit_own (w : World) (T : TypeId) (xs : List Int) (cs : Array Value) (hc : cs.toList = II xs) (h63 : xs.length <= 1000) :
  (w.alloc (.cells cs T)).ownsRow w.heap.size T 1 (.slice (some ⟨w.heap.size, 0, none⟩) xs.length xs.length) xs.length (II xs) := by
 rw [<- hc]
 exact World.ownsRow_lit w cs xs.length (Nat.le_refl _) (by unfold maxLen; omega) (by rw [<- Array.length_toList, hc, II_length]; omega)
theorem lit_at (w W : World) (T : TypeId) (xs : List Int) (cs : Array Value) (g : Nat) (hg : g = W.heap.size) (hw : w.heap.size <= W.heap.size) (hc : cs.toList = II xs) (h63 : xs.length <= 1000) :
  (W.alloc (.cells cs T)).ownsRow w.heap.size T 1 (.slice (some ⟨g, 0, none⟩) xs.length xs.length) xs.length (II xs) := by
 subst hg
 exact own_more (lit_own W T xs cs hc h63) hw

theorem row_0 (w : World) : Calls Tryz.prog 251 #[.int .i64 0] w (RowsPost w 3 0) := by
 go_enter Tryz.func251, Tryz.ntmps251
 go_wp2_with (go_at_call 253; refine (signs_any _ (by decide) _).mono ?_; rintro e w1 ⟨v, rfl, hown, hb1⟩)
 go_ret3
 exact ⟨_, _, rfl, own_below (lit_own w 3 (rowFrom 0) _ rfl (by decide)) hb1 (Nat.le_refl _), own_more hown (by simp), belN (belA (bel0 w) _) hb1⟩
theorem row_1 (w : World) : Calls Tryz.prog 251 #[.int .i64 1] w (RowsPost w 3 1) := by
 go_enter Tryz.func251, Tryz.ntmps251
 go_wp2_with (go_at_call 253; refine (signs_any _ (by decide) _).mono ?_; rintro e w1 ⟨v, rfl, hown, hb1⟩)
 go_ret3
 exact ⟨_, _, rfl, own_below (lit_own w 3 (rowFrom 1) _ rfl (by decide)) hb1 (Nat.le_refl _), own_more hown (by simp), belN (belA (bel0 w) _) hb1⟩
theorem row_2 (w : World) : Calls Tryz.prog 251 #[.int .i64 2] w (RowsPost w 3 2) := by
 go_enter Tryz.func251, Tryz.ntmps251
 go_wp2_with (go_at_call 253; refine (signs_any _ (by decide) _).mono ?_; rintro e w1 ⟨v, rfl, hown, hb1⟩)
 go_ret3
 exact ⟨_, _, rfl, own_below (lit_own w 3 (rowFrom 2) _ rfl (by decide)) hb1 (Nat.le_refl _), own_more hown (by simp), belN (belA (bel0 w) _) hb1⟩
theorem row_3 (w : World) : Calls Tryz.prog 251 #[.int .i64 3] w (RowsPost w 3 3) := by
 go_enter Tryz.func251, Tryz.ntmps251
 go_wp2_with (go_at_call 253; refine (signs_any _ (by decide) _).mono ?_; rintro e w1 ⟨v, rfl, hown, hb1⟩)
 go_ret3
 exact ⟨_, _, rfl, own_below (lit_own w 3 (rowFrom 3) _ rfl (by decide)) hb1 (Nat.le_refl _), own_more hown (by simp), belN (belA (bel0 w) _) hb1⟩
theorem row_4 (w : World) : Calls Tryz.prog 251 #[.int .i64 4] w (RowsPost w 3 4) := by
 go_enter Tryz.func251, Tryz.ntmps251
 go_wp2_with (go_at_call 253; refine (signs_any _ (by decide) _).mono ?_; rintro e w1 ⟨v, rfl, hown, hb1⟩)
 go_ret3
 exact ⟨_, _, rfl, own_below (lit_own w 3 (rowFrom 4) _ rfl (by decide)) hb1 (Nat.le_refl _), own_more hown (by simp), belN (belA (bel0 w) _) hb1⟩
theorem row_5 (w : World) : Calls Tryz.prog 251 #[.int .i64 5] w (RowsPost w 3 5) := by
 go_enter Tryz.func251, Tryz.ntmps251
 go_wp2_with (go_at_call 253; refine (signs_any _ (by decide) _).mono ?_; rintro e w1 ⟨v, rfl, hown, hb1⟩)
 go_ret3
 exact ⟨_, _, rfl, own_below (lit_own w 3 (rowFrom 5) _ rfl (by decide)) hb1 (Nat.le_refl _), own_more hown (by simp), belN (belA (bel0 w) _) hb1⟩
theorem row_6 (w : World) : Calls Tryz.prog 251 #[.int .i64 6] w (RowsPost w 3 6) := by
 go_enter Tryz.func251, Tryz.ntmps251
 go_wp2_with (go_at_call 253; refine (signs_any _ (by decide) _).mono ?_; rintro e w1 ⟨v, rfl, hown, hb1⟩)
 go_ret3
 exact ⟨_, _, rfl, own_below (lit_own w 3 (rowFrom 6) _ rfl (by decide)) hb1 (Nat.le_refl _), own_more hown (by simp), belN (belA (bel0 w) _) hb1⟩
theorem row_7 (w : World) : Calls Tryz.prog 251 #[.int .i64 7] w (RowsPost w 3 7) := by
 go_enter Tryz.func251, Tryz.ntmps251
 go_wp2
 go_ret3
 exact ⟨_, _, rfl, own_below (lit_own w 3 (rowFrom 7) _ rfl (by decide)) (belA (bel0 _) _) (Nat.le_refl _), lit_at w _ 3 (rowLets 7) _ _ (by simp) (by simp) rfl (by decide), belA (belA (bel0 w) _) _⟩
theorem row_8 (w : World) : Calls Tryz.prog 251 #[.int .i64 8] w (RowsPost w 3 8) := by
 go_enter Tryz.func251, Tryz.ntmps251
 go_wp2
 go_ret3
 exact ⟨_, _, rfl, own_below (lit_own w 3 (rowFrom 8) _ rfl (by decide)) (belA (bel0 _) _) (Nat.le_refl _), lit_at w _ 3 (rowLets 8) _ _ (by simp) (by simp) rfl (by decide), belA (belA (bel0 w) _) _⟩
theorem row_9 (w : World) : Calls Tryz.prog 251 #[.int .i64 9] w (RowsPost w 3 9) := by
 go_enter Tryz.func251, Tryz.ntmps251
 go_wp2
 go_ret3
 exact ⟨_, _, rfl, own_below (lit_own w 3 (rowFrom 9) _ rfl (by decide)) (belA (bel0 _) _) (Nat.le_refl _), lit_at w _ 3 (rowLets 9) _ _ (by simp) (by simp) rfl (by decide), belA (belA (bel0 w) _) _⟩
theorem row_10 (w : World) : Calls Tryz.prog 251 #[.int .i64 10] w (RowsPost w 3 10) := by
 go_enter Tryz.func251, Tryz.ntmps251
 go_wp2_with (go_at_call 253; refine (signs_any _ (by decide) _).mono ?_; rintro e w1 ⟨v, rfl, hown, hb1⟩)
 go_ret3
 exact ⟨_, _, rfl, own_below (lit_own w 3 (rowFrom 10) _ rfl (by decide)) hb1 (Nat.le_refl _), own_more hown (by simp), belN (belA (bel0 w) _) hb1⟩
theorem row_11 (w : World) : Calls Tryz.prog 251 #[.int .i64 11] w (RowsPost w 3 11) := by
 go_enter Tryz.func251, Tryz.ntmps251
 go_wp2
 go_ret3
 exact ⟨_, _, rfl, own_below (lit_own w 3 (rowFrom 11) _ rfl (by decide)) (belA (bel0 _) _) (Nat.le_refl _), lit_at w _ 3 (rowLets 11) _ _ (by simp) (by simp) rfl (by decide), belA (belA (bel0 w) _) _⟩
theorem row_12 (w : World) : Calls Tryz.prog 251 #[.int .i64 12] w (RowsPost w 3 12) := by
 go_enter Tryz.func251, Tryz.ntmps251
 go_wp2
 go_ret3
 exact ⟨_, _, rfl, own_below (lit_own w 3 (rowFrom 12) _ rfl (by decide)) (belA (bel0 _) _) (Nat.le_refl _), lit_at w _ 3 (rowLets 12) _ _ (by simp) (by simp) rfl (by decide), belA (belA (bel0 w) _) _⟩
theorem row_any (i : Nat) (hi : i < 13) (w : World) : Calls Tryz.prog 251 #[.int .i64 i] w (RowsPost w 3 i) := by
 match i, hi with
 | 0, _ => exact row_0 w
 | 1, _ => exact row_1 w
 | 2, _ => exact row_2 w
 | 3, _ => exact row_3 w
 | 4, _ => exact row_4 w
 | 5, _ => exact row_5 w
 | 6, _ => exact row_6 w
 | 7, _ => exact row_7 w
 | 8, _ => exact row_8 w
 | 9, _ => exact row_9 w
 | 10, _ => exact row_10 w
 | 11, _ => exact row_11 w
 | 12, _ => exact row_12 w
 | n + 13, h => exact absurd h (by omega)
theorem rows_same : ∀ i, i < 13 -> (rowLets i).length = (rowFrom i).length /\ 0 <= rowMark i /\ rowMark i <= 1000 /\ (rowFrom i).length <= 12 := by decide +kernel

theorem parts_impl (c : Int) (w : World) :
  Calls Tryz.prog 248 #[.int .i64 c] w (RowPost w 3 (partsL c)) := by
 rcases hh : inI c 44032 55203 with _ | _
 rotate_left
 ·have Hp := Lib.hid (parts_hang hh)
  obtain ⟨h0, h1⟩ := inI_true.1 hh
  by_cases hm : 0 < (c - 44032) % 28
  ·have Hh := Lib.hid (show hang c = [4352 + (c - 44032) / 588, 4449 + (c - 44032) % 588 / 28] ++ [4519 + (c - 44032) % 28] by unfold hang; rw [if_pos hm])
   go_enter Tryz.func248, Tryz.ntmps248
   go_wp2_with (first
    | (go_at_call 67; refine (within_any _ _ _ _).mono ?_; rintro e w' ⟨rfl, rfl⟩)
    | (at_builtin; go_must (refine wpList_app _ rfl _ _ _ rfl Tryz.el_int (World.ownsRow_lit (e := 3) (size := 1) w #[.int .i64 (4352 + (c - 44032) / 588), .int .i64 (4449 + (c - 44032) % 588 / 28)] 2 (Nat.le_refl _) (by unfold maxLen; omega) rfl |>.alloc _) rfl (reads_newG _ (w.heap.size + 1) (by simp) _ _ _ 1 (by rfl)) rfl (by simp [Value.oneCell']) (max_small (by omega)) (by omega) (by simp; omega) ?_); intro v1 w1 own1 hg1 _ hb1))
   go_ret
   refine ⟨_, rfl, ?_, (belA (belA (bel0 w) _) _).trans hb1⟩
   rw [Hp.out, Hh.out]; exact own1
  ·have Hh := Lib.hid (show hang c = [4352 + (c - 44032) / 588, 4449 + (c - 44032) % 588 / 28] by unfold hang; rw [if_neg hm, List.append_nil])
   go_enter Tryz.func248, Tryz.ntmps248
   go_wp2_with (go_at_call 67; refine (within_any _ _ _ _).mono ?_; rintro e w' ⟨rfl, rfl⟩)
   go_ret
   rw [Hp.out, Hh.out]
   exact row_lit w _ _ _ _ rfl rfl (by simp)
 rcases hk : inI c 192 8491 with _ | _
 ·have Hp := Lib.hid (parts_out hh hk)
  go_enter Tryz.func248, Tryz.ntmps248
  go_wp2_with (go_at_call 67; refine (within_any _ _ _ _).mono ?_; rintro e w' ⟨rfl, rfl⟩)
  go_ret
  rw [Hp.out]
  exact row_lit w _ _ _ _ rfl rfl (by simp)
 go_enter Tryz.func248, Tryz.ntmps248
 go_wp2_with (go_at_call 67; refine (within_any _ _ _ _).mono ?_; rintro e w' ⟨rfl, rfl⟩)
 have Hh := Lib.hid hh
 clear hh hk
 go_loopw [36] (fun i wr => ∃ (k : Nat), k <= 13 /\ i = .int .i64 k /\ Hid (∀ j, j < k -> c ∉ rowFrom j) /\ Below w.heap.size w wr)
  (fun i _ => 13 - (intOf i).toNat)
 case atStart => exact ⟨0, by omega, rfl, fun j hj => absurd hj (by omega), bel0 w⟩
 case round =>
  obtain ⟨k, hk, rfl, hno, hbel⟩ := hrel
  by_cases hlt : k < 13
  ·have hsame := rows_same k hlt
   obtain ⟨hl, hM0, hM1, hl12⟩ := hsame
   go_wp2_with fail
   refine (row_any k hlt _).mono ?_
   rintro e w1 ⟨v1, v2, rfl, own1, own2, hb1⟩
   obtain ⟨A1, c1, rfl, _, _, hr1⟩ := own_vals own1
   have Own2 := Lib.hid own2
   have b1 := belN hbel hb1
   clear own1 own2
   go_wp2_with fail
   refine (index_any A1 _ c1 (rowFrom k) c (by omega) _ hr1).mono ?_
   rintro e w2 ⟨r, rfl, hidx, hb2⟩
   have b2 := belN b1 hb2
   rcases hidx with ⟨rfl, hmiss⟩ | ⟨x, hx, rfl, hit⟩
   ·have Hmiss := Lib.hid hmiss
    clear hmiss
    go_wp2
    go_roundw
    case rel =>
     refine ⟨k + 1, by omega, by go_num, fun j hj => ?_, b2⟩
     rcases Nat.lt_or_ge j k with h | h
     ·exact hno.out j h
     ·rw [show j = k by omega]; exact Hmiss.out
    case measure => simp [intOf]; omega
   ·have Hp := Lib.hid (parts_hit hlt hx hit).1
    obtain ⟨A2, c2, rfl, _, _, hr2⟩ := own_vals (own_below Own2.out hb2 (Nat.le_refl _))
    obtain ⟨hx2, ad, rfl, hadb, hcell⟩ := reads_at hr2 (k := x) (by omega)
    have Hg := Lib.hid (show (rowLets k).getD x 0 = (rowLets k)[x] by simp [List.getD, hx2])
    obtain ⟨y, hy⟩ : ∃ y, (rowLets k)[x] = y := ⟨_, rfl⟩
    rw [hy] at hcell Hg
    clear hy
    obtain ⟨n2, hn2⟩ : ∃ n2, (rowLets k).length = n2 := ⟨_, rfl⟩
    rw [hn2] at hx2 ⊢
    clear hn2 hl hit hr1 hr2
    have p0 : (0 : Int) <= ↑x := by omega
    have p1 : (x : Int) < ↑n2 := by omega
    by_cases hM : rowMark k = 0
    ·have Hr := Lib.hid (show rowParts k x = [y] by unfold rowParts; rw [if_pos hM, Hg.out])
     rw [hM]
     clear hM hM0 hM1
     go_wp2
     go_ret
     rw [Hp.out, Hr.out]
     exact row_lit2 b2 _ _ _ rfl rfl (by simp)
    ·have Hr := Lib.hid (show rowParts k x = [y, rowMark k] by unfold rowParts; rw [if_neg hM, Hg.out])
     obtain ⟨M, hMM⟩ : ∃ M, rowMark k = M := ⟨_, rfl⟩
     rw [hMM] at Hr hM hM0 hM1 ⊢
     clear hMM
     go_wp2
     go_ret
     rw [Hp.out, Hr.out]
     exact row_lit2 b2 _ _ _ rfl rfl (by simp)
  ·have Hp := Lib.hid (parts_miss Hh.out (fun j hj => hno.out j (by omega)))
   go_wp2
   go_ret
   rw [Hp.out]
   exact row_lit2 hbel _ _ _ rfl rfl (by simp)

/-- What a row of signs, letters and a mark leaves. -/
def HitPost (w : World) (T : TypeId) (c : Int) (xs ls : List Int) (m : Int) (e : Ending) (w' : World) : Prop :=
 (c ∉ xs /\ RowPost w T [] e w') ∨ ∃ k, ∃ hk : k < xs.length, xs[k] = c /\ RowPost w T [ls.getD k 0, m] e w'

theorem l3Row_any (q m : Int) (A : Option Addr) (n c : Nat) (xs : List Int) (s : ByteArray) (hn : n <= 1000) (hz : s.size = n) (w : World) (hr : Reads w w.heap.size 1 A n (II xs)) :
  Calls Tryz.prog 243 #[.int .i64 q, .slice A n c, .string s, .int .i64 m] w (HitPost w 3 q xs (ofB s) m) := by
 have hl : xs.length = n := by have := hr.1; rw [II_length] at this; omega
 have Hr := Lib.hid hr
 have Hz := Lib.hid hz
 have hz0 : n <= s.size := by omega
 have hz1 : s.size <= n := by omega
 clear hr hz
 go_enter Tryz.func243, Tryz.ntmps243
 go_wp2
 go_loopw [9] (fun i wr => ∃ (j : Nat), j <= n /\ i = .int .i64 j /\ Hid (q ∉ xs.take j) /\ Below w.heap.size w wr)
  (fun i _ => n - (intOf i).toNat)
 case atStart => exact ⟨0, by omega, rfl, by simp [Hid], bel0 w⟩
 case round =>
  obtain ⟨j, hj, rfl, hno, hbel⟩ := hrel
  by_cases hlt : j < n
  ·obtain ⟨hkx, ad, rfl, hadb, z0⟩ := reads_at (Hr.out.below hbel) hlt
   have q0 : (0 : Int) <= ↑j := by omega
   have q1 : (↑j : Int) < ↑n := by omega
   have q2 : (↑j : Int) < ↑s.size := by omega
   have hjs : j < s.size := by omega
   have hb := (s[j]'hjs).toNat_lt
   have Hs := Lib.hid (List.take_succ_eq_append_getElem hkx)
   have Hg := Lib.hid (show (ofB s).getD j 0 = ((s[j]'hjs).toNat : Int) by
    have h1 : j < (ofB s).length := by rw [ofB_len]; exact hjs
    simp only [List.getD, List.getElem?_eq_getElem h1, Option.getD_some]
    have h2 : (ofB s)[j]? = some ((s[j]'hjs).toNat : Int) := by
     unfold ofB; rw [List.getElem?_map, List.getElem?_eq_getElem (by rw [size_list]; exact hjs)]; rfl
    rw [List.getElem?_eq_getElem h1] at h2; injection h2)
   obtain ⟨x, hx⟩ : ∃ x, xs[j] = x := ⟨_, rfl⟩
   have Hx := Lib.hid hx
   rw [hx] at z0 Hs
   clear hx
   by_cases he : x = q
   ·have He := Lib.hid he
    have he' : (x == q) = true := by simpa using he
    clear he
    go_wp2
    go_ret
    refine .inr ⟨j, hkx, by rw [Hx.out, He.out], ?_⟩
    rw [Hg.out]
    exact row_lit2 hbel _ _ _ rfl rfl (by simp)
   ·have He := Lib.hid he
    have he' : (x == q) = false := by simpa using he
    clear he
    go_wp2
    go_roundw
    case rel => exact ⟨j + 1, by omega, by go_num, by show ¬ _; rw [Hs.out, List.mem_append]; rintro (h | h); exact hno.out h; exact He.out (by simpa using (List.mem_singleton.1 h).symm), hbel⟩
    case measure => simp [intOf]; omega
  ·have Hn := Lib.hid (show q ∉ xs by have := hno.out; rwa [List.take_of_length_le (by omega)] at this)
   go_wp2
   go_ret
   exact .inl ⟨Hn.out, row_lit2 hbel _ _ _ rfl rfl (by simp)⟩

theorem l3Row_miss (q m : Int) (A : Option Addr) (n c : Nat) (xs : List Int) (s : ByteArray) (hn : n <= 1000) (hz : s.size = n) (hm : q ∉ xs) (w : World) (hr : Reads w w.heap.size 1 A n (II xs)) :
  Calls Tryz.prog 243 #[.int .i64 q, .slice A n c, .string s, .int .i64 m] w (RowPost w 3 []) :=
 (l3Row_any q m A n c xs s hn hz w hr).mono fun _ _ h => h.elim (·.2) (fun ⟨_, hk, he, _⟩ => absurd (he ▸ List.getElem_mem hk) hm)
theorem l3Row_hit (q m : Int) (A : Option Addr) (n c : Nat) (xs : List Int) (s : ByteArray) (hn : n <= 1000) (hz : s.size = n) (hm : q ∈ xs) (w : World) (hr : Reads w w.heap.size 1 A n (II xs)) :
  Calls Tryz.prog 243 #[.int .i64 q, .slice A n c, .string s, .int .i64 m] w fun e w' => ∃ k, ∃ hk : k < xs.length, xs[k] = q /\ RowPost w 3 [(ofB s).getD k 0, m] e w' :=
 (l3Row_any q m A n c xs s hn hz w hr).mono fun _ _ h => h.elim (fun h => absurd hm h.1) (fun h => h)
/-- The rows as the reference has them. -/
def perm (k : Nat) : Nat := if k < 7 then k else 10
theorem perm_lt (k : Nat) : perm k < 13 := by unfold perm; split <;> omega
def specStrs : List ByteArray := [str [65, 69, 73, 79, 85, 97, 101, 105, 111, 117], str [65, 69, 73, 79, 85, 89, 97, 101, 105, 111, 117, 121], str [65, 69, 73, 79, 85, 97, 101, 105, 111, 117], str [65, 78, 79, 97, 110, 111], str [65, 69, 73, 79, 85, 97, 101, 105, 111, 117, 121], str [65, 97], str [67, 99], str [65, 97]]
def specMarks : List Int := [768, 769, 770, 771, 776, 778, 807, 803]
def litRow (w : World) (i : Nat) : World := w.alloc (.cells (II (rowFrom i)).toArray 3)
def specRows (w : World) : World := litRow (litRow (litRow (litRow (litRow (litRow (litRow (litRow w 0) 1) 2) 3) 4) 5) 6) 10
def specW (w : World) : World :=
 (((specRows w).alloc (.cells #[.slice (some ⟨w.heap.size, 0, none⟩) 10 10, .slice (some ⟨w.heap.size + 1, 0, none⟩) 12 12, .slice (some ⟨w.heap.size + 2, 0, none⟩) 10 10, .slice (some ⟨w.heap.size + 3, 0, none⟩) 6 6, .slice (some ⟨w.heap.size + 4, 0, none⟩) 11 11, .slice (some ⟨w.heap.size + 5, 0, none⟩) 2 2, .slice (some ⟨w.heap.size + 6, 0, none⟩) 2 2, .slice (some ⟨w.heap.size + 7, 0, none⟩) 2 2] 73)).alloc (.cells (specStrs.map Value.string).toArray 9)).alloc (.cells (II specMarks).toArray 3)
theorem litRow_size (w : World) (i : Nat) : (litRow w i).heap.size = w.heap.size + 1 := by simp [litRow]
theorem litRow_own (w : World) (i : Nat) (hi : i < 13) : (litRow w i).ownsRow w.heap.size 3 1 (.slice (some ⟨w.heap.size, 0, none⟩) (rowFrom i).length (rowFrom i).length) (rowFrom i).length (II (rowFrom i)) :=
 lit_own w 3 (rowFrom i) _ rfl (by have := (rows_same i hi).2.2.2; omega)
theorem belR {a W : World} (h : Below a.heap.size a W) (i : Nat) : Below a.heap.size a (litRow W i) := belA h _
theorem specRows_size (w : World) : (specRows w).heap.size = w.heap.size + 8 := by simp [specRows, litRow]
/-- What lies at a place of the reference's rows. -/
def SpecAt (w W : World) (k : Nat) : Prop :=
 W.cell? ⟨w.heap.size + 8, k, none⟩ = some (.slice (some ⟨w.heap.size + k, 0, none⟩) (rowFrom (perm k)).length (rowFrom (perm k)).length) /\
 W.ownsRow w.heap.size 3 1 (.slice (some ⟨w.heap.size + k, 0, none⟩) (rowFrom (perm k)).length (rowFrom (perm k)).length) (rowFrom (perm k)).length (II (rowFrom (perm k))) /\
 (∃ s, W.cell? ⟨w.heap.size + 9, k, none⟩ = some (.string s) /\ s.size = (rowFrom (perm k)).length /\ ofB s = rowLets (perm k)) /\
 W.cell? ⟨w.heap.size + 10, k, none⟩ = some (.int .i64 (rowMark (perm k)))
theorem specW_b8 (w : World) : Blk (specW w) (w.heap.size + 8) 73 #[.slice (some ⟨w.heap.size, 0, none⟩) 10 10, .slice (some ⟨w.heap.size + 1, 0, none⟩) 12 12, .slice (some ⟨w.heap.size + 2, 0, none⟩) 10 10, .slice (some ⟨w.heap.size + 3, 0, none⟩) 6 6, .slice (some ⟨w.heap.size + 4, 0, none⟩) 11 11, .slice (some ⟨w.heap.size + 5, 0, none⟩) 2 2, .slice (some ⟨w.heap.size + 6, 0, none⟩) 2 2, .slice (some ⟨w.heap.size + 7, 0, none⟩) 2 2] :=
 ((Blk.new' (specRows w) _ _ (w.heap.size + 8) (specRows_size w).symm).alloc _).alloc _
theorem specW_b9 (w : World) : Blk (specW w) (w.heap.size + 9) 9 (specStrs.map Value.string).toArray :=
 (Blk.new' ((specRows w).alloc _) _ _ (w.heap.size + 9) (by have := specRows_size w; simp; omega)).alloc _
theorem specW_b10 (w : World) : Blk (specW w) (w.heap.size + 10) 3 (II specMarks).toArray :=
 Blk.new' (((specRows w).alloc _).alloc _) _ _ (w.heap.size + 10) (by have := specRows_size w; simp; omega)
theorem own_start {W W' : World} {base b0 : Nat} {T : TypeId} {n g g' c : Nat} {xs : List Value} (h : W.ownsRow base T 1 (.slice (some ⟨g, 0, none⟩) n c) n xs) (hg : g = g') (hb : b0 <= base) (hw : Below W.heap.size W W') : W'.ownsRow b0 T 1 (.slice (some ⟨g', 0, none⟩) n c) n xs := by
 subst hg
 exact own_more (own_below h hw (Nat.le_refl _)) hb
theorem spec_at0 (w : World) : SpecAt w (specW w) 0 := by
 refine ⟨(specW_b8 w).get 0 rfl, ?_, ⟨_, (specW_b9 w).get 0 rfl, by decide, by decide⟩, (specW_b10 w).get 0 rfl⟩
 exact own_start (litRow_own w 0 (by omega)) (by first | rfl | simp only [litRow_size]) (by first | exact Nat.le_refl _ | (simp only [litRow_size]; omega)) (by unfold specW specRows; repeat (first | exact bel0 _ | refine belA ?_ _ | refine belR ?_ _))
theorem spec_at1 (w : World) : SpecAt w (specW w) 1 := by
 refine ⟨(specW_b8 w).get 1 rfl, ?_, ⟨_, (specW_b9 w).get 1 rfl, by decide, by decide⟩, (specW_b10 w).get 1 rfl⟩
 exact own_start (litRow_own (litRow w 0) 1 (by omega)) (by first | rfl | simp only [litRow_size]) (by first | exact Nat.le_refl _ | (simp only [litRow_size]; omega)) (by unfold specW specRows; repeat (first | exact bel0 _ | refine belA ?_ _ | refine belR ?_ _))
theorem spec_at2 (w : World) : SpecAt w (specW w) 2 := by
 refine ⟨(specW_b8 w).get 2 rfl, ?_, ⟨_, (specW_b9 w).get 2 rfl, by decide, by decide⟩, (specW_b10 w).get 2 rfl⟩
 exact own_start (litRow_own (litRow (litRow w 0) 1) 2 (by omega)) (by first | rfl | simp only [litRow_size]) (by first | exact Nat.le_refl _ | (simp only [litRow_size]; omega)) (by unfold specW specRows; repeat (first | exact bel0 _ | refine belA ?_ _ | refine belR ?_ _))
theorem spec_at3 (w : World) : SpecAt w (specW w) 3 := by
 refine ⟨(specW_b8 w).get 3 rfl, ?_, ⟨_, (specW_b9 w).get 3 rfl, by decide, by decide⟩, (specW_b10 w).get 3 rfl⟩
 exact own_start (litRow_own (litRow (litRow (litRow w 0) 1) 2) 3 (by omega)) (by first | rfl | simp only [litRow_size]) (by first | exact Nat.le_refl _ | (simp only [litRow_size]; omega)) (by unfold specW specRows; repeat (first | exact bel0 _ | refine belA ?_ _ | refine belR ?_ _))
theorem spec_at4 (w : World) : SpecAt w (specW w) 4 := by
 refine ⟨(specW_b8 w).get 4 rfl, ?_, ⟨_, (specW_b9 w).get 4 rfl, by decide, by decide⟩, (specW_b10 w).get 4 rfl⟩
 exact own_start (litRow_own (litRow (litRow (litRow (litRow w 0) 1) 2) 3) 4 (by omega)) (by first | rfl | simp only [litRow_size]) (by first | exact Nat.le_refl _ | (simp only [litRow_size]; omega)) (by unfold specW specRows; repeat (first | exact bel0 _ | refine belA ?_ _ | refine belR ?_ _))
theorem spec_at5 (w : World) : SpecAt w (specW w) 5 := by
 refine ⟨(specW_b8 w).get 5 rfl, ?_, ⟨_, (specW_b9 w).get 5 rfl, by decide, by decide⟩, (specW_b10 w).get 5 rfl⟩
 exact own_start (litRow_own (litRow (litRow (litRow (litRow (litRow w 0) 1) 2) 3) 4) 5 (by omega)) (by first | rfl | simp only [litRow_size]) (by first | exact Nat.le_refl _ | (simp only [litRow_size]; omega)) (by unfold specW specRows; repeat (first | exact bel0 _ | refine belA ?_ _ | refine belR ?_ _))
theorem spec_at6 (w : World) : SpecAt w (specW w) 6 := by
 refine ⟨(specW_b8 w).get 6 rfl, ?_, ⟨_, (specW_b9 w).get 6 rfl, by decide, by decide⟩, (specW_b10 w).get 6 rfl⟩
 exact own_start (litRow_own (litRow (litRow (litRow (litRow (litRow (litRow w 0) 1) 2) 3) 4) 5) 6 (by omega)) (by first | rfl | simp only [litRow_size]) (by first | exact Nat.le_refl _ | (simp only [litRow_size]; omega)) (by unfold specW specRows; repeat (first | exact bel0 _ | refine belA ?_ _ | refine belR ?_ _))
theorem spec_at7 (w : World) : SpecAt w (specW w) 7 := by
 refine ⟨(specW_b8 w).get 7 rfl, ?_, ⟨_, (specW_b9 w).get 7 rfl, by decide, by decide⟩, (specW_b10 w).get 7 rfl⟩
 exact own_start (litRow_own (litRow (litRow (litRow (litRow (litRow (litRow (litRow w 0) 1) 2) 3) 4) 5) 6) 10 (by omega)) (by first | rfl | simp only [litRow_size]) (by first | exact Nat.le_refl _ | (simp only [litRow_size]; omega)) (by unfold specW specRows; repeat (first | exact bel0 _ | refine belA ?_ _ | refine belR ?_ _))
theorem spec_at (w : World) (k : Nat) (hk : k < 8) : SpecAt w (specW w) k := by
 match k, hk with
 | 0, _ => exact spec_at0 w
 | 1, _ => exact spec_at1 w
 | 2, _ => exact spec_at2 w
 | 3, _ => exact spec_at3 w
 | 4, _ => exact spec_at4 w
 | 5, _ => exact spec_at5 w
 | 6, _ => exact spec_at6 w
 | 7, _ => exact spec_at7 w
 | n + 8, h => exact absurd h (by omega)
theorem specW_bel (w : World) : Below w.heap.size w (specW w) := by unfold specW specRows; repeat (first | exact bel0 _ | refine belA ?_ _ | refine belR ?_ _)
theorem specW_size (w : World) : (specW w).heap.size = w.heap.size + 11 := by have := specRows_size w; simp [specW]; omega
theorem SpecAt.next {w W W' : World} {k : Nat} (h : SpecAt w W k) (hb : Below W.heap.size W W') : SpecAt w W' k := by
 obtain ⟨h1, h2, ⟨s, h3, h4⟩, h5⟩ := h
 exact ⟨kp_ hb h1, own_below h2 hb (Nat.le_refl _), ⟨s, kp_ hb h3, h4⟩, kp_ hb h5⟩
theorem mark_pos : ∀ k, k < 8 -> rowMark (perm k) ≠ 0 := by decide +kernel
def greek : List Int := rowFrom 7 ++ rowFrom 8
def greekL : List Int := rowLets 7 ++ rowLets 8
theorem greek_hit0 : ∀ j, j < 14 -> partsL (greek.getD j 0) = [greekL.getD j 0, 769] := by decide +kernel
theorem greek_no {c : Int} (h : ∀ x, x < 14 -> greek.getD x 0 ≠ c) (hm : c ∈ greek) : False := by
 obtain ⟨k, hk, he⟩ := List.getElem_of_mem hm
 exact h k hk (by simp [List.getD, hk, he])

theorem parts_spec (c : Int) (w : World) :
  Calls Tryz.prog 226 #[.int .i64 c] w (RowPost w 3 (partsL c)) := by
 go_enter Tryz.func226, Tryz.ntmps226
 go_wp2
 have hsp := specW_size w
 have hbe := specW_bel w
 go_loopw [6] (fun i wr => ∃ (k : Nat), k <= 8 /\ i = .int .i64 k /\ Hid (∀ j, j < k -> c ∉ rowFrom (perm j)) /\ Below (specW w).heap.size (specW w) wr)
  (fun i _ => 8 - (intOf i).toNat)
 case atStart => exact ⟨0, by omega, rfl, fun j hj => absurd hj (by omega), bel0 (specW w)⟩
 case round =>
  obtain ⟨k, hk, rfl, hno, hbel⟩ := hrel
  have hsz := hbel.size
  have hb := belN hbe hbel
  by_cases hlt : k < 8
  ·obtain ⟨h1, h2, ⟨s, h3, h4, h5⟩, h6⟩ := (spec_at w k hlt).next hbel
   have hr := Reads.of_own h2
   have Hlet := Lib.hid h5
   have hlen := (rows_same (perm k) (perm_lt k)).2.2.2
   have Hmk := Lib.hid (mark_pos k hlt)
   have Hpm := Lib.hid (perm_lt k)
   obtain ⟨xs, hxs⟩ : ∃ xs, rowFrom (perm k) = xs := ⟨_, rfl⟩
   obtain ⟨m, hm⟩ : ∃ m, rowMark (perm k) = m := ⟨_, rfl⟩
   have Hxs := Lib.hid hxs
   have Hm := Lib.hid hm
   rw [hxs] at h1 hr h4 hlen
   rw [hm] at h6
   have H4 := Lib.hid h4
   have Hr := Lib.hid hr
   have q0 : (0 : Int) <= ↑k := by omega
   have q1 : (k : Int) < 8 := by omega
   clear h2 h5 hxs hm h4 hr
   by_cases hmem : c ∈ xs
   ·have Hmem := Lib.hid hmem
    clear hmem
    go_wp2_with fail
    go_region_held3 (fun w' => w'.cell? ⟨w.heap.size + 8, k, none⟩ = some (.slice (some ⟨w.heap.size + k, 0, none⟩) xs.length xs.length) /\ w'.cell? ⟨w.heap.size + 9, k, none⟩ = some (.string s) /\ w'.cell? ⟨w.heap.size + 10, k, none⟩ = some (.int .i64 m)) (first | go_keep | (refine ⟨keep1 hb1 ?_, keep1 hb1 ?_, keep1 hb1 ?_⟩ <;> go_keep))
     (first
      | (go_at_call 243; refine (l3Row_hit c m _ _ _ xs s (by omega) H4.out Hmem.out _ Hr.out.drew).mono ?_; rintro e w1 ⟨x, hx, hit, v, rfl, hown, hb1⟩))
    have Hp := Lib.hid (show partsL c = [(ofB s).getD x 0, m] by
     have h := (parts_hit (i := perm k) (k := x) Hpm.out (by rw [Hxs.out]; exact hx) (by simp only [Hxs.out]; exact hit)).1
     rw [h]; unfold rowParts; rw [if_neg Hmk.out, Hlet.out, Hm.out])
    obtain ⟨A2, c2, rfl, _, _, _⟩ := own_vals hown
    have Hown := Lib.hid hown
    have hs1 := hb1.size
    clear hown hit
    go_wp2
    go_ret
    refine ⟨_, rfl, ?_, belN hb.drew hb1⟩
    rw [Hp.out]; exact own_more Hown.out (by have := hb.size; simp at hs1 ⊢; omega)
   ·have Hmem := Lib.hid hmem
    clear hmem
    go_wp2_with fail
    go_region_held3 (fun w' => w'.cell? ⟨w.heap.size + 8, k, none⟩ = some (.slice (some ⟨w.heap.size + k, 0, none⟩) xs.length xs.length) /\ w'.cell? ⟨w.heap.size + 9, k, none⟩ = some (.string s) /\ w'.cell? ⟨w.heap.size + 10, k, none⟩ = some (.int .i64 m)) (first | go_keep | (refine ⟨keep1 hb1 ?_, keep1 hb1 ?_, keep1 hb1 ?_⟩ <;> go_keep))
     (first
      | (go_at_call 243; refine (l3Row_miss c m _ _ _ xs s (by omega) H4.out Hmem.out _ Hr.out.drew).mono ?_; rintro e w1 ⟨v, rfl, hown, hb1⟩))
    obtain ⟨A2, c2, rfl, _, _, _⟩ := own_vals hown
    clear hown
    simp only [List.length_nil]
    go_wp2
    go_roundw
    case rel =>
     refine ⟨k + 1, by omega, by go_num, fun j hj => ?_, belN hbel.drew hb1⟩
     rcases Nat.lt_or_ge j k with h | h
     ·exact hno.out j h
     ·rw [show j = k by omega, Hxs.out]; exact Hmem.out
    case measure => simp [intOf]; omega
  ·rename World => w5
   have Hno := Lib.hid hno.out
   clear hno hsz
   go_wp2
   go_loopw [10] (fun i wr => ∃ (j : Nat), j <= 14 /\ i = .int .i64 j /\ Hid (∀ x, x < j -> greek.getD x 0 ≠ c) /\ wr.ownsRow w5.heap.size 3 1 (.slice (some ⟨w5.heap.size, 0, none⟩) 14 14) 14 (II greek) /\ wr.ownsRow w5.heap.size 3 1 (.slice (some ⟨w5.heap.size + 1, 0, none⟩) 14 14) 14 (II greekL) /\ Below w5.heap.size w5 wr)
    (fun i _ => 14 - (intOf i).toNat)
   case atStart => exact ⟨0, by omega, rfl, fun x hx => absurd hx (by omega), own_below (lit_own w5 3 greek _ rfl (by decide)) (belA (bel0 _) _) (Nat.le_refl _), lit_at w5 _ 3 greekL _ _ (by simp) (by simp) rfl (by decide), belA (belA (bel0 w5) _) _⟩
   case round =>
    obtain ⟨j, hj, rfl, hng, own1, own2, hbel2⟩ := hrel
    have b2 := belN hb hbel2
    by_cases hlt2 : j < 14
    ·have z1 : wr.cell? ⟨w5.heap.size, j, none⟩ = some (.int .i64 (greek.getD j 0)) := by
      rw [own1.cellAt j (by omega), II_get _ _ (show j < greek.length from hlt2)]; simp [List.getD, show j < greek.length from hlt2]
     have z2 : wr.cell? ⟨w5.heap.size + 1, j, none⟩ = some (.int .i64 (greekL.getD j 0)) := by
      rw [own2.cellAt j (by omega), II_get _ _ (show j < greekL.length from hlt2)]; simp [List.getD, show j < greekL.length from hlt2]
     have q0 : (0 : Int) <= ↑j := by omega
     have q1 : (j : Int) < 14 := by omega
     have Hh := Lib.hid (greek_hit0 j hlt2)
     have Own1 := Lib.hid own1
     have Own2 := Lib.hid own2
     clear own1 own2
     obtain ⟨x, hx⟩ : ∃ x, greek.getD j 0 = x := ⟨_, rfl⟩
     obtain ⟨y, hy⟩ : ∃ y, greekL.getD j 0 = y := ⟨_, rfl⟩
     have Hx := Lib.hid hx
     rw [hx] at z1 Hh
     rw [hy] at z2 Hh
     clear hx hy
     by_cases he : x = c
     ·have He := Lib.hid he
      have he' : (x == c) = true := by simpa using he
      clear he
      go_wp2
      go_ret
      rw [<- He.out, Hh.out]
      exact row_lit2 b2 _ _ _ rfl rfl (by simp)
     ·have He := Lib.hid he
      have he' : (x == c) = false := by simpa using he
      clear he
      go_wp2
      go_roundw
      case rel =>
       refine ⟨j + 1, by omega, by go_num, fun z hz => ?_, Own1.out, Own2.out, hbel2⟩
       rcases Nat.lt_or_ge z j with h | h
       ·exact hng.out z h
       ·rw [show z = j by omega, Hx.out]; exact He.out
      case measure => simp [intOf]; omega
    ·have Hng := Lib.hid (fun x (hx : x < 14) => hng.out x (by omega))
     clear hng own1 own2 hbel2
     rcases k469 : (c == 469) with _ | _
     rotate_left
     ·have Hp := Lib.hid (show partsL c = [220, 772] by rw [show c = 469 by simpa using k469]; decide +kernel)
      go_wp2
      go_ret
      rw [Hp.out]
      exact row_lit2 b2 _ _ _ rfl rfl (by simp)
     rcases k470 : (c == 470) with _ | _
     rotate_left
     ·have Hp := Lib.hid (show partsL c = [252, 772] by rw [show c = 470 by simpa using k470]; decide +kernel)
      go_wp2
      go_ret
      rw [Hp.out]
      exact row_lit2 b2 _ _ _ rfl rfl (by simp)
     rcases k7852 : (c == 7852) with _ | _
     rotate_left
     ·have Hp := Lib.hid (show partsL c = [7840, 770] by rw [show c = 7852 by simpa using k7852]; decide +kernel)
      go_wp2
      go_ret
      rw [Hp.out]
      exact row_lit2 b2 _ _ _ rfl rfl (by simp)
     rcases k7853 : (c == 7853) with _ | _
     rotate_left
     ·have Hp := Lib.hid (show partsL c = [7841, 770] by rw [show c = 7853 by simpa using k7853]; decide +kernel)
      go_wp2
      go_ret
      rw [Hp.out]
      exact row_lit2 b2 _ _ _ rfl rfl (by simp)
     rcases k8486 : (c == 8486) with _ | _
     rotate_left
     ·have Hp := Lib.hid (show partsL c = [937] by rw [show c = 8486 by simpa using k8486]; decide +kernel)
      go_wp2
      go_ret
      rw [Hp.out]
      exact row_lit2 b2 _ _ _ rfl rfl (by simp)
     rcases k8491 : (c == 8491) with _ | _
     rotate_left
     ·have Hp := Lib.hid (show partsL c = [197] by rw [show c = 8491 by simpa using k8491]; decide +kernel)
      go_wp2
      go_ret
      rw [Hp.out]
      exact row_lit2 b2 _ _ _ rfl rfl (by simp)
     rcases hh : inI c 44032 55203 with _ | _
     ·have Hp := Lib.hid (show partsL c = [] by
       refine parts_miss hh fun i hi hm => ?_
       have hN := Hno.out
       match i, hi, hm with
       | 0, _, hm => exact hN 0 (by omega) hm
       | 1, _, hm => exact hN 1 (by omega) hm
       | 2, _, hm => exact hN 2 (by omega) hm
       | 3, _, hm => exact hN 3 (by omega) hm
       | 4, _, hm => exact hN 4 (by omega) hm
       | 5, _, hm => exact hN 5 (by omega) hm
       | 6, _, hm => exact hN 6 (by omega) hm
       | 7, _, hm => exact greek_no Hng.out (List.mem_append_left _ hm)
       | 8, _, hm => exact greek_no Hng.out (List.mem_append_right _ hm)
       | 9, _, hm => simp [rowFrom] at hm; simp at k469 k470; omega
       | 10, _, hm => exact hN 7 (by omega) hm
       | 11, _, hm => simp [rowFrom] at hm; simp at k7852 k7853; omega
       | 12, _, hm => simp [rowFrom] at hm; simp at k8486 k8491; omega
       | n + 13, h, _ => exact absurd h (by omega))
      go_wp2_with (go_at_call 56; refine (l1In_any _ _ _ _).mono ?_; rintro e w' ⟨rfl, rfl⟩)
      go_ret
      rw [Hp.out]
      exact row_lit2 b2 _ _ _ rfl rfl (by simp)
     ·have Hp := Lib.hid (parts_hang hh)
      obtain ⟨h0, h1⟩ := inI_true.1 hh
      by_cases hm : 0 < (c - 44032) % 28
      ·have Hh := Lib.hid (show hang c = [4352 + (c - 44032) / 588, 4449 + (c - 44032) % 588 / 28] ++ [4519 + (c - 44032) % 28] by unfold hang; rw [if_pos hm])
       have b2s := b2.size
       have lit := own_more (World.ownsRow_lit (e := 3) (size := 1) wr #[.int .i64 (4352 + (c - 44032) / 588), .int .i64 (4449 + (c - 44032) % 588 / 28)] 2 (Nat.le_refl _) (by unfold maxLen; omega) rfl) b2s
       have Lit := Lib.hid lit
       clear lit
       go_wp2_with (first
        | (go_at_call 56; refine (l1In_any _ _ _ _).mono ?_; rintro e w' ⟨rfl, rfl⟩)
        | (at_builtin; go_must (refine wpList_app _ rfl _ _ _ rfl Tryz.el_int (Lit.out.alloc _) rfl (reads_newG _ (wr.heap.size + 1) (by simp) _ _ _ 1 (by rfl)) rfl (by simp [Value.oneCell']) (max_small (by omega)) (by omega) (by simp; omega) ?_); intro v1 w1 own1 hg1 _ hb1))
       go_ret
       refine ⟨_, rfl, ?_, (belA (belA b2 _) _).trans hb1⟩
       rw [Hp.out, Hh.out]; exact own1
      ·have Hh := Lib.hid (show hang c = [4352 + (c - 44032) / 588, 4449 + (c - 44032) % 588 / 28] by unfold hang; rw [if_neg hm, List.append_nil])
       go_wp2_with (go_at_call 56; refine (l1In_any _ _ _ _).mono ?_; rintro e w' ⟨rfl, rfl⟩)
       go_ret
       rw [Hp.out, Hh.out]
       exact row_lit2 b2 _ _ _ rfl rfl (by simp)

theorem taken_impl0 (n : Nat) (hn : n <= 3) : ∀ (c : Int), flatn n c -> ∀ w, Calls Tryz.prog 237 #[.int .i64 c] w (RowPost w 3 (tak n c)) := by
 induction n with
 | zero =>
  intro c hf w
  have Hp := Lib.hid (show partsL c = [] from hf)
  go_enter Tryz.func237, Tryz.ntmps237
  go_wp2_with fail
  refine (parts_impl c _).mono ?_
  rintro e w1 ⟨v, rfl, hown, hb1⟩
  rw [Hp.out] at hown
  obtain ⟨A, c1, rfl, _, _, _⟩ := own_vals hown
  clear hown hf
  go_wp2
  go_ret
  exact row_lit2 hb1 [c] _ _ rfl rfl (by simp)
 | succ n ih =>
  intro c hf w
  have ih' := ih (by omega)
  have IH := Lib.hid ih'
  clear ih ih'
  by_cases hp : partsL c = []
  ·have Hp := Lib.hid hp
   have Ht := Lib.hid (tak_nil hp (n + 1))
   clear hp
   go_enter Tryz.func237, Tryz.ntmps237
   go_wp2_with fail
   refine (parts_impl c _).mono ?_
   rintro e w1 ⟨v, rfl, hown, hb1⟩
   rw [Hp.out] at hown
   obtain ⟨A, c1, rfl, _, _, _⟩ := own_vals hown
   clear hown hf
   go_wp2
   go_ret
   rw [Ht.out]
   exact row_lit2 hb1 [c] _ _ rfl rfl (by simp)
  ·have Ht := Lib.hid (tak_ne n hp)
   have Hf := Lib.hid (show ∀ p ∈ partsL c, flatn n p from hf)
   have hl3 := parts_len c
   have hl0 : 0 < (partsL c).length := List.length_pos_iff.2 hp
   have Htl := Lib.hid (tak_len n)
   have h27 : 3 ^ n <= 27 := Nat.pow_le_pow_right (j := 3) (by omega) (by omega)
   clear hp hf
   go_enter Tryz.func237, Tryz.ntmps237
   go_wp2_with fail
   refine (parts_impl c _).mono ?_
   rintro e w1 ⟨v, rfl, hown, hb1⟩
   obtain ⟨A, c1, rfl, _, _, hr⟩ := own_vals hown
   have Hr := Lib.hid hr
   obtain ⟨xs, hxs⟩ : ∃ xs, partsL c = xs := ⟨_, rfl⟩
   rw [hxs] at Ht Hf hl3 hl0 Hr ⊢
   clear hown hr hxs
   obtain ⟨L, hL⟩ : ∃ L, xs.length = L := ⟨_, rfl⟩
   have HL := Lib.hid hL
   rw [hL] at hl3 hl0 Hr ⊢
   clear hL
   have hLe : ((L : Int) == 0) = false := by simp; omega
   go_wp2
   go_loopw [4, 17] (fun v i wr => ∃ (k : Nat), k <= L /\ i = .int .i64 k /\ wr.ownsRow w1.heap.size 3 1 v ((xs.take k).flatMap (tak n)).length (II ((xs.take k).flatMap (tak n))) /\ Below w1.heap.size w1 wr)
    (fun _ i _ => L - (intOf i).toNat)
   case atStart => exact ⟨0, by omega, rfl, lit_at w1 w1 3 [] _ _ rfl (Nat.le_refl _) rfl (by simp), belA (bel0 w1) _⟩
   case round =>
    obtain ⟨k, hk, rfl, hown, hbel⟩ := hrel
    have hb := belN hb1 hbel
    have hsz := hbel.size
    by_cases hlt : k < L
    ·obtain ⟨hkx, ad, rfl, hadb, hcell⟩ := reads_at (Hr.out.below hbel) hlt
     have Hmem := Lib.hid (Hf.out _ (List.getElem_mem hkx))
     have Hs := Lib.hid (show (xs.take (k + 1)).flatMap (tak n) = (xs.take k).flatMap (tak n) ++ tak n xs[k] by rw [List.take_succ_eq_append_getElem hkx, List.flatMap_append]; simp)
     have hlen : ((xs.take k).flatMap (tak n)).length <= 100 := by
      have h1 := flatMap_len (b := 27) (xs.take k) (fun x _ => Nat.le_trans (Htl.out x) h27)
      rw [List.length_take] at h1
      omega
     have hlen2 : (tak n xs[k]).length <= 27 := Nat.le_trans (Htl.out _) h27
     obtain ⟨x, hx⟩ : ∃ x, xs[k] = x := ⟨_, rfl⟩
     rw [hx] at hcell Hmem Hs hlen2
     clear hx
     have q0 : (0 : Int) <= ↑k := by omega
     have q1 : (k : Int) < ↑L := by omega
     go_wp2_with fail
     refine (IH.out x Hmem.out _).mono ?_
     rintro e w2 ⟨v2, rfl, hown2, hb2⟩
     obtain ⟨A2, c2, rfl, _, _, hr2⟩ := own_vals hown2
     have own1 := own_below hown hb2 (Nat.le_refl _)
     have hs2 := hb2.size
     obtain ⟨L1, hL1⟩ : ∃ L1, (xs.take k).flatMap (tak n) = L1 := ⟨_, rfl⟩
     obtain ⟨L2, hL2⟩ : ∃ L2, tak n x = L2 := ⟨_, rfl⟩
     rw [hL1] at own1 hlen Hs
     rw [hL2] at hr2 hlen2 Hs ⊢
     clear hown2 hown hcell hL1 hL2
     go_wp2_with (at_builtin; go_must (refine wpList_app _ rfl _ _ _ rfl Tryz.el_int own1 rfl hr2 rfl (II_cells _) (max_small (by omega)) (by omega) (by omega) ?_); intro v3 w3 own3 hg3 _ hb3)
     go_roundw
     case rel =>
      refine ⟨k + 1, by omega, by go_num, ?_, (belN hbel hb2).trans hb3⟩
      rw [Hs.out, List.length_append, II_append]; exact own3
     case measure => simp [intOf]; omega
    ·obtain rfl : k = L := by omega
     rw [List.take_of_length_le (by have := HL.out; omega)] at hown
     go_wp2
     go_ret
     exact ⟨_, rfl, by rw [Ht.out]; exact own_more hown hb1.size, hb⟩

theorem l4Take_any0 (n : Nat) (hn : n <= 3) : ∀ (c : Int), flatn n c -> ∀ w, Calls Tryz.prog 172 #[.int .i64 c] w (RowPost w 3 (tak n c)) := by
 induction n with
 | zero =>
  intro c hf w
  have Hp := Lib.hid (show partsL c = [] from hf)
  go_enter Tryz.func172, Tryz.ntmps172
  go_wp2_with fail
  refine (parts_spec c _).mono ?_
  rintro e w1 ⟨v, rfl, hown, hb1⟩
  rw [Hp.out] at hown
  obtain ⟨A, c1, rfl, _, _, _⟩ := own_vals hown
  clear hown hf
  go_wp2
  go_ret
  exact row_lit2 hb1 [c] _ _ rfl rfl (by simp)
 | succ n ih =>
  intro c hf w
  have ih' := ih (by omega)
  have IH := Lib.hid ih'
  clear ih ih'
  by_cases hp : partsL c = []
  ·have Hp := Lib.hid hp
   have Ht := Lib.hid (tak_nil hp (n + 1))
   clear hp
   go_enter Tryz.func172, Tryz.ntmps172
   go_wp2_with fail
   refine (parts_spec c _).mono ?_
   rintro e w1 ⟨v, rfl, hown, hb1⟩
   rw [Hp.out] at hown
   obtain ⟨A, c1, rfl, _, _, _⟩ := own_vals hown
   clear hown hf
   go_wp2
   go_ret
   rw [Ht.out]
   exact row_lit2 hb1 [c] _ _ rfl rfl (by simp)
  ·have Ht := Lib.hid (tak_ne n hp)
   have Hf := Lib.hid (show ∀ p ∈ partsL c, flatn n p from hf)
   have hl3 := parts_len c
   have hl0 : 0 < (partsL c).length := List.length_pos_iff.2 hp
   have Htl := Lib.hid (tak_len n)
   have h27 : 3 ^ n <= 27 := Nat.pow_le_pow_right (j := 3) (by omega) (by omega)
   clear hp hf
   go_enter Tryz.func172, Tryz.ntmps172
   go_wp2_with fail
   refine (parts_spec c _).mono ?_
   rintro e w1 ⟨v, rfl, hown, hb1⟩
   obtain ⟨A, c1, rfl, _, _, hr⟩ := own_vals hown
   have Hr := Lib.hid hr
   obtain ⟨xs, hxs⟩ : ∃ xs, partsL c = xs := ⟨_, rfl⟩
   rw [hxs] at Ht Hf hl3 hl0 Hr ⊢
   clear hown hr hxs
   obtain ⟨L, hL⟩ : ∃ L, xs.length = L := ⟨_, rfl⟩
   have HL := Lib.hid hL
   rw [hL] at hl3 hl0 Hr ⊢
   clear hL
   have hLe : ((L : Int) == 0) = false := by simp; omega
   go_wp2
   go_loopw [4, 5] (fun v i wr => ∃ (k : Nat), k <= L /\ i = .int .i64 k /\ wr.ownsRow w1.heap.size 3 1 v ((xs.take k).flatMap (tak n)).length (II ((xs.take k).flatMap (tak n))) /\ Below w1.heap.size w1 wr)
    (fun _ i _ => L - (intOf i).toNat)
   case atStart => exact ⟨0, by omega, rfl, lit_at w1 w1 3 [] _ _ rfl (Nat.le_refl _) rfl (by simp), belA (bel0 w1) _⟩
   case round =>
    obtain ⟨k, hk, rfl, hown, hbel⟩ := hrel
    have hb := belN hb1 hbel
    have hsz := hbel.size
    by_cases hlt : k < L
    ·obtain ⟨hkx, ad, rfl, hadb, hcell⟩ := reads_at (Hr.out.below hbel) hlt
     have Hmem := Lib.hid (Hf.out _ (List.getElem_mem hkx))
     have Hs := Lib.hid (show (xs.take (k + 1)).flatMap (tak n) = (xs.take k).flatMap (tak n) ++ tak n xs[k] by rw [List.take_succ_eq_append_getElem hkx, List.flatMap_append]; simp)
     have hlen : ((xs.take k).flatMap (tak n)).length <= 100 := by
      have h1 := flatMap_len (b := 27) (xs.take k) (fun x _ => Nat.le_trans (Htl.out x) h27)
      rw [List.length_take] at h1
      omega
     have hlen2 : (tak n xs[k]).length <= 27 := Nat.le_trans (Htl.out _) h27
     obtain ⟨x, hx⟩ : ∃ x, xs[k] = x := ⟨_, rfl⟩
     rw [hx] at hcell Hmem Hs hlen2
     clear hx
     have q0 : (0 : Int) <= ↑k := by omega
     have q1 : (k : Int) < ↑L := by omega
     go_wp2_with fail
     refine (IH.out x Hmem.out _).mono ?_
     rintro e w2 ⟨v2, rfl, hown2, hb2⟩
     obtain ⟨A2, c2, rfl, _, _, hr2⟩ := own_vals hown2
     have own1 := own_below hown hb2 (Nat.le_refl _)
     have hs2 := hb2.size
     obtain ⟨L1, hL1⟩ : ∃ L1, (xs.take k).flatMap (tak n) = L1 := ⟨_, rfl⟩
     obtain ⟨L2, hL2⟩ : ∃ L2, tak n x = L2 := ⟨_, rfl⟩
     rw [hL1] at own1 hlen Hs
     rw [hL2] at hr2 hlen2 Hs ⊢
     clear hown2 hown hcell hL1 hL2
     go_wp2_with (at_builtin; go_must (refine wpList_app _ rfl _ _ _ rfl Tryz.el_int own1 rfl hr2 rfl (II_cells _) (max_small (by omega)) (by omega) (by omega) ?_); intro v3 w3 own3 hg3 _ hb3)
     go_roundw
     case rel =>
      refine ⟨k + 1, by omega, by go_num, ?_, (belN hbel hb2).trans hb3⟩
      rw [Hs.out, List.length_append, II_append]; exact own3
     case measure => simp [intOf]; omega
    ·obtain rfl : k = L := by omega
     rw [List.take_of_length_le (by have := HL.out; omega)] at hown
     go_wp2
     go_ret
     exact ⟨_, rfl, by rw [Ht.out]; exact own_more hown hb1.size, hb⟩
theorem taken_impl (c : Int) (w : World) : Calls Tryz.prog 237 #[.int .i64 c] w (RowPost w 3 (takL c)) := taken_impl0 2 (by omega) c (flat_all c) w
theorem l4Take_any (c : Int) (w : World) : Calls Tryz.prog 172 #[.int .i64 c] w (RowPost w 3 (takL c)) := l4Take_any0 2 (by omega) c (flat_all c) w
theorem foldOfL_len9 (c : Int) : (foldOfL c).length <= 9 := by have := foldOfL_len c; omega

theorem fold_impl (A : Option Addr) (n c : Nat) (xs : List Int) (hl : xs.length = n) (hn : n <= 100000) (w : World) (hr : Reads w w.heap.size 1 A n (II xs)) :
  Calls Tryz.prog 209 #[.slice A n c] w (RowPost w 3 (foldL xs)) := by
 have Hr := Lib.hid hr
 have HL := Lib.hid hl
 clear hr hl
 go_enter Tryz.func209, Tryz.ntmps209
 go_wp2
 go_loopw [3, 9] (fun v i wr => ∃ (k : Nat), k <= n /\ i = .int .i64 k /\ wr.ownsRow w.heap.size 3 1 v ((xs.take k).flatMap foldOfL).length (II ((xs.take k).flatMap foldOfL)) /\ Below w.heap.size w wr)
  (fun _ i _ => n - (intOf i).toNat)
 case atStart => exact ⟨0, by omega, rfl, lit_at w w 3 [] _ _ rfl (Nat.le_refl _) rfl (by simp), belA (bel0 w) _⟩
 case round =>
  obtain ⟨k, hk, rfl, hown, hbel⟩ := hrel
  have hsz := hbel.size
  by_cases hlt : k < n
  ·obtain ⟨hkx, ad, rfl, hadb, hcell⟩ := reads_at (Hr.out.below hbel) hlt
   have Hs := Lib.hid (show (xs.take (k + 1)).flatMap foldOfL = (xs.take k).flatMap foldOfL ++ foldOfL xs[k] by rw [List.take_succ_eq_append_getElem hkx, List.flatMap_append]; simp)
   have hlen : ((xs.take k).flatMap foldOfL).length <= 1000000 := by
    have h1 := flatMap_len (b := 9) (xs.take k) (fun x _ => show (foldOfL x).length <= 9 from foldOfL_len9 x)
    rw [List.length_take] at h1
    omega
   have hlen2 : (foldOfL xs[k]).length <= 9 := foldOfL_len9 _
   obtain ⟨x, hx⟩ : ∃ x, xs[k] = x := ⟨_, rfl⟩
   rw [hx] at hcell Hs hlen2
   clear hx
   have q0 : (0 : Int) <= ↑k := by omega
   have q1 : (k : Int) < ↑n := by omega
   go_wp2_with fail
   refine (foldOf_impl x _).mono ?_
   rintro e w2 ⟨v2, rfl, hown2, hb2⟩
   obtain ⟨A2, c2, rfl, _, _, hr2⟩ := own_vals hown2
   have own1 := own_below hown hb2 (Nat.le_refl _)
   have hs2 := hb2.size
   obtain ⟨L1, hL1⟩ : ∃ L1, (xs.take k).flatMap foldOfL = L1 := ⟨_, rfl⟩
   obtain ⟨L2, hL2⟩ : ∃ L2, foldOfL x = L2 := ⟨_, rfl⟩
   rw [hL1] at own1 hlen Hs
   rw [hL2] at hr2 hlen2 Hs ⊢
   clear hown2 hown hcell hL1 hL2
   go_wp2_with (at_builtin; go_must (refine wpList_app _ rfl _ _ _ rfl Tryz.el_int own1 rfl hr2 rfl (II_cells _) (max_small (by omega)) (by omega) (by omega) ?_); intro v3 w3 own3 hg3 _ hb3)
   go_roundw
   case rel =>
    refine ⟨k + 1, by omega, by go_num, ?_, (belN hbel hb2).trans hb3⟩
    rw [Hs.out, List.length_append, II_append]; exact own3
   case measure => simp [intOf]; omega
  ·obtain rfl : k = n := by omega
   rw [List.take_of_length_le (by have := HL.out; omega)] at hown
   go_wp2
   go_ret
   exact ⟨_, rfl, hown, hbel⟩

theorem fold_spec (A : Option Addr) (n c : Nat) (xs : List Int) (hl : xs.length = n) (hn : n <= 100000) (w : World) (hr : Reads w w.heap.size 1 A n (II xs)) :
  Calls Tryz.prog 123 #[.slice A n c] w (RowPost w 3 (foldL xs)) := by
 have Hr := Lib.hid hr
 have HL := Lib.hid hl
 clear hr hl
 go_enter Tryz.func123, Tryz.ntmps123
 go_wp2
 go_loopw [3, 4] (fun v i wr => ∃ (k : Nat), k <= n /\ i = .int .i64 k /\ wr.ownsRow w.heap.size 3 1 v ((xs.take k).flatMap foldOfL).length (II ((xs.take k).flatMap foldOfL)) /\ Below w.heap.size w wr)
  (fun _ i _ => n - (intOf i).toNat)
 case atStart => exact ⟨0, by omega, rfl, lit_at w w 3 [] _ _ rfl (Nat.le_refl _) rfl (by simp), belA (bel0 w) _⟩
 case round =>
  obtain ⟨k, hk, rfl, hown, hbel⟩ := hrel
  have hsz := hbel.size
  by_cases hlt : k < n
  ·obtain ⟨hkx, ad, rfl, hadb, hcell⟩ := reads_at (Hr.out.below hbel) hlt
   have Hs := Lib.hid (show (xs.take (k + 1)).flatMap foldOfL = (xs.take k).flatMap foldOfL ++ foldOfL xs[k] by rw [List.take_succ_eq_append_getElem hkx, List.flatMap_append]; simp)
   have hlen : ((xs.take k).flatMap foldOfL).length <= 1000000 := by
    have h1 := flatMap_len (b := 9) (xs.take k) (fun x _ => show (foldOfL x).length <= 9 from foldOfL_len9 x)
    rw [List.length_take] at h1
    omega
   have hlen2 : (foldOfL xs[k]).length <= 9 := foldOfL_len9 _
   obtain ⟨x, hx⟩ : ∃ x, xs[k] = x := ⟨_, rfl⟩
   rw [hx] at hcell Hs hlen2
   clear hx
   have q0 : (0 : Int) <= ↑k := by omega
   have q1 : (k : Int) < ↑n := by omega
   go_wp2_with fail
   refine (foldOf_spec x _).mono ?_
   rintro e w2 ⟨v2, rfl, hown2, hb2⟩
   obtain ⟨A2, c2, rfl, _, _, hr2⟩ := own_vals hown2
   have own1 := own_below hown hb2 (Nat.le_refl _)
   have hs2 := hb2.size
   obtain ⟨L1, hL1⟩ : ∃ L1, (xs.take k).flatMap foldOfL = L1 := ⟨_, rfl⟩
   obtain ⟨L2, hL2⟩ : ∃ L2, foldOfL x = L2 := ⟨_, rfl⟩
   rw [hL1] at own1 hlen Hs
   rw [hL2] at hr2 hlen2 Hs ⊢
   clear hown2 hown hcell hL1 hL2
   go_wp2_with (at_builtin; go_must (refine wpList_app _ rfl _ _ _ rfl Tryz.el_int own1 rfl hr2 rfl (II_cells _) (max_small (by omega)) (by omega) (by omega) ?_); intro v3 w3 own3 hg3 _ hb3)
   go_roundw
   case rel =>
    refine ⟨k + 1, by omega, by go_num, ?_, (belN hbel hb2).trans hb3⟩
    rw [Hs.out, List.length_append, II_append]; exact own3
   case measure => simp [intOf]; omega
  ·obtain rfl : k = n := by omega
   rw [List.take_of_length_le (by have := HL.out; omega)] at hown
   go_wp2
   go_ret
   exact ⟨_, rfl, hown, hbel⟩

end Go.Proofs.YtjjniapamdleoaaGreatDoor
