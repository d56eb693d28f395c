/- Signs: plain facts; reading, taking apart, known signs, classes. -/
import Derived.Test.YtjjniapamdleoaaGreatDoorRCBase
namespace Go.Proofs.YtjjniapamdleoaaGreatDoor
open Go Go.RowKit
set_option maxHeartbeats 4000000
set_option maxRecDepth 100000

/-- A number can be written as a sign. -/
def signOk (c : Int) : Bool := inI c 0 1114111 && !inI c 55296 57343
theorem signOk_bd {c : Int} (h : signOk c = true) : 0 <= c /\ c <= 1114111 := by
 unfold signOk at h
 rw [Bool.and_eq_true] at h
 exact inI_true.1 h.1
def leadN (b : Nat) : Nat := if b < 128 then 1 else if 192 <= b /\ b < 224 then 2 else if 224 <= b /\ b < 240 then 3 else if 240 <= b /\ b < 248 then 4 else 0
def leadC (b : Nat) : Nat := if b < 128 then b else if 192 <= b /\ b < 224 then b % 32 else if 224 <= b /\ b < 240 then b % 16 else b % 8
def leastN (n : Nat) : Nat := if n = 2 then 128 else if n = 3 then 2048 else if n = 4 then 65536 else 0
def contV : Nat -> List UInt8 -> Nat -> Option Nat
 | 0, _, c => some c
 | _ + 1, [], _ => none
 | k + 1, b :: l, c => if 128 <= b.toNat /\ b.toNat < 192 then contV k l (c * 64 + b.toNat % 64) else none
/-- What a value read as so many bytes comes to. -/
def fin1 (n : Nat) : Option Nat -> Nat × Nat
 | none => (0, 0)
 | some c => if leastN n <= c /\ signOk c = true then (c, n) else (0, 0)
/-- The sign at a text's beginning, and how many bytes it has. -/
def one : List UInt8 -> Nat × Nat
 | [] => (0, 0)
 | b :: r => if leadN b.toNat = 0 then (0, 0) else fin1 (leadN b.toNat) (contV (leadN b.toNat - 1) r (leadC b.toNat))
def oneB (s : ByteArray) : Nat × Nat := one s.data.toList

theorem contV_short : ∀ (k : Nat) (l : List UInt8) (c : Nat), l.length < k -> contV k l c = none
 | 0, _, _, h => by omega
 | _ + 1, [], _, _ => rfl
 | k + 1, b :: l, c, h => by
  rw [contV, contV_short k l _ (by simp at h; omega)]
  split <;> rfl
theorem fin1_some (n c : Nat) : fin1 n (some c) = if leastN n <= c /\ signOk c = true then (c, n) else (0, 0) := rfl
theorem one_cons (b : UInt8) (r : List UInt8) : one (b :: r) = if leadN b.toNat = 0 then (0, 0) else fin1 (leadN b.toNat) (contV (leadN b.toNat - 1) r (leadC b.toNat)) := rfl
theorem fin1_le (n : Nat) (o : Option Nat) : (fin1 n o).1 <= 1114111 /\ ((fin1 n o).2 = 0 ∨ (fin1 n o).2 = n) := by
 rcases o with _ | c
 ·exact ⟨by simp [fin1], .inl rfl⟩
 ·rw [fin1_some]
  by_cases h : leastN n <= c /\ signOk c = true
  ·rw [if_pos h]
   have := signOk_bd h.2
   exact ⟨by simp; omega, .inr rfl⟩
  ·rw [if_neg h]
   exact ⟨by simp, .inl rfl⟩
theorem leadN_le (b : Nat) : leadN b <= 4 := by unfold leadN; split <;> (try split) <;> (try split) <;> (try split) <;> omega
theorem contV_len : ∀ (k : Nat) (l : List UInt8) (c d : Nat), contV k l c = some d -> k <= l.length := fun k l c _ h => by
 rcases Nat.lt_or_ge l.length k with h' | h'
 ·rw [contV_short k l c h'] at h; cases h
 ·exact h'
theorem one_le (l : List UInt8) : (one l).1 <= 1114111 /\ (one l).2 <= 4 /\ (one l).2 <= l.length := by
 rcases l with _ | ⟨b, r⟩
 ·simp [one]
 ·rw [one_cons]
  by_cases h0 : leadN b.toNat = 0
  ·rw [if_pos h0]; simp
  ·rw [if_neg h0]
   have h1 := fin1_le (leadN b.toNat) (contV (leadN b.toNat - 1) r (leadC b.toNat))
   have h2 := leadN_le b.toNat
   refine ⟨h1.1, by omega, ?_⟩
   rcases h3 : contV (leadN b.toNat - 1) r (leadC b.toNat) with _ | d
   ·simp [fin1]
   ·have := contV_len _ _ _ _ h3
    rw [h3] at h1
    simp only [List.length_cons]
    omega
theorem oneB_le (s : ByteArray) : (oneB s).1 <= 1114111 /\ (oneB s).2 <= 4 /\ (oneB s).2 <= s.size := by
 have := one_le s.data.toList
 rwa [size_list] at this
theorem at_cons (s : ByteArray) (h : 0 < s.size) : s.data.toList = s[0] :: s.data.toList.drop 1 := by
 have h0 : 0 < s.data.toList.length := by rw [size_list]; exact h
 have := List.drop_eq_getElem_cons h0
 rw [List.drop_zero] at this
 exact this
/-- From the first byte on. -/
theorem oneB_lead (s : ByteArray) (h : 0 < s.size) (n c0 : Nat) (hn : leadN s[0].toNat = n) (hc : leadC s[0].toNat = c0) (h0 : n ≠ 0) : oneB s = fin1 n (contV (n - 1) (s.data.toList.drop 1) c0) := by
 subst hn hc
 rw [oneB, at_cons s h, one_cons, if_neg h0]
 rfl
theorem oneB_none (s : ByteArray) (h : 0 < s.size) (hn : leadN s[0].toNat = 0) : oneB s = (0, 0) := by
 rw [oneB, at_cons s h, one_cons, if_pos hn]
theorem contV_step (s : ByteArray) (k j d : Nat) (h : k < s.size) : contV (j + 1) (s.data.toList.drop k) d = if 128 <= s[k].toNat /\ s[k].toNat < 192 then contV j (s.data.toList.drop (k + 1)) (d * 64 + s[k].toNat % 64) else none := by
 have hl : k < s.data.toList.length := by rw [size_list]; exact h
 rw [List.drop_eq_getElem_cons hl, contV]
 rfl
theorem fin1_yes (n c : Nat) (h1 : leastN n <= c) (h2 : signOk c = true) : fin1 n (some c) = (c, n) := by rw [fin1_some, if_pos ⟨h1, h2⟩]
theorem fin1_low (n c : Nat) (h1 : c < leastN n) : fin1 n (some c) = (0, 0) := by rw [fin1_some, if_neg (by omega)]
theorem fin1_bad (n c : Nat) (h2 : signOk c = false) : fin1 n (some c) = (0, 0) := by rw [fin1_some, if_neg (by simp [h2])]

theorem and8_192 (b : UInt8) : (bits .and .u8 (b.toNat : Int) 192 == 128) = decide (128 <= b.toNat /\ b.toNat < 192) := by
 have h : ∀ n : Nat, n < 256 -> (bits .and .u8 (n : Int) 192 == 128) = decide (128 <= n /\ n < 192) := by decide +kernel
 exact h _ b.toNat_lt
theorem and8_63 (b : UInt8) : bits .and .u8 (b.toNat : Int) 63 = (b.toNat : Int) % 64 := by
 have h : ∀ n : Nat, n < 256 -> bits .and .u8 (n : Int) 63 = (n : Int) % 64 := by decide +kernel
 exact h _ b.toNat_lt
theorem and_63 (q : Int) (h0 : 0 <= q) (h1 : q < 9223372036854775808) : bits .and .i64 q 63 = q % 64 := and_mask q 63 6 rfl (by omega) h0 h1
theorem and_31 (q : Int) (h0 : 0 <= q) (h1 : q < 9223372036854775808) : bits .and .i64 q 31 = q % 32 := and_mask q 31 5 rfl (by omega) h0 h1
theorem and_15 (q : Int) (h0 : 0 <= q) (h1 : q < 9223372036854775808) : bits .and .i64 q 15 = q % 16 := and_mask q 15 4 rfl (by omega) h0 h1
theorem and_7 (q : Int) (h0 : 0 <= q) (h1 : q < 9223372036854775808) : bits .and .i64 q 7 = q % 8 := and_mask q 7 3 rfl (by omega) h0 h1
theorem or_add64 (d r : Int) (h0 : 0 <= d) (h1 : d < 100000000) (h2 : 0 <= r) (h3 : r < 64) : bits .or .i64 (d * 64) r = d * 64 + r := by
 obtain ⟨d, rfl⟩ := Int.eq_ofNat_of_zero_le h0
 obtain ⟨r, rfl⟩ := Int.eq_ofNat_of_zero_le h2
 have h := i64_or_nat (2 ^ 6 * d) r (by omega) (by omega)
 rw [<- Nat.two_pow_add_eq_or_of_lt (by omega)] at h
 have e : ((2 ^ 6 * d : Nat) : Int) = (d : Int) * 64 := by omega
 rw [e] at h
 rw [h]; omega

/-- A sign's bytes. -/
def enc1 (c : Int) : List UInt8 :=
 if c < 128 then [UInt8.ofNat c.toNat]
 else if c < 2048 then [UInt8.ofNat (192 + c.toNat / 64), UInt8.ofNat (128 + c.toNat % 64)]
 else if c < 65536 then [UInt8.ofNat (224 + c.toNat / 4096), UInt8.ofNat (128 + c.toNat / 64 % 64), UInt8.ofNat (128 + c.toNat % 64)]
 else [UInt8.ofNat (240 + c.toNat / 262144), UInt8.ofNat (128 + c.toNat / 4096 % 64), UInt8.ofNat (128 + c.toNat / 64 % 64), UInt8.ofNat (128 + c.toNat % 64)]
def encB (xs : List Int) : ByteArray := if xs.all signOk = true then str (xs.flatMap enc1) else str []
theorem cell_of {a : Int} {k : Nat} (h : a = k) (hk : k < 256) : Value.int .u8 ((UInt8.ofNat k).toNat) = .int .u8 a := by rw [toNat_ofNat k hk, h]
theorem enc1_1 {c : Int} (h0 : 0 <= c) (h : c < 128) : B8 (enc1 c) = [.int .u8 c] := by
 unfold enc1; rw [if_pos h]
 simp only [B8, List.map_cons, List.map_nil]
 rw [cell_of (a := c) (by omega) (by omega)]
theorem enc1_2 {c : Int} (h0 : 128 <= c) (h : c < 2048) : B8 (enc1 c) = [.int .u8 (192 + c / 64), .int .u8 (128 + c % 64)] := by
 unfold enc1; rw [if_neg (by omega), if_pos h]
 simp only [B8, List.map_cons, List.map_nil]
 rw [cell_of (a := 192 + c / 64) (by omega) (by omega), cell_of (a := 128 + c % 64) (by omega) (by omega)]
theorem enc1_3 {c : Int} (h0 : 2048 <= c) (h : c < 65536) : B8 (enc1 c) = [.int .u8 (224 + c / 4096), .int .u8 (128 + c / 64 % 64), .int .u8 (128 + c % 64)] := by
 unfold enc1; rw [if_neg (by omega), if_neg (by omega), if_pos h]
 simp only [B8, List.map_cons, List.map_nil]
 rw [cell_of (a := 224 + c / 4096) (by omega) (by omega), cell_of (a := 128 + c / 64 % 64) (by omega) (by omega), cell_of (a := 128 + c % 64) (by omega) (by omega)]
theorem enc1_4 {c : Int} (h0 : 65536 <= c) (_h : c <= 1114111) : B8 (enc1 c) = [.int .u8 (240 + c / 262144), .int .u8 (128 + c / 4096 % 64), .int .u8 (128 + c / 64 % 64), .int .u8 (128 + c % 64)] := by
 unfold enc1; rw [if_neg (by omega), if_neg (by omega), if_neg (by omega)]
 simp only [B8, List.map_cons, List.map_nil]
 rw [cell_of (a := 240 + c / 262144) (by omega) (by omega), cell_of (a := 128 + c / 4096 % 64) (by omega) (by omega), cell_of (a := 128 + c / 64 % 64) (by omega) (by omega), cell_of (a := 128 + c % 64) (by omega) (by omega)]
theorem enc1_len (c : Int) : (enc1 c).length = if c < 128 then 1 else if c < 2048 then 2 else if c < 65536 then 3 else 4 := by
 unfold enc1; split
 ·rfl
 ·split
  ·rfl
  ·split <;> rfl
theorem enc1_le (c : Int) : (enc1 c).length <= 4 := by rw [enc1_len]; split <;> (try split) <;> (try split) <;> omega
theorem encs_le : ∀ (xs : List Int), (xs.flatMap enc1).length <= 4 * xs.length
 | [] => by simp
 | c :: xs => by
  have := encs_le xs
  have := enc1_le c
  rw [List.flatMap_cons, List.length_append, List.length_cons]; omega
theorem encB_size (xs : List Int) : (encB xs).size <= 4 * xs.length := by
 unfold encB; split
 ·rw [str_size]; exact encs_le xs
 ·rw [str_size]; simp
theorem encB_one (c : Int) : (encB [c]).size = if signOk c = true then (enc1 c).length else 0 := by
 unfold encB
 by_cases h : signOk c = true <;> simp [h, str_size]
theorem all_take_succ {xs : List Int} {k : Nat} (hk : k < xs.length) (h : (xs.take k).all signOk = true) (h' : signOk xs[k] = true) : (xs.take (k + 1)).all signOk = true := by
 rw [List.take_succ_eq_append_getElem hk, List.all_append, h]; simpa using h'
theorem not_all {xs : List Int} {k : Nat} (hk : k < xs.length) (h' : signOk xs[k] = false) : xs.all signOk = false := by
 rw [List.all_eq_false]; exact ⟨_, List.getElem_mem hk, by simp [h']⟩
theorem encs_snoc {xs : List Int} {k : Nat} (hk : k < xs.length) : (xs.take (k + 1)).flatMap enc1 = (xs.take k).flatMap enc1 ++ enc1 xs[k] := by
 rw [List.take_succ_eq_append_getElem hk, List.flatMap_append]; simp

/-- All signs of a text. -/
def decL (l : List UInt8) : Option (List Nat) :=
 if l = [] then some [] else if _h : (one l).2 = 0 then none else (decL (l.drop (one l).2)).map ((one l).1 :: ·)
termination_by l.length
decreasing_by
 have := one_le l
 rw [List.length_drop]; omega
def decB (s : ByteArray) : Option (List Nat) := decL s.data.toList
/-- What goes before. -/
def preL (xs : List Nat) : Option (List Nat) -> Option (List Nat)
 | none => none
 | some ys => some (xs ++ ys)
theorem preL_nil (o : Option (List Nat)) : preL [] o = o := by rcases o with _ | ys <;> rfl
theorem decL_end (xs : List Nat) : preL xs (decL []) = some xs := by rw [decL, if_pos rfl]; simp [preL]
theorem decL_none {l : List UInt8} (xs : List Nat) (h : l ≠ []) (h2 : (one l).2 = 0) : preL xs (decL l) = none := by rw [decL, if_neg h, dif_pos h2]; rfl
theorem decL_step {l : List UInt8} (xs : List Nat) (h : l ≠ []) (h2 : (one l).2 ≠ 0) : preL xs (decL l) = preL (xs ++ [(one l).1]) (decL (l.drop (one l).2)) := by
 rw [decL, if_neg h, dif_neg h2]
 rcases decL (l.drop (one l).2) with _ | ys <;> simp [preL]
theorem one_drop (s : ByteArray) (k : Nat) : oneB (dropB s k) = one (s.data.toList.drop k) := by rw [oneB, dropB_list]
theorem decL_bd : ∀ (n : Nat) (l : List UInt8), l.length <= n -> ∀ xs, decL l = some xs -> xs.length <= l.length /\ ∀ x ∈ xs, x <= 1114111
 | 0, l, hl, xs, h => by
  have : l = [] := List.eq_nil_of_length_eq_zero (by omega)
  rw [this, decL, if_pos rfl] at h
  injection h with h; subst h; simp
 | n + 1, l, hl, xs, h => by
  by_cases hn : l = []
  ·rw [hn, decL, if_pos rfl] at h
   injection h with h; subst h; simp
  ·by_cases h2 : (one l).2 = 0
   ·rw [decL, if_neg hn, dif_pos h2] at h; cases h
   ·have hle := one_le l
    rw [decL, if_neg hn, dif_neg h2] at h
    rcases h3 : decL (l.drop (one l).2) with _ | ys
    ·rw [h3] at h; cases h
    ·rw [h3] at h
     simp only [Option.map_some, Option.some.injEq] at h
     subst h
     have ih := decL_bd n (l.drop (one l).2) (by rw [List.length_drop]; omega) ys h3
     rw [List.length_drop] at ih
     refine ⟨by simp; omega, ?_⟩
     intro x hx
     rcases List.mem_cons.1 hx with rfl | hx
     ·exact hle.1
     ·exact ih.2 x hx
theorem decB_bd {s : ByteArray} {xs : List Nat} (h : decB s = some xs) : xs.length <= s.size /\ ∀ x ∈ xs, x <= 1114111 := by
 have := decL_bd _ _ (Nat.le_refl _) xs h
 rwa [size_list] at this

theorem isSign_any (c : Int) (w : World) :
  Calls Tryz.prog 197 #[.int .i64 c] w fun e w' => e = .returned (.bool (signOk c)) /\ w = w' := by
 cases h1 : inI c 0 1114111 <;> cases h2 : inI c 55296 57343
 all_goals
  have Hs := Lib.hid (show signOk c = _ by unfold signOk; rw [h1, h2])
  go_enter Tryz.func197, Tryz.ntmps197
  go_wp2_with (go_at_call 67; refine (within_any _ _ _ _).mono ?_; rintro e w' ⟨rfl, rfl⟩)
  go_ret
  exact ⟨by rw [Hs.out]; rfl, rfl⟩

theorem l3Sign_any (c : Int) (w : World) :
  Calls Tryz.prog 154 #[.int .i64 c] w fun e w' => e = .returned (.bool (signOk c)) /\ w = w' := by
 cases h1 : inI c 0 1114111 <;> cases h2 : inI c 55296 57343
 all_goals
  have Hs := Lib.hid (show signOk c = _ by unfold signOk; rw [h1, h2])
  go_enter Tryz.func154, Tryz.ntmps154
  go_wp2_with (go_at_call 56; refine (l1In_any _ _ _ _).mono ?_; rintro e w' ⟨rfl, rfl⟩)
  go_ret
  exact ⟨by rw [Hs.out]; rfl, rfl⟩

theorem least_any (n : Nat) (h : n = 2 ∨ n = 3 ∨ n = 4) (w : World) :
  Calls Tryz.prog 196 #[.int .i64 n] w fun e w' => e = .returned (.int .i64 (leastN n)) /\ Below w.heap.size w w' := by
 rcases h with rfl | rfl | rfl
 all_goals
  go_enter Tryz.func196, Tryz.ntmps196
  go_wp2
  go_ret
  exact ⟨rfl, belA (bel0 w) _⟩

theorem signAt_2 (s : ByteArray) (hs : s.size <= 1000000000) (h : 0 < s.size) (hn : leadN s[0].toNat = 2) (w : World) :
  Calls Tryz.prog 156 #[.string s] w fun e w' => e = .returned (.tuple #[.int .i64 (oneB s).1, .int .i64 (oneB s).2]) /\ Below w.heap.size w w' := by
 have hb := (s[0]'h).toNat_lt
 have hrange : 192 <= s[0].toNat /\ s[0].toNat < 224 := by unfold leadN at hn; (repeat' split at hn) <;> omega
 obtain ⟨hr0, hr1⟩ := hrange
 have Hl := Lib.hid (oneB_lead s h 2 (s[0].toNat % 32) hn (by unfold leadC; (repeat' split) <;> omega) (by omega))
 clear hn
 have i1 : inI (s[0].toNat : Int) 192 223 = true := inI_true.2 ⟨by omega, by omega⟩
 have a0 := and_31 (s[0].toNat : Int) (by omega) (by omega)
 go_enter Tryz.func156, Tryz.ntmps156
 by_cases hz : (s.size : Int) < 2
 ·go_wp2_with (go_at_call 67; refine (within_any _ _ _ _).mono ?_; rintro e w' ⟨rfl, rfl⟩)
  go_ret2
  exact ⟨ret_two (by rw [Hl.out, contV_short _ _ _ (by rw [List.length_drop, size_list]; omega)]; rfl) (by rw [Hl.out, contV_short _ _ _ (by rw [List.length_drop, size_list]; omega)]; rfl), bel0 w⟩
 ·go_wp2_with (go_at_call 67; refine (within_any _ _ _ _).mono ?_; rintro e w' ⟨rfl, rfl⟩)
  clear i1 a0
  go_loop [6, 7] (fun c i => ∃ (k j d : Nat), k + j = 2 /\ 1 <= k /\ i = .int .i64 k /\ c = .int .i64 d /\ d < 32 * 64 ^ (k - 1) /\ Hid (oneB s = fin1 2 (contV j (s.data.toList.drop k) d))) (fun _ i => 2 - (intOf i).toNat)
  case atStart => exact ⟨1, 2 - 1, s[0].toNat % 32, by omega, by omega, rfl, rfl, by omega, Hl.out⟩
  case round =>
   obtain ⟨k, j, d, hkj, hk1, rfl, rfl, hd, Ho⟩ := hrel
   have hd9 : d < 8388608 := by
    have h1 : (64 : Nat) ^ (k - 1) <= 64 ^ 3 := Nat.pow_le_pow_right (by omega) (by omega)
    have h2 : (64 : Nat) ^ 3 = 262144 := by decide
    omega
   rcases j with _ | j
   ·have hlt : ¬ (k : Int) < 2 := by omega
    have ho : oneB s = fin1 2 (some d) := Ho.out
    by_cases hle : d < leastN 2
    ·have Hf := Lib.hid (ho.trans (fin1_low _ _ hle))
     have hle' : (d : Int) < (leastN 2 : Int) := by omega
     clear ho hd hle
     go_wp2_with (go_at_call 196; refine (least_any 2 (by omega) _).mono ?_; rintro e w1 ⟨rfl, hb1⟩)
     go_ret2
     exact ⟨ret_two (by rw [Hf.out]; rfl) (by rw [Hf.out]; rfl), hb1⟩
    ·have hle' : ¬ (d : Int) < (leastN 2 : Int) := by omega
     rcases hsg : signOk d with _ | _
     ·have Hf := Lib.hid (ho.trans (fin1_bad _ _ hsg))
      clear ho hd hle
      go_wp2_with (first
       | (go_at_call 196; refine (least_any 2 (by omega) _).mono ?_; rintro e w1 ⟨rfl, hb1⟩)
       | (go_at_call 197; refine (isSign_any _ _).mono ?_; rintro e w' ⟨rfl, rfl⟩))
      go_ret2
      exact ⟨ret_two (by rw [Hf.out]; rfl) (by rw [Hf.out]; rfl), hb1⟩
     ·have Hf := Lib.hid (ho.trans (fin1_yes _ _ (by omega) hsg))
      clear ho hd hle
      go_wp2_with (first
       | (go_at_call 196; refine (least_any 2 (by omega) _).mono ?_; rintro e w1 ⟨rfl, hb1⟩)
       | (go_at_call 197; refine (isSign_any _ _).mono ?_; rintro e w' ⟨rfl, rfl⟩))
      go_ret2
      exact ⟨ret_two (by rw [Hf.out]) (by rw [Hf.out]; rfl), hb1⟩
   ·have hks : k < s.size := by omega
    have hkb := (s[k]'hks).toNat_lt
    have hlt : (k : Int) < 2 := by omega
    have hst := contV_step s k j d hks
    have a1 := and8_192 (s[k]'hks)
    by_cases hc : 128 <= (s[k]'hks).toNat /\ (s[k]'hks).toNat < 192
    ·have Hf := Lib.hid (Ho.out.trans (by rw [hst, if_pos hc]))
     have a2 : (bits .and .u8 ((s[k]'hks).toNat : Int) 192 == 128) = true := by rw [a1]; simpa using hc
     have a3 := and8_63 (s[k]'hks)
     have a4 := or_add64 d ((s[k]'hks).toNat % 64) (by omega) (by omega) (by omega) (by omega)
     have Hd := Lib.hid hd
     clear hst a1 hc hd
     go_wp2_with fail
     go_round
     case rel =>
      refine ⟨k + 1, j, d * 64 + s[k].toNat % 64, by omega, by omega, by go_num, by go_num, ?_, Hf.out⟩
      have := Hd.out
      obtain ⟨m, rfl⟩ : ∃ m, k = m + 1 := ⟨k - 1, by omega⟩
      rw [show m + 1 + 1 - 1 = m + 1 from rfl, Nat.pow_succ]
      rw [show m + 1 - 1 = m from rfl] at this
      omega
     case measure => simp [intOf]; omega
    ·have Hf := Lib.hid (Ho.out.trans (by rw [hst, if_neg hc]))
     have a2 : (bits .and .u8 ((s[k]'hks).toNat : Int) 192 == 128) = false := by rw [a1]; simpa using hc
     clear hst a1 hc hd
     go_wp2_with fail
     go_ret2
     exact ⟨ret_two (by rw [Hf.out]; rfl) (by rw [Hf.out]; rfl), bel0 w⟩

theorem signAt_3 (s : ByteArray) (hs : s.size <= 1000000000) (h : 0 < s.size) (hn : leadN s[0].toNat = 3) (w : World) :
  Calls Tryz.prog 156 #[.string s] w fun e w' => e = .returned (.tuple #[.int .i64 (oneB s).1, .int .i64 (oneB s).2]) /\ Below w.heap.size w w' := by
 have hb := (s[0]'h).toNat_lt
 have hrange : 224 <= s[0].toNat /\ s[0].toNat < 240 := by unfold leadN at hn; (repeat' split at hn) <;> omega
 obtain ⟨hr0, hr1⟩ := hrange
 have Hl := Lib.hid (oneB_lead s h 3 (s[0].toNat % 16) hn (by unfold leadC; (repeat' split) <;> omega) (by omega))
 clear hn
 have i1 : inI (s[0].toNat : Int) 192 223 = false := inI_false.2 (by omega)
 have i2 : inI (s[0].toNat : Int) 224 239 = true := inI_true.2 ⟨by omega, by omega⟩
 have a0 := and_15 (s[0].toNat : Int) (by omega) (by omega)
 go_enter Tryz.func156, Tryz.ntmps156
 by_cases hz : (s.size : Int) < 3
 ·go_wp2_with (go_at_call 67; refine (within_any _ _ _ _).mono ?_; rintro e w' ⟨rfl, rfl⟩)
  go_ret2
  exact ⟨ret_two (by rw [Hl.out, contV_short _ _ _ (by rw [List.length_drop, size_list]; omega)]; rfl) (by rw [Hl.out, contV_short _ _ _ (by rw [List.length_drop, size_list]; omega)]; rfl), bel0 w⟩
 ·go_wp2_with (go_at_call 67; refine (within_any _ _ _ _).mono ?_; rintro e w' ⟨rfl, rfl⟩)
  clear i1 i2 a0
  go_loop [6, 7] (fun c i => ∃ (k j d : Nat), k + j = 3 /\ 1 <= k /\ i = .int .i64 k /\ c = .int .i64 d /\ d < 32 * 64 ^ (k - 1) /\ Hid (oneB s = fin1 3 (contV j (s.data.toList.drop k) d))) (fun _ i => 3 - (intOf i).toNat)
  case atStart => exact ⟨1, 3 - 1, s[0].toNat % 16, by omega, by omega, rfl, rfl, by omega, Hl.out⟩
  case round =>
   obtain ⟨k, j, d, hkj, hk1, rfl, rfl, hd, Ho⟩ := hrel
   have hd9 : d < 8388608 := by
    have h1 : (64 : Nat) ^ (k - 1) <= 64 ^ 3 := Nat.pow_le_pow_right (by omega) (by omega)
    have h2 : (64 : Nat) ^ 3 = 262144 := by decide
    omega
   rcases j with _ | j
   ·have hlt : ¬ (k : Int) < 3 := by omega
    have ho : oneB s = fin1 3 (some d) := Ho.out
    by_cases hle : d < leastN 3
    ·have Hf := Lib.hid (ho.trans (fin1_low _ _ hle))
     have hle' : (d : Int) < (leastN 3 : Int) := by omega
     clear ho hd hle
     go_wp2_with (go_at_call 196; refine (least_any 3 (by omega) _).mono ?_; rintro e w1 ⟨rfl, hb1⟩)
     go_ret2
     exact ⟨ret_two (by rw [Hf.out]; rfl) (by rw [Hf.out]; rfl), hb1⟩
    ·have hle' : ¬ (d : Int) < (leastN 3 : Int) := by omega
     rcases hsg : signOk d with _ | _
     ·have Hf := Lib.hid (ho.trans (fin1_bad _ _ hsg))
      clear ho hd hle
      go_wp2_with (first
       | (go_at_call 196; refine (least_any 3 (by omega) _).mono ?_; rintro e w1 ⟨rfl, hb1⟩)
       | (go_at_call 197; refine (isSign_any _ _).mono ?_; rintro e w' ⟨rfl, rfl⟩))
      go_ret2
      exact ⟨ret_two (by rw [Hf.out]; rfl) (by rw [Hf.out]; rfl), hb1⟩
     ·have Hf := Lib.hid (ho.trans (fin1_yes _ _ (by omega) hsg))
      clear ho hd hle
      go_wp2_with (first
       | (go_at_call 196; refine (least_any 3 (by omega) _).mono ?_; rintro e w1 ⟨rfl, hb1⟩)
       | (go_at_call 197; refine (isSign_any _ _).mono ?_; rintro e w' ⟨rfl, rfl⟩))
      go_ret2
      exact ⟨ret_two (by rw [Hf.out]) (by rw [Hf.out]; rfl), hb1⟩
   ·have hks : k < s.size := by omega
    have hkb := (s[k]'hks).toNat_lt
    have hlt : (k : Int) < 3 := by omega
    have hst := contV_step s k j d hks
    have a1 := and8_192 (s[k]'hks)
    by_cases hc : 128 <= (s[k]'hks).toNat /\ (s[k]'hks).toNat < 192
    ·have Hf := Lib.hid (Ho.out.trans (by rw [hst, if_pos hc]))
     have a2 : (bits .and .u8 ((s[k]'hks).toNat : Int) 192 == 128) = true := by rw [a1]; simpa using hc
     have a3 := and8_63 (s[k]'hks)
     have a4 := or_add64 d ((s[k]'hks).toNat % 64) (by omega) (by omega) (by omega) (by omega)
     have Hd := Lib.hid hd
     clear hst a1 hc hd
     go_wp2_with fail
     go_round
     case rel =>
      refine ⟨k + 1, j, d * 64 + s[k].toNat % 64, by omega, by omega, by go_num, by go_num, ?_, Hf.out⟩
      have := Hd.out
      obtain ⟨m, rfl⟩ : ∃ m, k = m + 1 := ⟨k - 1, by omega⟩
      rw [show m + 1 + 1 - 1 = m + 1 from rfl, Nat.pow_succ]
      rw [show m + 1 - 1 = m from rfl] at this
      omega
     case measure => simp [intOf]; omega
    ·have Hf := Lib.hid (Ho.out.trans (by rw [hst, if_neg hc]))
     have a2 : (bits .and .u8 ((s[k]'hks).toNat : Int) 192 == 128) = false := by rw [a1]; simpa using hc
     clear hst a1 hc hd
     go_wp2_with fail
     go_ret2
     exact ⟨ret_two (by rw [Hf.out]; rfl) (by rw [Hf.out]; rfl), bel0 w⟩

theorem signAt_4 (s : ByteArray) (hs : s.size <= 1000000000) (h : 0 < s.size) (hn : leadN s[0].toNat = 4) (w : World) :
  Calls Tryz.prog 156 #[.string s] w fun e w' => e = .returned (.tuple #[.int .i64 (oneB s).1, .int .i64 (oneB s).2]) /\ Below w.heap.size w w' := by
 have hb := (s[0]'h).toNat_lt
 have hrange : 240 <= s[0].toNat /\ s[0].toNat < 248 := by unfold leadN at hn; (repeat' split at hn) <;> omega
 obtain ⟨hr0, hr1⟩ := hrange
 have Hl := Lib.hid (oneB_lead s h 4 (s[0].toNat % 8) hn (by unfold leadC; (repeat' split) <;> omega) (by omega))
 clear hn
 have i1 : inI (s[0].toNat : Int) 192 223 = false := inI_false.2 (by omega)
 have i2 : inI (s[0].toNat : Int) 224 239 = false := inI_false.2 (by omega)
 have i3 : inI (s[0].toNat : Int) 240 247 = true := inI_true.2 ⟨by omega, by omega⟩
 have a0 := and_7 (s[0].toNat : Int) (by omega) (by omega)
 go_enter Tryz.func156, Tryz.ntmps156
 by_cases hz : (s.size : Int) < 4
 ·go_wp2_with (go_at_call 67; refine (within_any _ _ _ _).mono ?_; rintro e w' ⟨rfl, rfl⟩)
  go_ret2
  exact ⟨ret_two (by rw [Hl.out, contV_short _ _ _ (by rw [List.length_drop, size_list]; omega)]; rfl) (by rw [Hl.out, contV_short _ _ _ (by rw [List.length_drop, size_list]; omega)]; rfl), bel0 w⟩
 ·go_wp2_with (go_at_call 67; refine (within_any _ _ _ _).mono ?_; rintro e w' ⟨rfl, rfl⟩)
  clear i1 i2 i3 a0
  go_loop [6, 7] (fun c i => ∃ (k j d : Nat), k + j = 4 /\ 1 <= k /\ i = .int .i64 k /\ c = .int .i64 d /\ d < 32 * 64 ^ (k - 1) /\ Hid (oneB s = fin1 4 (contV j (s.data.toList.drop k) d))) (fun _ i => 4 - (intOf i).toNat)
  case atStart => exact ⟨1, 4 - 1, s[0].toNat % 8, by omega, by omega, rfl, rfl, by omega, Hl.out⟩
  case round =>
   obtain ⟨k, j, d, hkj, hk1, rfl, rfl, hd, Ho⟩ := hrel
   have hd9 : d < 8388608 := by
    have h1 : (64 : Nat) ^ (k - 1) <= 64 ^ 3 := Nat.pow_le_pow_right (by omega) (by omega)
    have h2 : (64 : Nat) ^ 3 = 262144 := by decide
    omega
   rcases j with _ | j
   ·have hlt : ¬ (k : Int) < 4 := by omega
    have ho : oneB s = fin1 4 (some d) := Ho.out
    by_cases hle : d < leastN 4
    ·have Hf := Lib.hid (ho.trans (fin1_low _ _ hle))
     have hle' : (d : Int) < (leastN 4 : Int) := by omega
     clear ho hd hle
     go_wp2_with (go_at_call 196; refine (least_any 4 (by omega) _).mono ?_; rintro e w1 ⟨rfl, hb1⟩)
     go_ret2
     exact ⟨ret_two (by rw [Hf.out]; rfl) (by rw [Hf.out]; rfl), hb1⟩
    ·have hle' : ¬ (d : Int) < (leastN 4 : Int) := by omega
     rcases hsg : signOk d with _ | _
     ·have Hf := Lib.hid (ho.trans (fin1_bad _ _ hsg))
      clear ho hd hle
      go_wp2_with (first
       | (go_at_call 196; refine (least_any 4 (by omega) _).mono ?_; rintro e w1 ⟨rfl, hb1⟩)
       | (go_at_call 197; refine (isSign_any _ _).mono ?_; rintro e w' ⟨rfl, rfl⟩))
      go_ret2
      exact ⟨ret_two (by rw [Hf.out]; rfl) (by rw [Hf.out]; rfl), hb1⟩
     ·have Hf := Lib.hid (ho.trans (fin1_yes _ _ (by omega) hsg))
      clear ho hd hle
      go_wp2_with (first
       | (go_at_call 196; refine (least_any 4 (by omega) _).mono ?_; rintro e w1 ⟨rfl, hb1⟩)
       | (go_at_call 197; refine (isSign_any _ _).mono ?_; rintro e w' ⟨rfl, rfl⟩))
      go_ret2
      exact ⟨ret_two (by rw [Hf.out]) (by rw [Hf.out]; rfl), hb1⟩
   ·have hks : k < s.size := by omega
    have hkb := (s[k]'hks).toNat_lt
    have hlt : (k : Int) < 4 := by omega
    have hst := contV_step s k j d hks
    have a1 := and8_192 (s[k]'hks)
    by_cases hc : 128 <= (s[k]'hks).toNat /\ (s[k]'hks).toNat < 192
    ·have Hf := Lib.hid (Ho.out.trans (by rw [hst, if_pos hc]))
     have a2 : (bits .and .u8 ((s[k]'hks).toNat : Int) 192 == 128) = true := by rw [a1]; simpa using hc
     have a3 := and8_63 (s[k]'hks)
     have a4 := or_add64 d ((s[k]'hks).toNat % 64) (by omega) (by omega) (by omega) (by omega)
     have Hd := Lib.hid hd
     clear hst a1 hc hd
     go_wp2_with fail
     go_round
     case rel =>
      refine ⟨k + 1, j, d * 64 + s[k].toNat % 64, by omega, by omega, by go_num, by go_num, ?_, Hf.out⟩
      have := Hd.out
      obtain ⟨m, rfl⟩ : ∃ m, k = m + 1 := ⟨k - 1, by omega⟩
      rw [show m + 1 + 1 - 1 = m + 1 from rfl, Nat.pow_succ]
      rw [show m + 1 - 1 = m from rfl] at this
      omega
     case measure => simp [intOf]; omega
    ·have Hf := Lib.hid (Ho.out.trans (by rw [hst, if_neg hc]))
     have a2 : (bits .and .u8 ((s[k]'hks).toNat : Int) 192 == 128) = false := by rw [a1]; simpa using hc
     clear hst a1 hc hd
     go_wp2_with fail
     go_ret2
     exact ⟨ret_two (by rw [Hf.out]; rfl) (by rw [Hf.out]; rfl), bel0 w⟩

theorem signAt_any (s : ByteArray) (hs : s.size <= 1000000000) (h : 0 < s.size) (w : World) :
  Calls Tryz.prog 156 #[.string s] w fun e w' => e = .returned (.tuple #[.int .i64 (oneB s).1, .int .i64 (oneB s).2]) /\ Below w.heap.size w w' := by
 have hb := (s[0]'h).toNat_lt
 by_cases h2 : leadN s[0].toNat = 2
 ·exact signAt_2 s hs h h2 w
 by_cases h3 : leadN s[0].toNat = 3
 ·exact signAt_3 s hs h h3 w
 by_cases h4 : leadN s[0].toNat = 4
 ·exact signAt_4 s hs h h4 w
 by_cases h1 : s[0].toNat < 128
 ·have Hl := Lib.hid (oneB_lead s h 1 s[0].toNat (by unfold leadN; rw [if_pos h1]) (by unfold leadC; rw [if_pos h1]) (by omega))
  have Hl2 := Lib.hid (Hl.out.trans (fin1_yes 1 _ (by simp [leastN]) (by unfold signOk; rw [inI_true.2 ⟨by omega, by omega⟩, inI_false.2 (by omega)]; rfl)))
  go_enter Tryz.func156, Tryz.ntmps156
  go_wp2
  go_ret2
  exact ⟨ret_two (by rw [Hl2.out]) (by rw [Hl2.out]; rfl), bel0 w⟩
 ·have h0 : leadN s[0].toNat = 0 := by unfold leadN at *; (repeat' split) <;> simp_all
  have Hl := Lib.hid (oneB_none s h h0)
  have hr : ¬ (192 <= s[0].toNat /\ s[0].toNat < 248) := by unfold leadN at h0; (repeat' split at h0) <;> omega
  have i1 : inI (s[0].toNat : Int) 192 223 = false := inI_false.2 (by omega)
  have i2 : inI (s[0].toNat : Int) 224 239 = false := inI_false.2 (by omega)
  have i3 : inI (s[0].toNat : Int) 240 247 = false := inI_false.2 (by omega)
  clear h2 h3 h4 h0 hr
  go_enter Tryz.func156, Tryz.ntmps156
  go_wp2_with (go_at_call 67; refine (within_any _ _ _ _).mono ?_; rintro e w' ⟨rfl, rfl⟩)
  go_ret2
  exact ⟨ret_two (by rw [Hl.out]; rfl) (by rw [Hl.out]; rfl), bel0 w⟩

/-- Numbers as cells. -/
def II (l : List Int) : List Value := l.map fun n => .int .i64 n
theorem II_append (a b : List Int) : II (a ++ b) = II a ++ II b := by simp [II]
theorem II_length (l : List Int) : (II l).length = l.length := by simp [II]
theorem II_get (l : List Int) (k : Nat) (h : k < l.length) : (II l)[k]? = some (.int .i64 l[k]) := by simp [II, h]
theorem II_of (l : List Nat) : I64 l = II (l.map fun (n : Nat) => (n : Int)) := by simp [II, I64]
theorem II_cells (l : List Int) : ∀ u ∈ II l, u.oneCell' = true := by
 intro u hu
 simp only [II, List.mem_map] at hu
 obtain ⟨b, _, rfl⟩ := hu
 rfl
theorem reads_at {w : World} {B n : Nat} {A : Option Addr} {xs : List Int} (h : Reads w B 1 A n (II xs)) {k : Nat} (hk : k < n) : ∃ (hk' : k < xs.length) (ad : Addr), A = some ad /\ ad.block < B /\ w.cell? (ad.add k) = some (.int .i64 xs[k]) := by
 obtain ⟨ad, u, h1, h2, h3, h4⟩ := h.at_ hk
 have hl : k < xs.length := by have := h.1; rw [II_length] at this; omega
 rw [II_get _ _ hl] at h3
 injection h3 with h3
 exact ⟨hl, ad, h1, h2, by rw [h4, h3]⟩

theorem encode_spec (A : Option Addr) (n c : Nat) (xs : List Int) (hlen : xs.length = n) (hn : n <= 100000) (w : World) (hr : Reads w w.heap.size 1 A n (II xs)) :
  Calls Tryz.prog 104 #[.slice A n c] w fun e w' => e = .returned (.string (encB xs)) /\ Below w.heap.size w w' := by
 have Hr := Lib.hid hr
 clear hr
 go_enter Tryz.func104, Tryz.ntmps104
 go_wp2
 go_loopw [3, 4] (fun v i wr => ∃ (k : Nat), k <= n /\ i = .int .i64 k /\ Hid ((xs.take k).all signOk = true) /\ wr.ownsRow w.heap.size 5 1 v ((xs.take k).flatMap enc1).length (B8 ((xs.take k).flatMap enc1)) /\ Below w.heap.size w wr)
  (fun _ i _ => n - (intOf i).toNat)
 case atStart => exact ⟨0, by omega, rfl, by simp [Hid], World.ownsRow_lit w #[] 0 (Nat.le_refl _) (by unfold maxLen; omega) rfl, belA (bel0 w) _⟩
 case round =>
  obtain ⟨k, hk, rfl, hall, hown, hbel⟩ := hrel
  have hsz := hbel.size
  by_cases hlt : k < n
  ·obtain ⟨hkx, ad, rfl, hadb, hcell⟩ := reads_at (Hr.out.below hbel) hlt
   rcases hsg : signOk xs[k] with _ | _
   ·have Hf := Lib.hid (show encB xs = str [] by unfold encB; rw [not_all hkx hsg]; rfl)
    go_wp2_with (go_at_call 154; refine (l3Sign_any _ _).mono ?_; rintro e w' ⟨rfl, rfl⟩)
    go_ret
    exact ⟨ret_str (by rw [Hf.out]; rfl), hbel⟩
   ·have hle := encs_le (xs.take k)
    rw [List.length_take] at hle
    have hl2 : ((xs.take k).flatMap enc1).length <= 400000 := by omega
    have Hall := Lib.hid (all_take_succ hkx hall.out hsg)
    have Hsn := Lib.hid (encs_snoc hkx)
    obtain ⟨h0, h1⟩ := signOk_bd hsg
    obtain ⟨x, hx⟩ : ∃ x, xs[k] = x := ⟨_, rfl⟩
    rw [hx] at hcell hsg Hsn h0 h1
    clear hx hle
    have m0 := and_63 x h0 (by omega)
    by_cases x1 : x < 128
    ·have Hc := Lib.hid (enc1_1 h0 x1)
     go_wp2_with (first
      | (go_at_call 154; refine (l3Sign_any _ _).mono ?_; rintro e w' ⟨rfl, rfl⟩)
      | (at_builtin; go_must (refine wpList_app _ rfl _ _ _ rfl Tryz.el_u8 (hown.alloc _) rfl (reads_new _ _ _ _ 1 (by rfl)) rfl (by simp [Value.oneCell']) (max_small (by omega)) (by omega) (by simp; omega) ?_); intro v1 w1 own1 hg1 _ hb1))
     go_roundw
     case rel => exact ⟨k + 1, by omega, by go_num, Hall.out, by rw [Hsn.out, B8_append, Hc.out, List.length_append, enc1_len, if_pos x1]; exact own1, (hbel.alloc hsz _).trans hb1⟩
     case measure => simp [intOf]; omega
    ·have m1 := and_63 (x / 64) (by omega) (by omega)
     have m2 := and_63 (x / 4096) (by omega) (by omega)
     by_cases x2 : x < 2048
     ·have Hc := Lib.hid (enc1_2 (c := x) (by omega) x2)
      go_wp2_with (first
       | (go_at_call 154; refine (l3Sign_any _ _).mono ?_; rintro e w' ⟨rfl, rfl⟩)
       | (at_builtin; go_must (refine wpList_app _ rfl _ _ _ rfl Tryz.el_u8 (hown.alloc _) rfl (reads_new _ _ _ _ 2 (by rfl)) rfl (by simp [Value.oneCell']) (max_small (by omega)) (by omega) (by simp; omega) ?_); intro v1 w1 own1 hg1 _ hb1))
      go_roundw
      case rel => exact ⟨k + 1, by omega, by go_num, Hall.out, by rw [Hsn.out, B8_append, Hc.out, List.length_append, enc1_len, if_neg (by omega), if_pos (by omega)]; exact own1, (hbel.alloc hsz _).trans hb1⟩
      case measure => simp [intOf]; omega
     ·by_cases x3 : x < 65536
      ·have Hc := Lib.hid (enc1_3 (c := x) (by omega) x3)
       go_wp2_with (first
        | (go_at_call 154; refine (l3Sign_any _ _).mono ?_; rintro e w' ⟨rfl, rfl⟩)
        | (at_builtin; go_must (refine wpList_app _ rfl _ _ _ rfl Tryz.el_u8 (hown.alloc _) rfl (reads_new _ _ _ _ 3 (by rfl)) rfl (by simp [Value.oneCell']) (max_small (by omega)) (by omega) (by simp; omega) ?_); intro v1 w1 own1 hg1 _ hb1))
       go_roundw
       case rel => exact ⟨k + 1, by omega, by go_num, Hall.out, by rw [Hsn.out, B8_append, Hc.out, List.length_append, enc1_len, if_neg (by omega), if_neg (by omega), if_pos (by omega)]; exact own1, (hbel.alloc hsz _).trans hb1⟩
       case measure => simp [intOf]; omega
      ·have Hc := Lib.hid (enc1_4 (c := x) (by omega) h1)
       go_wp2_with (first
        | (go_at_call 154; refine (l3Sign_any _ _).mono ?_; rintro e w' ⟨rfl, rfl⟩)
        | (at_builtin; go_must (refine wpList_app _ rfl _ _ _ rfl Tryz.el_u8 (hown.alloc _) rfl (reads_new _ _ _ _ 4 (by rfl)) rfl (by simp [Value.oneCell']) (max_small (by omega)) (by omega) (by simp; omega) ?_); intro v1 w1 own1 hg1 _ hb1))
       go_roundw
       case rel => exact ⟨k + 1, by omega, by go_num, Hall.out, by rw [Hsn.out, B8_append, Hc.out, List.length_append, enc1_len, if_neg (by omega), if_neg (by omega), if_neg (by omega)]; exact own1, (hbel.alloc hsz _).trans hb1⟩
       case measure => simp [intOf]; omega
  ·have Hf := Lib.hid (show encB xs = str (xs.flatMap enc1) by unfold encB; rw [<- List.take_of_length_le (l := xs) (i := k) (by omega), hall.out]; rfl)
   have hcv := run_convert_own Tryz.underlying22 Tryz.underlying5 Tryz.underlying9 hown
   have Ht := Lib.hid (List.take_of_length_le (l := xs) (i := k) (by omega))
   clear hown
   go_wp2
   go_ret
   exact ⟨ret_str (by rw [Hf.out, Ht.out]), hbel⟩

/-- What Decode leaves. -/
def DecPost (w : World) (T : TypeId) (o : Option (List Nat)) (e : Ending) (w' : World) : Prop :=
 Below w.heap.size w w' /\ ((∃ xs v, o = some xs /\ e = .returned (.tuple #[v, .bool true]) /\ w'.ownsRow w.heap.size T 1 v xs.length (I64 xs)) ∨ (∃ v, o = none /\ e = .returned (.tuple #[v, .bool false]) /\ w'.ownsRow w.heap.size T 1 v 0 []))
theorem drop_ne (s : ByteArray) (k : Nat) (h : k < s.size) : s.data.toList.drop k ≠ [] := by
 intro e
 have := congrArg List.length e
 rw [List.length_drop, size_list] at this; simp at this; omega

theorem decode_impl (s : ByteArray) (hs : s.size <= 2000000) (w : World) :
  Calls Tryz.prog 106 #[.string s] w (DecPost w 3 (decB s)) := by
 go_enter Tryz.func106, Tryz.ntmps106
 go_wp2
 go_loopw [4, 5] (fun v i wr => ∃ (k : Nat) (xs : List Nat), k <= s.size /\ xs.length <= k /\ i = .int .i64 k /\ Hid (decB s = preL xs (decL (s.data.toList.drop k))) /\ wr.ownsRow w.heap.size 3 1 v xs.length (I64 xs) /\ Below w.heap.size w wr)
  (fun _ i _ => s.size - (intOf i).toNat)
 case atStart => exact ⟨0, [], by omega, by simp, rfl, (preL_nil _).symm, World.ownsRow_lit w #[] 0 (Nat.le_refl _) (by unfold maxLen; omega) rfl, belA (bel0 w) _⟩
 case round =>
  obtain ⟨k, xs, hk, hxk, rfl, heq, hown, hbel⟩ := hrel
  have hsz := hbel.size
  by_cases hlt : k < s.size
  ·have hz := dropB_size s k
   have hle := oneB_le (dropB s k)
   have Hd := Lib.hid (one_drop s k)
   obtain ⟨x, j, h⟩ : ∃ x j, oneB (dropB s k) = (x, j) := ⟨_, _, rfl⟩
   rw [h] at hle
   obtain ⟨hx, hj4, hjl⟩ := hle
   simp only at hx hj4 hjl
   have H := Lib.hid h
   have p0 : (0 : Int) <= ↑k := by omega
   have p1 : (k : Int) <= ↑s.size := by omega
   unfold dropB at h hz hjl
   by_cases hj : j = 0
   ·have hj0 : ((j : Int) == 0) = true := by rw [hj]; rfl
    have Hf := Lib.hid (show decB s = none by rw [heq.out, decL_none xs (drop_ne s k hlt) (by rw [<- Hd.out, H.out]; exact hj)])
    clear hj hjl
    go_wp2_with (go_at_call 156; refine (signAt_any _ (by omega) (by omega) _).mono ?_; rintro e w1 ⟨rfl, hb1⟩)
    go_ret2
    exact ⟨belN hbel hb1, .inr ⟨_, Hf.out, rfl, World.ownsRow_nil _ _ _ _⟩⟩
   ·have hj0 : ((j : Int) == 0) = false := by simp; exact hj
    have Hf := Lib.hid (show decB s = preL (xs ++ [x]) (decL (s.data.toList.drop (k + j))) by rw [heq.out, decL_step xs (drop_ne s k hlt) (by rw [<- Hd.out, H.out]; exact hj), <- Hd.out, H.out, List.drop_drop])
    have Hj := Lib.hid hj
    clear hj
    go_wp2_with (first
     | (go_at_call 156; refine (signAt_any _ (by omega) (by omega) _).mono ?_; rintro e w1 ⟨rfl, hb1⟩; have hown1 := own_below hown hb1 (Nat.le_refl _); have hs1 := hb1.size)
     | (at_builtin; go_must (refine wpList_app _ rfl _ _ _ rfl Tryz.el_int (hown1.alloc _) rfl (reads_new _ _ _ _ 1 (by rfl)) rfl (I64_cells [x]) (max_small (by omega)) (by omega) (by simp; omega) ?_); intro v2 w2 own2 hg2 _ hb2))
    go_roundw
    case rel =>
     have := Hj.out
     exact ⟨k + j, xs ++ [x], by omega, by simp; omega, by go_num, Hf.out, by rw [I64_append, List.length_append]; exact own2, ((hbel.trans (hb1.mono hsz)).alloc (by omega) _).trans hb2⟩
    case measure =>
     have := Hj.out
     simp [intOf]; omega
  ·have Hf := Lib.hid (show decB s = some xs by rw [heq.out, show s.data.toList.drop k = [] from List.drop_eq_nil_of_le (by rw [size_list]; omega), decL_end])
   go_wp2
   go_ret2
   exact ⟨hbel, .inl ⟨xs, _, Hf.out, rfl, hown⟩⟩

/-- The signs of a row of the table. -/
def rowFrom (i : Nat) : List Int := match i with
 | 0 => [192, 200, 204, 210, 217, 224, 232, 236, 242, 249]
 | 1 => [193, 201, 205, 211, 218, 221, 225, 233, 237, 243, 250, 253]
 | 2 => [194, 202, 206, 212, 219, 226, 234, 238, 244, 251]
 | 3 => [195, 209, 213, 227, 241, 245]
 | 4 => [196, 203, 207, 214, 220, 228, 235, 239, 246, 252, 255]
 | 5 => [197, 229]
 | 6 => [199, 231]
 | 7 => [902, 904, 905, 906, 908, 910, 911]
 | 8 => [940, 941, 942, 943, 972, 973, 974]
 | 9 => [469, 470]
 | 10 => [7840, 7841]
 | 11 => [7852, 7853]
 | _ => [8486, 8491]
/-- Their letters. -/
def rowLets (i : Nat) : List Int := match i with
 | 0 => [65, 69, 73, 79, 85, 97, 101, 105, 111, 117]
 | 1 => [65, 69, 73, 79, 85, 89, 97, 101, 105, 111, 117, 121]
 | 2 => [65, 69, 73, 79, 85, 97, 101, 105, 111, 117]
 | 3 => [65, 78, 79, 97, 110, 111]
 | 4 => [65, 69, 73, 79, 85, 97, 101, 105, 111, 117, 121]
 | 5 => [65, 97]
 | 6 => [67, 99]
 | 7 => [913, 917, 919, 921, 927, 933, 937]
 | 8 => [945, 949, 951, 953, 959, 965, 969]
 | 9 => [220, 252]
 | 10 => [65, 97]
 | 11 => [7840, 7841]
 | _ => [937, 197]
/-- Their mark. -/
def rowMark (i : Nat) : Int := match i with
 | 0 => 768
 | 1 => 769
 | 2 => 770
 | 3 => 771
 | 4 => 776
 | 5 => 778
 | 6 => 807
 | 7 => 769
 | 8 => 769
 | 9 => 772
 | 10 => 803
 | 11 => 770
 | _ => 0
def rowParts (i k : Nat) : List Int := if rowMark i = 0 then [(rowLets i).getD k 0] else [(rowLets i).getD k 0, rowMark i]
def partsFrom (c : Int) : Nat -> Nat -> List Int
 | 0, _ => []
 | m + 1, i => match (rowFrom i).findIdx? (· == c) with
  | some k => rowParts i k
  | none => partsFrom c m (i + 1)
/-- The parts of a sign that is one of three or two at once. -/
def hang (c : Int) : List Int := [4352 + (c - 44032) / 588, 4449 + (c - 44032) % 588 / 28] ++ if 0 < (c - 44032) % 28 then [4519 + (c - 44032) % 28] else []
/-- The parts of a sign. -/
def partsL (c : Int) : List Int := if inI c 44032 55203 = true then hang c else partsFrom c 13 0
theorem parts_hang {c : Int} (h : inI c 44032 55203 = true) : partsL c = hang c := by unfold partsL; rw [if_pos h]
theorem parts_tab {c : Int} (h : inI c 44032 55203 = false) : partsL c = partsFrom c 13 0 := by unfold partsL; rw [if_neg (by rw [h]; simp)]
theorem parts_hit0 : ∀ i, i < 13 -> ∀ k, k < (rowFrom i).length -> partsL ((rowFrom i).getD k 0) = rowParts i k /\ inI ((rowFrom i).getD k 0) 192 8491 = true := by decide +kernel
theorem parts_hit {c : Int} {i k : Nat} (hi : i < 13) (hk : k < (rowFrom i).length) (h : (rowFrom i)[k] = c) : partsL c = rowParts i k /\ inI c 192 8491 = true := by
 have := parts_hit0 i hi k hk
 rwa [List.getD_eq_getElem?_getD, List.getElem?_eq_getElem hk, Option.getD_some, h] at this
theorem partsFrom_miss (c : Int) : ∀ (m i : Nat), (∀ j, i <= j -> j < i + m -> c ∉ rowFrom j) -> partsFrom c m i = []
 | 0, _, _ => rfl
 | m + 1, i, h => by
  have h0 : (rowFrom i).findIdx? (· == c) = none := by
   rw [List.findIdx?_eq_none_iff]
   intro x hx
   rw [beq_eq_false_iff_ne]
   rintro rfl
   exact h i (Nat.le_refl _) (by omega) hx
  rw [partsFrom, h0]
  exact partsFrom_miss c m (i + 1) (fun j h1 h2 => h j (by omega) (by omega))
theorem parts_miss {c : Int} (hc : inI c 44032 55203 = false) (h : ∀ j, j < 13 -> c ∉ rowFrom j) : partsL c = [] := by
 rw [parts_tab hc]
 exact partsFrom_miss c 13 0 (fun j _ h2 => h j (by omega))
theorem keys_in : ∀ j, j < 13 -> ∀ x ∈ rowFrom j, inI x 192 8491 = true /\ (x < 1000 ∨ 7000 < x) := by decide +kernel
theorem parts_out {c : Int} (hc : inI c 44032 55203 = false) (h : inI c 192 8491 = false) : partsL c = [] :=
 parts_miss hc fun j hj hm => by have := (keys_in j hj c hm).1; rw [h] at this; cases this
theorem parts_mid {c : Int} (h0 : 1000 <= c) (h1 : c <= 7000) : partsL c = [] :=
 parts_miss (inI_false.2 (by omega)) fun j hj hm => by have := (keys_in j hj c hm).2; omega
/-- In so many steps there are no more parts. -/
def flatn : Nat -> Int -> Prop
 | 0, c => partsL c = []
 | n + 1, c => ∀ p ∈ partsL c, flatn n p
theorem flat_hang {c : Int} (h : inI c 44032 55203 = true) : ∀ p ∈ partsL c, partsL p = [] := by
 obtain ⟨h0, h1⟩ := inI_true.1 h
 intro p hp
 rw [parts_hang h] at hp
 unfold hang at hp
 apply parts_mid
 ·split at hp <;> simp at hp <;> omega
 ·split at hp <;> simp at hp <;> omega
theorem flat_rows : ∀ i, i < 13 -> ∀ k, k < (rowFrom i).length -> ∀ p ∈ rowParts i k, ∀ q ∈ partsL p, partsL q = [] := by decide +kernel
theorem mem_at {c : Int} {l : List Int} (h : c ∈ l) : ∃ k, ∃ hk : k < l.length, l[k] = c := List.getElem_of_mem h
theorem parts_cases (c : Int) : inI c 44032 55203 = true ∨ partsL c = [] ∨ ∃ i k, i < 13 /\ k < (rowFrom i).length /\ partsL c = rowParts i k := by
 rcases hc : inI c 44032 55203 with _ | _
 ·by_cases h : ∀ j, j < 13 -> c ∉ rowFrom j
  ·exact .inr (.inl (parts_miss hc h))
  ·simp only [Classical.not_forall, Classical.not_not] at h
   obtain ⟨i, hi, hm⟩ := h
   obtain ⟨k, hk, he⟩ := mem_at hm
   exact .inr (.inr ⟨i, k, hi, hk, (parts_hit hi hk he).1⟩)
 ·exact .inl rfl
theorem flat_all (c : Int) : flatn 2 c := by
 intro p hp q hq
 rcases parts_cases c with h | h | ⟨i, k, hi, hk, h⟩
 ·rw [flat_hang h p hp] at hq; cases hq
 ·rw [h] at hp; cases hp
 ·rw [h] at hp; exact flat_rows i hi k hk p hp q hq
theorem rowParts_len (i k : Nat) : (rowParts i k).length <= 2 := by unfold rowParts; split <;> simp
theorem parts_len (c : Int) : (partsL c).length <= 3 := by
 rcases parts_cases c with h | h | ⟨i, k, _, _, h⟩
 ·rw [parts_hang h]; unfold hang; split <;> simp
 ·rw [h]; simp
 ·rw [h]; have := rowParts_len i k; omega

/-- A sign in its parts, and these in theirs, of so many steps. -/
def tak : Nat -> Int -> List Int
 | 0, c => [c]
 | n + 1, c => if partsL c = [] then [c] else (partsL c).flatMap (tak n)
theorem tak_nil {c : Int} (h : partsL c = []) : ∀ n, tak n c = [c]
 | 0 => rfl
 | n + 1 => by rw [tak, if_pos h]
theorem tak_ne {c : Int} (n : Nat) (h : partsL c ≠ []) : tak (n + 1) c = (partsL c).flatMap (tak n) := by rw [tak, if_neg h]
theorem flatMap_len {f : Int -> List Int} {b : Nat} : ∀ (l : List Int), (∀ x ∈ l, (f x).length <= b) -> (l.flatMap f).length <= l.length * b
 | [], _ => by simp
 | x :: l, h => by
  have h1 := flatMap_len l (fun y hy => h y (by simp [hy]))
  have h2 := h x (by simp)
  rw [List.flatMap_cons, List.length_append, List.length_cons, Nat.succ_mul]; omega
theorem tak_len : ∀ (n : Nat) (c : Int), (tak n c).length <= 3 ^ n
 | 0, c => by simp [tak]
 | n + 1, c => by
  rw [tak]
  split
  ·have := Nat.pow_pos (n := n + 1) (show 0 < 3 by omega); simp only [List.length_singleton]; omega
  ·have h1 := flatMap_len (b := 3 ^ n) (partsL c) (fun x _ => tak_len n x)
   have h2 := parts_len c
   have h3 : (partsL c).length * 3 ^ n <= 3 * 3 ^ n := Nat.mul_le_mul_right _ h2
   rw [Nat.pow_succ]; omega
def takL (c : Int) : List Int := tak 2 c
theorem takL_len (c : Int) : (takL c).length <= 9 := tak_len 2 c
/-- The class of a sign. -/
def cls (c : Int) : Int := cond (inI c 768 772 || (c == 776 || c == 778)) 230 (cond (c == 803) 220 (cond (c == 807) 202 0))
/-- A sign behind others, the last one first. -/
def insR (x : Int) : List Int -> List Int
 | [] => [x]
 | y :: ys => if 0 < cls x /\ cls x < cls y then y :: insR x ys else x :: y :: ys
def bub (l : List Int) (x : Int) : List Int := (insR x l.reverse).reverse
theorem insR_len (x : Int) : ∀ l, (insR x l).length = l.length + 1
 | [] => rfl
 | y :: ys => by
  rw [insR]; split
  ·rw [List.length_cons, insR_len x ys, List.length_cons]
  ·simp
theorem bub_len (l : List Int) (x : Int) : (bub l x).length = l.length + 1 := by unfold bub; rw [List.length_reverse, insR_len, List.length_reverse]
theorem bubs_len : ∀ (xs l : List Int), (xs.foldl bub l).length = l.length + xs.length
 | [], l => by simp
 | x :: xs, l => by rw [List.foldl_cons, bubs_len xs, bub_len, List.length_cons]; omega
/-- One step of a sign to the front. -/
theorem ins_step {x y : Int} {A B T : List Int} (h : T = (insR x (A ++ [y]).reverse).reverse ++ B) (hc : 0 < cls x /\ cls x < cls y) : T = (insR x A.reverse).reverse ++ (y :: B) := by
 rw [h, List.reverse_append, List.reverse_singleton, List.singleton_append, insR, if_pos hc, List.reverse_cons, List.append_assoc]; rfl
theorem ins_stop {x y : Int} {A B T : List Int} (h : T = (insR x (A ++ [y]).reverse).reverse ++ B) (hc : ¬ (0 < cls x /\ cls x < cls y)) : T = A ++ [y] ++ [x] ++ B := by
 rw [h, List.reverse_append, List.reverse_singleton, List.singleton_append, insR, if_neg hc, List.reverse_cons, List.reverse_cons, List.reverse_reverse]
theorem ins_end {x : Int} {B T : List Int} (h : T = (insR x ([] : List Int).reverse).reverse ++ B) : T = [x] ++ B := by rw [h]; rfl
/-- Signs taken apart, marks in order. -/
def apartL (l : List Int) : List Int := (l.flatMap takL).foldl bub []
theorem apartL_len (l : List Int) : (apartL l).length <= l.length * 9 := by
 unfold apartL
 rw [bubs_len]
 have := flatMap_len (b := 9) l (fun x _ => takL_len x)
 rw [List.length_nil]; omega
/-- What a sign folds to. -/
def foldA (c : Int) : Bool := inI c 65 90 || (inI c 913 929 || (inI c 931 937 || inI c 1040 1071))
def foldB (c : Int) : Bool := [198, 208, 216, 222].any (· == c)
def foldOfL (c : Int) : List Int := cond (foldA c) [c + 32] (cond (foldB c) [c + 32] (cond (c == 223) [115, 115] (cond (c == 962) [963] [c])))
theorem foldOfL_len (c : Int) : (foldOfL c).length <= 2 := by
 unfold foldOfL
 cases foldA c <;> cases foldB c <;> cases (c == 223) <;> cases (c == 962) <;> simp
def foldL (l : List Int) : List Int := l.flatMap foldOfL
theorem foldL_len (l : List Int) : (foldL l).length <= l.length * 2 := flatMap_len l (fun x _ => foldOfL_len x)

/-- What all spellings of a name have. -/
def keyL (l : List Int) : ByteArray := encB (apartL (foldL (apartL l)))
theorem keyL_size (l : List Int) : (keyL l).size <= l.length * 648 := by
 have h1 := encB_size (apartL (foldL (apartL l)))
 have h2 := apartL_len (foldL (apartL l))
 have h3 := foldL_len (apartL l)
 have h4 := apartL_len l
 unfold keyL; omega

theorem drop_at (s : ByteArray) (a : Nat) (h : a < s.size) : s.data.toList.drop a = s[a] :: s.data.toList.drop (a + 1) := by
 have h0 : a < s.data.toList.length := by rw [size_list]; exact h
 exact List.drop_eq_getElem_cons h0
theorem oneAt_lead (s : ByteArray) (a : Nat) (h : a < s.size) (n c0 : Nat) (hn : leadN s[a].toNat = n) (hc : leadC s[a].toNat = c0) (h0 : n ≠ 0) : oneB (dropB s a) = fin1 n (contV (n - 1) (s.data.toList.drop (a + 1)) c0) := by
 subst hn hc
 rw [one_drop, drop_at s a h, one_cons, if_neg h0]
theorem oneAt_none (s : ByteArray) (a : Nat) (h : a < s.size) (hn : leadN s[a].toNat = 0) : oneB (dropB s a) = (0, 0) := by
 rw [one_drop, drop_at s a h, one_cons, if_pos hn]
theorem reads_one (W : World) (x : Int) (e : TypeId) : Reads (W.alloc (.cells #[.int .i64 x] e)) (W.alloc (.cells #[.int .i64 x] e)).heap.size 1 (some ⟨W.heap.size, 0, none⟩) 1 (II [x]) := by
 rw [show (W.alloc (.cells #[.int .i64 x] e)).heap.size = W.heap.size + 1 by simp]
 exact reads_new W #[.int .i64 x] e 1 1 rfl
theorem encLen_iff (d n : Nat) (hs : signOk d = true) (h : n = 2 /\ d < 2048 ∨ n = 3 /\ d < 65536 ∨ n = 4 /\ d < 2097152) : (encB [(d : Int)]).size = n ↔ leastN n <= d := by
 rw [encB_one, if_pos hs, enc1_len]
 rcases h with ⟨rfl, h⟩ | ⟨rfl, h⟩ | ⟨rfl, h⟩
 ·rw [show leastN 2 = 128 from rfl]; (repeat' split) <;> omega
 ·rw [show leastN 3 = 2048 from rfl]; (repeat' split) <;> omega
 ·rw [show leastN 4 = 65536 from rfl]; (repeat' split) <;> omega
theorem encB_ne (d n : Nat) (h : (encB [(d : Int)]).size ≠ n) : (((encB [(d : Int)]).size : Int) != n) = true := by
 rw [bne_iff_ne]; omega
theorem encB_eq (d n : Nat) (h : (encB [(d : Int)]).size = n) : (((encB [(d : Int)]).size : Int) != n) = false := by
 rw [h]; simp

theorem l3One_2 (s : ByteArray) (hs : s.size <= 1000000000) (a : Nat) (h : a < s.size) (hn : leadN s[a].toNat = 2) (w : World) :
  Calls Tryz.prog 157 #[.string s, .int .i64 a] w fun e w' => e = .returned (.tuple #[.int .i64 (oneB (dropB s a)).1, .int .i64 (oneB (dropB s a)).2]) /\ Below w.heap.size w w' := by
 have hb := (s[a]'h).toNat_lt
 have hrange : 192 <= s[a].toNat /\ s[a].toNat < 224 := by unfold leadN at hn; (repeat' split at hn) <;> omega
 obtain ⟨hr0, hr1⟩ := hrange
 have Hl := Lib.hid (oneAt_lead s a h 2 (s[a].toNat % 32) hn (by unfold leadC; (repeat' split) <;> omega) (by omega))
 clear hn
 obtain ⟨o, ho⟩ : ∃ o, oneB (dropB s a) = o := ⟨_, rfl⟩
 rw [ho] at Hl ⊢
 clear ho
 have a0 := and_31 (s[a].toNat : Int) (by omega) (by omega)
 go_enter Tryz.func157, Tryz.ntmps157
 by_cases hz : (s.size : Int) < (a : Int) + 2
 ·go_wp2
  go_ret2
  exact ⟨ret_two (by rw [Hl.out, contV_short _ _ _ (by rw [List.length_drop, size_list]; omega)]; rfl) (by rw [Hl.out, contV_short _ _ _ (by rw [List.length_drop, size_list]; omega)]; rfl), bel0 w⟩
 ·go_wp2
  clear a0
  go_loop [8, 9, 10] (fun c i _ => ∃ (k j d : Nat), k + j = 2 /\ 1 <= k /\ i = .int .i64 k /\ c = .int .i64 d /\ d < 32 * 64 ^ (k - 1) /\ Hid (o = fin1 2 (contV j (s.data.toList.drop (a + k)) d))) (fun _ i _ => 2 - (intOf i).toNat)
  case atStart => exact ⟨1, 2 - 1, s[a].toNat % 32, by omega, by omega, rfl, rfl, by omega, Hl.out⟩
  case round =>
   obtain ⟨k, j, d, hkj, hk1, rfl, rfl, hd, Ho⟩ := hrel
   have hd9 : d < 8388608 := by
    have h1 : (64 : Nat) ^ (k - 1) <= 64 ^ 3 := Nat.pow_le_pow_right (by omega) (by omega)
    have h2 : (64 : Nat) ^ 3 = 262144 := by decide
    omega
   rcases j with _ | j
   ·have hlt : ¬ (k : Int) < 2 := by omega
    have ho : o = fin1 2 (some d) := Ho.out
    rcases hsg : signOk d with _ | _
    ·have Hf := Lib.hid (ho.trans (fin1_bad _ _ hsg))
     clear ho hd
     go_wp2_with (go_at_call 154; refine (l3Sign_any _ _).mono ?_; rintro e w' ⟨rfl, rfl⟩)
     go_ret2
     exact ⟨ret_two (by rw [Hf.out]; rfl) (by rw [Hf.out]; rfl), bel0 w⟩
    ·have hdn : d < 32 * 64 ^ (2 - 1) := by
      obtain rfl : k = 2 := by omega
      exact hd
     have hpow : 32 * 64 ^ (2 - 1) = 2048 := by decide
     rw [hpow] at hdn
     by_cases hle : d < leastN 2
     ·have Hf := Lib.hid (ho.trans (fin1_low _ _ hle))
      have he := encB_ne d 2 (fun e => by have := (encLen_iff d 2 hsg (by omega)).1 e; omega)
      clear ho hd hle hdn hpow
      go_wp2_with (first
       | (go_at_call 154; refine (l3Sign_any _ _).mono ?_; rintro e w' ⟨rfl, rfl⟩)
       | (go_at_call 104; go_must (refine (encode_spec _ 1 1 [(d : Int)] rfl (by omega) _ (reads_one _ _ _)).mono ?_); rintro e w1 ⟨rfl, hb1⟩))
      go_ret2
      exact ⟨ret_two (by rw [Hf.out]; rfl) (by rw [Hf.out]; rfl), belN (belA (bel0 w) _) hb1⟩
     ·have Hf := Lib.hid (ho.trans (fin1_yes _ _ (by omega) hsg))
      have he := encB_eq d 2 ((encLen_iff d 2 hsg (by omega)).2 (by omega))
      clear ho hd hle hdn hpow
      go_wp2_with (first
       | (go_at_call 154; refine (l3Sign_any _ _).mono ?_; rintro e w' ⟨rfl, rfl⟩)
       | (go_at_call 104; go_must (refine (encode_spec _ 1 1 [(d : Int)] rfl (by omega) _ (reads_one _ _ _)).mono ?_); rintro e w1 ⟨rfl, hb1⟩))
      go_ret2
      exact ⟨ret_two (by rw [Hf.out]) (by rw [Hf.out]; rfl), belN (belA (bel0 w) _) hb1⟩
   ·have hks : a + k < s.size := by omega
    have hkb := (s[a + k]'hks).toNat_lt
    have hlt : (k : Int) < 2 := by omega
    have hst := contV_step s (a + k) j d hks
    by_cases hc : 128 <= (s[a + k]'hks).toNat /\ (s[a + k]'hks).toNat < 192
    ·have Hf := Lib.hid (Ho.out.trans (by rw [hst, if_pos hc]))
     have a3 := and_63 ((s[a + k]'hks).toNat : Int) (by omega) (by omega)
     obtain ⟨hc1, hc2⟩ := hc
     have Hd := Lib.hid hd
     clear hst hd
     go_wp2_with fail
     go_round
     case rel =>
      refine ⟨k + 1, j, d * 64 + s[a + k].toNat % 64, by omega, by omega, by go_num, by go_num, ?_, Hf.out⟩
      have := Hd.out
      obtain ⟨m, rfl⟩ : ∃ m, k = m + 1 := ⟨k - 1, by omega⟩
      rw [show m + 1 + 1 - 1 = m + 1 from rfl, Nat.pow_succ]
      rw [show m + 1 - 1 = m from rfl] at this
      omega
     case measure => simp [intOf]; omega
    ·have Hf := Lib.hid (Ho.out.trans (by rw [hst, if_neg hc]))
     by_cases hc1 : (s[a + k]'hks).toNat < 128
     ·clear hst hc hd
      go_wp2_with fail
      go_ret2
      exact ⟨ret_two (by rw [Hf.out]; rfl) (by rw [Hf.out]; rfl), bel0 w⟩
     ·have hc2 : 191 < (s[a + k]'hks).toNat := by omega
      clear hst hc hd
      go_wp2_with fail
      go_ret2
      exact ⟨ret_two (by rw [Hf.out]; rfl) (by rw [Hf.out]; rfl), bel0 w⟩

theorem l3One_3 (s : ByteArray) (hs : s.size <= 1000000000) (a : Nat) (h : a < s.size) (hn : leadN s[a].toNat = 3) (w : World) :
  Calls Tryz.prog 157 #[.string s, .int .i64 a] w fun e w' => e = .returned (.tuple #[.int .i64 (oneB (dropB s a)).1, .int .i64 (oneB (dropB s a)).2]) /\ Below w.heap.size w w' := by
 have hb := (s[a]'h).toNat_lt
 have hrange : 224 <= s[a].toNat /\ s[a].toNat < 240 := by unfold leadN at hn; (repeat' split at hn) <;> omega
 obtain ⟨hr0, hr1⟩ := hrange
 have Hl := Lib.hid (oneAt_lead s a h 3 (s[a].toNat % 16) hn (by unfold leadC; (repeat' split) <;> omega) (by omega))
 clear hn
 obtain ⟨o, ho⟩ : ∃ o, oneB (dropB s a) = o := ⟨_, rfl⟩
 rw [ho] at Hl ⊢
 clear ho
 have a0 := and_15 (s[a].toNat : Int) (by omega) (by omega)
 go_enter Tryz.func157, Tryz.ntmps157
 by_cases hz : (s.size : Int) < (a : Int) + 3
 ·go_wp2
  go_ret2
  exact ⟨ret_two (by rw [Hl.out, contV_short _ _ _ (by rw [List.length_drop, size_list]; omega)]; rfl) (by rw [Hl.out, contV_short _ _ _ (by rw [List.length_drop, size_list]; omega)]; rfl), bel0 w⟩
 ·go_wp2
  clear a0
  go_loop [8, 9, 10] (fun c i _ => ∃ (k j d : Nat), k + j = 3 /\ 1 <= k /\ i = .int .i64 k /\ c = .int .i64 d /\ d < 16 * 64 ^ (k - 1) /\ Hid (o = fin1 3 (contV j (s.data.toList.drop (a + k)) d))) (fun _ i _ => 3 - (intOf i).toNat)
  case atStart => exact ⟨1, 3 - 1, s[a].toNat % 16, by omega, by omega, rfl, rfl, by omega, Hl.out⟩
  case round =>
   obtain ⟨k, j, d, hkj, hk1, rfl, rfl, hd, Ho⟩ := hrel
   have hd9 : d < 8388608 := by
    have h1 : (64 : Nat) ^ (k - 1) <= 64 ^ 3 := Nat.pow_le_pow_right (by omega) (by omega)
    have h2 : (64 : Nat) ^ 3 = 262144 := by decide
    omega
   rcases j with _ | j
   ·have hlt : ¬ (k : Int) < 3 := by omega
    have ho : o = fin1 3 (some d) := Ho.out
    rcases hsg : signOk d with _ | _
    ·have Hf := Lib.hid (ho.trans (fin1_bad _ _ hsg))
     clear ho hd
     go_wp2_with (go_at_call 154; refine (l3Sign_any _ _).mono ?_; rintro e w' ⟨rfl, rfl⟩)
     go_ret2
     exact ⟨ret_two (by rw [Hf.out]; rfl) (by rw [Hf.out]; rfl), bel0 w⟩
    ·have hdn : d < 16 * 64 ^ (3 - 1) := by
      obtain rfl : k = 3 := by omega
      exact hd
     have hpow : 16 * 64 ^ (3 - 1) = 65536 := by decide
     rw [hpow] at hdn
     by_cases hle : d < leastN 3
     ·have Hf := Lib.hid (ho.trans (fin1_low _ _ hle))
      have he := encB_ne d 3 (fun e => by have := (encLen_iff d 3 hsg (by omega)).1 e; omega)
      clear ho hd hle hdn hpow
      go_wp2_with (first
       | (go_at_call 154; refine (l3Sign_any _ _).mono ?_; rintro e w' ⟨rfl, rfl⟩)
       | (go_at_call 104; go_must (refine (encode_spec _ 1 1 [(d : Int)] rfl (by omega) _ (reads_one _ _ _)).mono ?_); rintro e w1 ⟨rfl, hb1⟩))
      go_ret2
      exact ⟨ret_two (by rw [Hf.out]; rfl) (by rw [Hf.out]; rfl), belN (belA (bel0 w) _) hb1⟩
     ·have Hf := Lib.hid (ho.trans (fin1_yes _ _ (by omega) hsg))
      have he := encB_eq d 3 ((encLen_iff d 3 hsg (by omega)).2 (by omega))
      clear ho hd hle hdn hpow
      go_wp2_with (first
       | (go_at_call 154; refine (l3Sign_any _ _).mono ?_; rintro e w' ⟨rfl, rfl⟩)
       | (go_at_call 104; go_must (refine (encode_spec _ 1 1 [(d : Int)] rfl (by omega) _ (reads_one _ _ _)).mono ?_); rintro e w1 ⟨rfl, hb1⟩))
      go_ret2
      exact ⟨ret_two (by rw [Hf.out]) (by rw [Hf.out]; rfl), belN (belA (bel0 w) _) hb1⟩
   ·have hks : a + k < s.size := by omega
    have hkb := (s[a + k]'hks).toNat_lt
    have hlt : (k : Int) < 3 := by omega
    have hst := contV_step s (a + k) j d hks
    by_cases hc : 128 <= (s[a + k]'hks).toNat /\ (s[a + k]'hks).toNat < 192
    ·have Hf := Lib.hid (Ho.out.trans (by rw [hst, if_pos hc]))
     have a3 := and_63 ((s[a + k]'hks).toNat : Int) (by omega) (by omega)
     obtain ⟨hc1, hc2⟩ := hc
     have Hd := Lib.hid hd
     clear hst hd
     go_wp2_with fail
     go_round
     case rel =>
      refine ⟨k + 1, j, d * 64 + s[a + k].toNat % 64, by omega, by omega, by go_num, by go_num, ?_, Hf.out⟩
      have := Hd.out
      obtain ⟨m, rfl⟩ : ∃ m, k = m + 1 := ⟨k - 1, by omega⟩
      rw [show m + 1 + 1 - 1 = m + 1 from rfl, Nat.pow_succ]
      rw [show m + 1 - 1 = m from rfl] at this
      omega
     case measure => simp [intOf]; omega
    ·have Hf := Lib.hid (Ho.out.trans (by rw [hst, if_neg hc]))
     by_cases hc1 : (s[a + k]'hks).toNat < 128
     ·clear hst hc hd
      go_wp2_with fail
      go_ret2
      exact ⟨ret_two (by rw [Hf.out]; rfl) (by rw [Hf.out]; rfl), bel0 w⟩
     ·have hc2 : 191 < (s[a + k]'hks).toNat := by omega
      clear hst hc hd
      go_wp2_with fail
      go_ret2
      exact ⟨ret_two (by rw [Hf.out]; rfl) (by rw [Hf.out]; rfl), bel0 w⟩

theorem l3One_4 (s : ByteArray) (hs : s.size <= 1000000000) (a : Nat) (h : a < s.size) (hn : leadN s[a].toNat = 4) (w : World) :
  Calls Tryz.prog 157 #[.string s, .int .i64 a] w fun e w' => e = .returned (.tuple #[.int .i64 (oneB (dropB s a)).1, .int .i64 (oneB (dropB s a)).2]) /\ Below w.heap.size w w' := by
 have hb := (s[a]'h).toNat_lt
 have hrange : 240 <= s[a].toNat /\ s[a].toNat < 248 := by unfold leadN at hn; (repeat' split at hn) <;> omega
 obtain ⟨hr0, hr1⟩ := hrange
 have Hl := Lib.hid (oneAt_lead s a h 4 (s[a].toNat % 8) hn (by unfold leadC; (repeat' split) <;> omega) (by omega))
 clear hn
 obtain ⟨o, ho⟩ : ∃ o, oneB (dropB s a) = o := ⟨_, rfl⟩
 rw [ho] at Hl ⊢
 clear ho
 have a0 := and_7 (s[a].toNat : Int) (by omega) (by omega)
 go_enter Tryz.func157, Tryz.ntmps157
 by_cases hz : (s.size : Int) < (a : Int) + 4
 ·go_wp2
  go_ret2
  exact ⟨ret_two (by rw [Hl.out, contV_short _ _ _ (by rw [List.length_drop, size_list]; omega)]; rfl) (by rw [Hl.out, contV_short _ _ _ (by rw [List.length_drop, size_list]; omega)]; rfl), bel0 w⟩
 ·go_wp2
  clear a0
  go_loop [8, 9, 10] (fun c i _ => ∃ (k j d : Nat), k + j = 4 /\ 1 <= k /\ i = .int .i64 k /\ c = .int .i64 d /\ d < 8 * 64 ^ (k - 1) /\ Hid (o = fin1 4 (contV j (s.data.toList.drop (a + k)) d))) (fun _ i _ => 4 - (intOf i).toNat)
  case atStart => exact ⟨1, 4 - 1, s[a].toNat % 8, by omega, by omega, rfl, rfl, by omega, Hl.out⟩
  case round =>
   obtain ⟨k, j, d, hkj, hk1, rfl, rfl, hd, Ho⟩ := hrel
   have hd9 : d < 8388608 := by
    have h1 : (64 : Nat) ^ (k - 1) <= 64 ^ 3 := Nat.pow_le_pow_right (by omega) (by omega)
    have h2 : (64 : Nat) ^ 3 = 262144 := by decide
    omega
   rcases j with _ | j
   ·have hlt : ¬ (k : Int) < 4 := by omega
    have ho : o = fin1 4 (some d) := Ho.out
    rcases hsg : signOk d with _ | _
    ·have Hf := Lib.hid (ho.trans (fin1_bad _ _ hsg))
     clear ho hd
     go_wp2_with (go_at_call 154; refine (l3Sign_any _ _).mono ?_; rintro e w' ⟨rfl, rfl⟩)
     go_ret2
     exact ⟨ret_two (by rw [Hf.out]; rfl) (by rw [Hf.out]; rfl), bel0 w⟩
    ·have hdn : d < 8 * 64 ^ (4 - 1) := by
      obtain rfl : k = 4 := by omega
      exact hd
     have hpow : 8 * 64 ^ (4 - 1) = 2097152 := by decide
     rw [hpow] at hdn
     by_cases hle : d < leastN 4
     ·have Hf := Lib.hid (ho.trans (fin1_low _ _ hle))
      have he := encB_ne d 4 (fun e => by have := (encLen_iff d 4 hsg (by omega)).1 e; omega)
      clear ho hd hle hdn hpow
      go_wp2_with (first
       | (go_at_call 154; refine (l3Sign_any _ _).mono ?_; rintro e w' ⟨rfl, rfl⟩)
       | (go_at_call 104; go_must (refine (encode_spec _ 1 1 [(d : Int)] rfl (by omega) _ (reads_one _ _ _)).mono ?_); rintro e w1 ⟨rfl, hb1⟩))
      go_ret2
      exact ⟨ret_two (by rw [Hf.out]; rfl) (by rw [Hf.out]; rfl), belN (belA (bel0 w) _) hb1⟩
     ·have Hf := Lib.hid (ho.trans (fin1_yes _ _ (by omega) hsg))
      have he := encB_eq d 4 ((encLen_iff d 4 hsg (by omega)).2 (by omega))
      clear ho hd hle hdn hpow
      go_wp2_with (first
       | (go_at_call 154; refine (l3Sign_any _ _).mono ?_; rintro e w' ⟨rfl, rfl⟩)
       | (go_at_call 104; go_must (refine (encode_spec _ 1 1 [(d : Int)] rfl (by omega) _ (reads_one _ _ _)).mono ?_); rintro e w1 ⟨rfl, hb1⟩))
      go_ret2
      exact ⟨ret_two (by rw [Hf.out]) (by rw [Hf.out]; rfl), belN (belA (bel0 w) _) hb1⟩
   ·have hks : a + k < s.size := by omega
    have hkb := (s[a + k]'hks).toNat_lt
    have hlt : (k : Int) < 4 := by omega
    have hst := contV_step s (a + k) j d hks
    by_cases hc : 128 <= (s[a + k]'hks).toNat /\ (s[a + k]'hks).toNat < 192
    ·have Hf := Lib.hid (Ho.out.trans (by rw [hst, if_pos hc]))
     have a3 := and_63 ((s[a + k]'hks).toNat : Int) (by omega) (by omega)
     obtain ⟨hc1, hc2⟩ := hc
     have Hd := Lib.hid hd
     clear hst hd
     go_wp2_with fail
     go_round
     case rel =>
      refine ⟨k + 1, j, d * 64 + s[a + k].toNat % 64, by omega, by omega, by go_num, by go_num, ?_, Hf.out⟩
      have := Hd.out
      obtain ⟨m, rfl⟩ : ∃ m, k = m + 1 := ⟨k - 1, by omega⟩
      rw [show m + 1 + 1 - 1 = m + 1 from rfl, Nat.pow_succ]
      rw [show m + 1 - 1 = m from rfl] at this
      omega
     case measure => simp [intOf]; omega
    ·have Hf := Lib.hid (Ho.out.trans (by rw [hst, if_neg hc]))
     by_cases hc1 : (s[a + k]'hks).toNat < 128
     ·clear hst hc hd
      go_wp2_with fail
      go_ret2
      exact ⟨ret_two (by rw [Hf.out]; rfl) (by rw [Hf.out]; rfl), bel0 w⟩
     ·have hc2 : 191 < (s[a + k]'hks).toNat := by omega
      clear hst hc hd
      go_wp2_with fail
      go_ret2
      exact ⟨ret_two (by rw [Hf.out]; rfl) (by rw [Hf.out]; rfl), bel0 w⟩

theorem l3One_any (s : ByteArray) (hs : s.size <= 1000000000) (a : Nat) (h : a < s.size) (w : World) :
  Calls Tryz.prog 157 #[.string s, .int .i64 a] w fun e w' => e = .returned (.tuple #[.int .i64 (oneB (dropB s a)).1, .int .i64 (oneB (dropB s a)).2]) /\ Below w.heap.size w w' := by
 have hb := (s[a]'h).toNat_lt
 by_cases h2 : leadN s[a].toNat = 2
 ·exact l3One_2 s hs a h h2 w
 by_cases h3 : leadN s[a].toNat = 3
 ·exact l3One_3 s hs a h h3 w
 by_cases h4 : leadN s[a].toNat = 4
 ·exact l3One_4 s hs a h h4 w
 by_cases h1 : s[a].toNat < 128
 ·have Hl := Lib.hid (oneAt_lead s a h 1 s[a].toNat (by unfold leadN; rw [if_pos h1]) (by unfold leadC; rw [if_pos h1]) (by omega))
  have hsg : signOk (s[a].toNat : Int) = true := by unfold signOk; rw [inI_true.2 ⟨by omega, by omega⟩, inI_false.2 (by omega)]; rfl
  have Hl2 := Lib.hid (Hl.out.trans (fin1_yes 1 _ (by simp [leastN]) hsg))
  have he := encB_eq s[a].toNat 1 (by rw [encB_one, if_pos hsg, enc1_len, if_pos (by omega)])
  obtain ⟨o, ho⟩ : ∃ o, oneB (dropB s a) = o := ⟨_, rfl⟩
  rw [ho] at Hl2 ⊢
  clear ho Hl h2 h3 h4
  go_enter Tryz.func157, Tryz.ntmps157
  go_wp2
  refine wp_loop_rounds 1 ?_
  rw [rounds_succ]
  go_wp2_with (first
   | (go_at_call 154; refine (l3Sign_any _ _).mono ?_; rintro e w' ⟨rfl, rfl⟩)
   | (go_at_call 104; go_must (refine (encode_spec _ 1 1 [(s[a].toNat : Int)] rfl (by omega) _ (reads_one _ _ _)).mono ?_); rintro e w1 ⟨rfl, hb1⟩))
  go_ret2
  exact ⟨ret_two (by rw [Hl2.out]) (by rw [Hl2.out]; rfl), belN (belA (bel0 w) _) hb1⟩
 ·have h0 : leadN s[a].toNat = 0 := by unfold leadN at *; (repeat' split) <;> simp_all
  have Hl := Lib.hid (oneAt_none s a h h0)
  have hr : ¬ (192 <= s[a].toNat /\ s[a].toNat < 248) := by unfold leadN at h0; (repeat' split at h0) <;> omega
  obtain ⟨o, ho⟩ : ∃ o, oneB (dropB s a) = o := ⟨_, rfl⟩
  rw [ho] at Hl ⊢
  clear h2 h3 h4 h0 ho
  by_cases hr1 : s[a].toNat < 192
  ·clear hr
   go_enter Tryz.func157, Tryz.ntmps157
   go_wp2
   go_ret2
   exact ⟨ret_two (by rw [Hl.out]; rfl) (by rw [Hl.out]; rfl), bel0 w⟩
  ·have hr2 : 248 <= s[a].toNat := by omega
   clear hr
   go_enter Tryz.func157, Tryz.ntmps157
   go_wp2
   go_ret2
   exact ⟨ret_two (by rw [Hl.out]; rfl) (by rw [Hl.out]; rfl), bel0 w⟩

theorem decode_spec (s : ByteArray) (hs : s.size <= 2000000) (w : World) :
  Calls Tryz.prog 108 #[.string s] w (DecPost w 3 (decB s)) := by
 go_enter Tryz.func108, Tryz.ntmps108
 go_wp2
 go_loopw [4, 5] (fun v i wr => ∃ (k : Nat) (xs : List Nat), k <= s.size /\ xs.length <= k /\ i = .int .i64 k /\ Hid (decB s = preL xs (decL (s.data.toList.drop k))) /\ wr.ownsRow w.heap.size 3 1 v xs.length (I64 xs) /\ Below w.heap.size w wr)
  (fun _ i _ => s.size - (intOf i).toNat)
 case atStart => exact ⟨0, [], by omega, by simp, rfl, (preL_nil _).symm, World.ownsRow_lit w #[] 0 (Nat.le_refl _) (by unfold maxLen; omega) rfl, belA (bel0 w) _⟩
 case round =>
  obtain ⟨k, xs, hk, hxk, rfl, heq, hown, hbel⟩ := hrel
  have hsz := hbel.size
  by_cases hlt : k < s.size
  ·have hz := dropB_size s k
   have hle := oneB_le (dropB s k)
   have Hd := Lib.hid (one_drop s k)
   obtain ⟨x, j, h⟩ : ∃ x j, oneB (dropB s k) = (x, j) := ⟨_, _, rfl⟩
   rw [h] at hle
   obtain ⟨hx, hj4, hjl⟩ := hle
   simp only at hx hj4 hjl
   have H := Lib.hid h
   by_cases hj : j = 0
   ·have hj0 : ((j : Int) == 0) = true := by rw [hj]; rfl
    have Hf := Lib.hid (show decB s = none by rw [heq.out, decL_none xs (drop_ne s k hlt) (by rw [<- Hd.out, H.out]; exact hj)])
    clear hj hjl
    go_wp2_with (go_at_call 157; refine (l3One_any s (by omega) k hlt _).mono ?_; rintro e w1 ⟨rfl, hb1⟩)
    go_ret2
    exact ⟨belA (belN hbel hb1) _, .inr ⟨_, Hf.out, rfl, World.ownsRow_lit w1 #[] 0 (belN hbel hb1).size (by unfold maxLen; omega) rfl⟩⟩
   ·have hj0 : ((j : Int) == 0) = false := by simp; exact hj
    have Hf := Lib.hid (show decB s = preL (xs ++ [x]) (decL (s.data.toList.drop (k + j))) by rw [heq.out, decL_step xs (drop_ne s k hlt) (by rw [<- Hd.out, H.out]; exact hj), <- Hd.out, H.out, List.drop_drop])
    have Hj := Lib.hid hj
    clear hj
    go_wp2_with (first
     | (go_at_call 157; refine (l3One_any s (by omega) k hlt _).mono ?_; rintro e w1 ⟨rfl, hb1⟩; have hown1 := own_below hown hb1 (Nat.le_refl _); have hs1 := hb1.size)
     | (at_builtin; go_must (refine wpList_app _ rfl _ _ _ rfl Tryz.el_int (hown1.alloc _) rfl (reads_new _ _ _ _ 1 (by rfl)) rfl (I64_cells [x]) (max_small (by omega)) (by omega) (by simp; omega) ?_); intro v2 w2 own2 hg2 _ hb2))
    go_roundw
    case rel =>
     have := Hj.out
     exact ⟨k + j, xs ++ [x], by omega, by simp; omega, by go_num, Hf.out, by rw [I64_append, List.length_append]; exact own2, ((hbel.trans (hb1.mono hsz)).alloc (by omega) _).trans hb2⟩
    case measure =>
     have := Hj.out
     simp [intOf]; omega
  ·have Hf := Lib.hid (show decB s = some xs by rw [heq.out, show s.data.toList.drop k = [] from List.drop_eq_nil_of_le (by rw [size_list]; omega), decL_end])
   go_wp2
   go_ret2
   exact ⟨hbel, .inl ⟨xs, _, Hf.out, rfl, hown⟩⟩

/-- The program's table: from where to where signs are known. -/
def knownTab : List Int := [32, 46, 48, 126, 161, 255, 469, 470, 768, 772, 776, 776, 778, 778, 803, 803, 807, 807, 902, 902, 904, 906, 908, 908, 910, 911, 913, 929, 931, 937, 940, 943, 945, 969, 972, 974, 1040, 1103, 4352, 4370, 4449, 4469, 4520, 4546, 7840, 7841, 7852, 7853, 8486, 8486, 8491, 8491, 44032, 55203]
def fromTab : List Int := [32, 161, 768, 776, 778, 803, 807, 902, 904, 908, 910, 913, 931, 940, 945, 972, 1040, 469, 7840, 7852, 8486, 8491, 4352, 4449, 4520, 44032]
def toTab : List Int := [126, 255, 772, 776, 778, 803, 807, 902, 906, 908, 911, 929, 937, 943, 969, 974, 1103, 470, 7841, 7853, 8486, 8491, 4370, 4469, 4546, 55203]
def tabAt (i : Nat) : Int := knownTab.getD i 0
def fromAt (i : Nat) : Int := fromTab.getD i 0
def toAt (i : Nat) : Int := toTab.getD i 0
/-- A sign is known. -/
def kn (c : Int) : Bool := (List.range 27).any fun j => inI c (tabAt (2 * j)) (tabAt (2 * j + 1))
def kn2 (c : Int) : Bool := (List.range 26).any fun j => inI c (fromAt j) (toAt j)
theorem II_getD (l : List Int) (j : Nat) (h : j < l.length) : (II l).toArray[j]? = some (.int .i64 (l.getD j 0)) := by
 rw [List.getElem?_toArray, II_get _ _ h]; simp [List.getD, h]
theorem any_no {n : Nat} {f : Nat -> Bool} (h : ∀ j, j < n -> f j = false) : (List.range n).any f = false := by
 rw [List.any_eq_false]; intro j hj; rw [h j (List.mem_range.1 hj)]; simp
theorem any_yes {n j : Nat} {f : Nat -> Bool} (hj : j < n) (h : f j = true) : (List.range n).any f = true :=
 List.any_eq_true.2 ⟨j, List.mem_range.2 hj, h⟩
theorem kn_iff (c : Int) : kn c = true ↔ (32 <= c /\ c <= 46) ∨ (48 <= c /\ c <= 126) ∨ (161 <= c /\ c <= 255) ∨ (469 <= c /\ c <= 470) ∨ (768 <= c /\ c <= 772) ∨ (776 <= c /\ c <= 776) ∨ (778 <= c /\ c <= 778) ∨ (803 <= c /\ c <= 803) ∨ (807 <= c /\ c <= 807) ∨ (902 <= c /\ c <= 902) ∨ (904 <= c /\ c <= 906) ∨ (908 <= c /\ c <= 908) ∨ (910 <= c /\ c <= 911) ∨ (913 <= c /\ c <= 929) ∨ (931 <= c /\ c <= 937) ∨ (940 <= c /\ c <= 943) ∨ (945 <= c /\ c <= 969) ∨ (972 <= c /\ c <= 974) ∨ (1040 <= c /\ c <= 1103) ∨ (4352 <= c /\ c <= 4370) ∨ (4449 <= c /\ c <= 4469) ∨ (4520 <= c /\ c <= 4546) ∨ (7840 <= c /\ c <= 7841) ∨ (7852 <= c /\ c <= 7853) ∨ (8486 <= c /\ c <= 8486) ∨ (8491 <= c /\ c <= 8491) ∨ (44032 <= c /\ c <= 55203) := by
 unfold kn
 rw [List.any_eq_true]
 constructor
 ·rintro ⟨j, hj, h⟩
  have h' := inI_true.1 h
  have hj' := List.mem_range.1 hj
  clear h hj
  match j, hj' with
  | 0, _ => exact (Or.inl h')
  | 1, _ => exact (Or.inr (Or.inl h'))
  | 2, _ => exact (Or.inr (Or.inr (Or.inl h')))
  | 3, _ => exact (Or.inr (Or.inr (Or.inr (Or.inl h'))))
  | 4, _ => exact (Or.inr (Or.inr (Or.inr (Or.inr (Or.inl h')))))
  | 5, _ => exact (Or.inr (Or.inr (Or.inr (Or.inr (Or.inr (Or.inl h'))))))
  | 6, _ => exact (Or.inr (Or.inr (Or.inr (Or.inr (Or.inr (Or.inr (Or.inl h')))))))
  | 7, _ => exact (Or.inr (Or.inr (Or.inr (Or.inr (Or.inr (Or.inr (Or.inr (Or.inl h'))))))))
  | 8, _ => exact (Or.inr (Or.inr (Or.inr (Or.inr (Or.inr (Or.inr (Or.inr (Or.inr (Or.inl h')))))))))
  | 9, _ => exact (Or.inr (Or.inr (Or.inr (Or.inr (Or.inr (Or.inr (Or.inr (Or.inr (Or.inr (Or.inl h'))))))))))
  | 10, _ => exact (Or.inr (Or.inr (Or.inr (Or.inr (Or.inr (Or.inr (Or.inr (Or.inr (Or.inr (Or.inr (Or.inl h')))))))))))
  | 11, _ => exact (Or.inr (Or.inr (Or.inr (Or.inr (Or.inr (Or.inr (Or.inr (Or.inr (Or.inr (Or.inr (Or.inr (Or.inl h'))))))))))))
  | 12, _ => exact (Or.inr (Or.inr (Or.inr (Or.inr (Or.inr (Or.inr (Or.inr (Or.inr (Or.inr (Or.inr (Or.inr (Or.inr (Or.inl h')))))))))))))
  | 13, _ => exact (Or.inr (Or.inr (Or.inr (Or.inr (Or.inr (Or.inr (Or.inr (Or.inr (Or.inr (Or.inr (Or.inr (Or.inr (Or.inr (Or.inl h'))))))))))))))
  | 14, _ => exact (Or.inr (Or.inr (Or.inr (Or.inr (Or.inr (Or.inr (Or.inr (Or.inr (Or.inr (Or.inr (Or.inr (Or.inr (Or.inr (Or.inr (Or.inl h')))))))))))))))
  | 15, _ => exact (Or.inr (Or.inr (Or.inr (Or.inr (Or.inr (Or.inr (Or.inr (Or.inr (Or.inr (Or.inr (Or.inr (Or.inr (Or.inr (Or.inr (Or.inr (Or.inl h'))))))))))))))))
  | 16, _ => exact (Or.inr (Or.inr (Or.inr (Or.inr (Or.inr (Or.inr (Or.inr (Or.inr (Or.inr (Or.inr (Or.inr (Or.inr (Or.inr (Or.inr (Or.inr (Or.inr (Or.inl h')))))))))))))))))
  | 17, _ => exact (Or.inr (Or.inr (Or.inr (Or.inr (Or.inr (Or.inr (Or.inr (Or.inr (Or.inr (Or.inr (Or.inr (Or.inr (Or.inr (Or.inr (Or.inr (Or.inr (Or.inr (Or.inl h'))))))))))))))))))
  | 18, _ => exact (Or.inr (Or.inr (Or.inr (Or.inr (Or.inr (Or.inr (Or.inr (Or.inr (Or.inr (Or.inr (Or.inr (Or.inr (Or.inr (Or.inr (Or.inr (Or.inr (Or.inr (Or.inr (Or.inl h')))))))))))))))))))
  | 19, _ => exact (Or.inr (Or.inr (Or.inr (Or.inr (Or.inr (Or.inr (Or.inr (Or.inr (Or.inr (Or.inr (Or.inr (Or.inr (Or.inr (Or.inr (Or.inr (Or.inr (Or.inr (Or.inr (Or.inr (Or.inl h'))))))))))))))))))))
  | 20, _ => exact (Or.inr (Or.inr (Or.inr (Or.inr (Or.inr (Or.inr (Or.inr (Or.inr (Or.inr (Or.inr (Or.inr (Or.inr (Or.inr (Or.inr (Or.inr (Or.inr (Or.inr (Or.inr (Or.inr (Or.inr (Or.inl h')))))))))))))))))))))
  | 21, _ => exact (Or.inr (Or.inr (Or.inr (Or.inr (Or.inr (Or.inr (Or.inr (Or.inr (Or.inr (Or.inr (Or.inr (Or.inr (Or.inr (Or.inr (Or.inr (Or.inr (Or.inr (Or.inr (Or.inr (Or.inr (Or.inr (Or.inl h'))))))))))))))))))))))
  | 22, _ => exact (Or.inr (Or.inr (Or.inr (Or.inr (Or.inr (Or.inr (Or.inr (Or.inr (Or.inr (Or.inr (Or.inr (Or.inr (Or.inr (Or.inr (Or.inr (Or.inr (Or.inr (Or.inr (Or.inr (Or.inr (Or.inr (Or.inr (Or.inl h')))))))))))))))))))))))
  | 23, _ => exact (Or.inr (Or.inr (Or.inr (Or.inr (Or.inr (Or.inr (Or.inr (Or.inr (Or.inr (Or.inr (Or.inr (Or.inr (Or.inr (Or.inr (Or.inr (Or.inr (Or.inr (Or.inr (Or.inr (Or.inr (Or.inr (Or.inr (Or.inr (Or.inl h'))))))))))))))))))))))))
  | 24, _ => exact (Or.inr (Or.inr (Or.inr (Or.inr (Or.inr (Or.inr (Or.inr (Or.inr (Or.inr (Or.inr (Or.inr (Or.inr (Or.inr (Or.inr (Or.inr (Or.inr (Or.inr (Or.inr (Or.inr (Or.inr (Or.inr (Or.inr (Or.inr (Or.inr (Or.inl h')))))))))))))))))))))))))
  | 25, _ => exact (Or.inr (Or.inr (Or.inr (Or.inr (Or.inr (Or.inr (Or.inr (Or.inr (Or.inr (Or.inr (Or.inr (Or.inr (Or.inr (Or.inr (Or.inr (Or.inr (Or.inr (Or.inr (Or.inr (Or.inr (Or.inr (Or.inr (Or.inr (Or.inr (Or.inr (Or.inl h'))))))))))))))))))))))))))
  | 26, _ => exact (Or.inr (Or.inr (Or.inr (Or.inr (Or.inr (Or.inr (Or.inr (Or.inr (Or.inr (Or.inr (Or.inr (Or.inr (Or.inr (Or.inr (Or.inr (Or.inr (Or.inr (Or.inr (Or.inr (Or.inr (Or.inr (Or.inr (Or.inr (Or.inr (Or.inr (Or.inr h'))))))))))))))))))))))))))
  | n + 27, hn => exact absurd hn (by omega)
 ·rintro (h | h | h | h | h | h | h | h | h | h | h | h | h | h | h | h | h | h | h | h | h | h | h | h | h | h | h)
  ·exact ⟨0, List.mem_range.2 (by omega), inI_true.2 h⟩
  ·exact ⟨1, List.mem_range.2 (by omega), inI_true.2 h⟩
  ·exact ⟨2, List.mem_range.2 (by omega), inI_true.2 h⟩
  ·exact ⟨3, List.mem_range.2 (by omega), inI_true.2 h⟩
  ·exact ⟨4, List.mem_range.2 (by omega), inI_true.2 h⟩
  ·exact ⟨5, List.mem_range.2 (by omega), inI_true.2 h⟩
  ·exact ⟨6, List.mem_range.2 (by omega), inI_true.2 h⟩
  ·exact ⟨7, List.mem_range.2 (by omega), inI_true.2 h⟩
  ·exact ⟨8, List.mem_range.2 (by omega), inI_true.2 h⟩
  ·exact ⟨9, List.mem_range.2 (by omega), inI_true.2 h⟩
  ·exact ⟨10, List.mem_range.2 (by omega), inI_true.2 h⟩
  ·exact ⟨11, List.mem_range.2 (by omega), inI_true.2 h⟩
  ·exact ⟨12, List.mem_range.2 (by omega), inI_true.2 h⟩
  ·exact ⟨13, List.mem_range.2 (by omega), inI_true.2 h⟩
  ·exact ⟨14, List.mem_range.2 (by omega), inI_true.2 h⟩
  ·exact ⟨15, List.mem_range.2 (by omega), inI_true.2 h⟩
  ·exact ⟨16, List.mem_range.2 (by omega), inI_true.2 h⟩
  ·exact ⟨17, List.mem_range.2 (by omega), inI_true.2 h⟩
  ·exact ⟨18, List.mem_range.2 (by omega), inI_true.2 h⟩
  ·exact ⟨19, List.mem_range.2 (by omega), inI_true.2 h⟩
  ·exact ⟨20, List.mem_range.2 (by omega), inI_true.2 h⟩
  ·exact ⟨21, List.mem_range.2 (by omega), inI_true.2 h⟩
  ·exact ⟨22, List.mem_range.2 (by omega), inI_true.2 h⟩
  ·exact ⟨23, List.mem_range.2 (by omega), inI_true.2 h⟩
  ·exact ⟨24, List.mem_range.2 (by omega), inI_true.2 h⟩
  ·exact ⟨25, List.mem_range.2 (by omega), inI_true.2 h⟩
  ·exact ⟨26, List.mem_range.2 (by omega), inI_true.2 h⟩
theorem kn2_iff (c : Int) : kn2 c = true ↔ (32 <= c /\ c <= 126) ∨ (161 <= c /\ c <= 255) ∨ (768 <= c /\ c <= 772) ∨ (776 <= c /\ c <= 776) ∨ (778 <= c /\ c <= 778) ∨ (803 <= c /\ c <= 803) ∨ (807 <= c /\ c <= 807) ∨ (902 <= c /\ c <= 902) ∨ (904 <= c /\ c <= 906) ∨ (908 <= c /\ c <= 908) ∨ (910 <= c /\ c <= 911) ∨ (913 <= c /\ c <= 929) ∨ (931 <= c /\ c <= 937) ∨ (940 <= c /\ c <= 943) ∨ (945 <= c /\ c <= 969) ∨ (972 <= c /\ c <= 974) ∨ (1040 <= c /\ c <= 1103) ∨ (469 <= c /\ c <= 470) ∨ (7840 <= c /\ c <= 7841) ∨ (7852 <= c /\ c <= 7853) ∨ (8486 <= c /\ c <= 8486) ∨ (8491 <= c /\ c <= 8491) ∨ (4352 <= c /\ c <= 4370) ∨ (4449 <= c /\ c <= 4469) ∨ (4520 <= c /\ c <= 4546) ∨ (44032 <= c /\ c <= 55203) := by
 unfold kn2
 rw [List.any_eq_true]
 constructor
 ·rintro ⟨j, hj, h⟩
  have h' := inI_true.1 h
  have hj' := List.mem_range.1 hj
  clear h hj
  match j, hj' with
  | 0, _ => exact (Or.inl h')
  | 1, _ => exact (Or.inr (Or.inl h'))
  | 2, _ => exact (Or.inr (Or.inr (Or.inl h')))
  | 3, _ => exact (Or.inr (Or.inr (Or.inr (Or.inl h'))))
  | 4, _ => exact (Or.inr (Or.inr (Or.inr (Or.inr (Or.inl h')))))
  | 5, _ => exact (Or.inr (Or.inr (Or.inr (Or.inr (Or.inr (Or.inl h'))))))
  | 6, _ => exact (Or.inr (Or.inr (Or.inr (Or.inr (Or.inr (Or.inr (Or.inl h')))))))
  | 7, _ => exact (Or.inr (Or.inr (Or.inr (Or.inr (Or.inr (Or.inr (Or.inr (Or.inl h'))))))))
  | 8, _ => exact (Or.inr (Or.inr (Or.inr (Or.inr (Or.inr (Or.inr (Or.inr (Or.inr (Or.inl h')))))))))
  | 9, _ => exact (Or.inr (Or.inr (Or.inr (Or.inr (Or.inr (Or.inr (Or.inr (Or.inr (Or.inr (Or.inl h'))))))))))
  | 10, _ => exact (Or.inr (Or.inr (Or.inr (Or.inr (Or.inr (Or.inr (Or.inr (Or.inr (Or.inr (Or.inr (Or.inl h')))))))))))
  | 11, _ => exact (Or.inr (Or.inr (Or.inr (Or.inr (Or.inr (Or.inr (Or.inr (Or.inr (Or.inr (Or.inr (Or.inr (Or.inl h'))))))))))))
  | 12, _ => exact (Or.inr (Or.inr (Or.inr (Or.inr (Or.inr (Or.inr (Or.inr (Or.inr (Or.inr (Or.inr (Or.inr (Or.inr (Or.inl h')))))))))))))
  | 13, _ => exact (Or.inr (Or.inr (Or.inr (Or.inr (Or.inr (Or.inr (Or.inr (Or.inr (Or.inr (Or.inr (Or.inr (Or.inr (Or.inr (Or.inl h'))))))))))))))
  | 14, _ => exact (Or.inr (Or.inr (Or.inr (Or.inr (Or.inr (Or.inr (Or.inr (Or.inr (Or.inr (Or.inr (Or.inr (Or.inr (Or.inr (Or.inr (Or.inl h')))))))))))))))
  | 15, _ => exact (Or.inr (Or.inr (Or.inr (Or.inr (Or.inr (Or.inr (Or.inr (Or.inr (Or.inr (Or.inr (Or.inr (Or.inr (Or.inr (Or.inr (Or.inr (Or.inl h'))))))))))))))))
  | 16, _ => exact (Or.inr (Or.inr (Or.inr (Or.inr (Or.inr (Or.inr (Or.inr (Or.inr (Or.inr (Or.inr (Or.inr (Or.inr (Or.inr (Or.inr (Or.inr (Or.inr (Or.inl h')))))))))))))))))
  | 17, _ => exact (Or.inr (Or.inr (Or.inr (Or.inr (Or.inr (Or.inr (Or.inr (Or.inr (Or.inr (Or.inr (Or.inr (Or.inr (Or.inr (Or.inr (Or.inr (Or.inr (Or.inr (Or.inl h'))))))))))))))))))
  | 18, _ => exact (Or.inr (Or.inr (Or.inr (Or.inr (Or.inr (Or.inr (Or.inr (Or.inr (Or.inr (Or.inr (Or.inr (Or.inr (Or.inr (Or.inr (Or.inr (Or.inr (Or.inr (Or.inr (Or.inl h')))))))))))))))))))
  | 19, _ => exact (Or.inr (Or.inr (Or.inr (Or.inr (Or.inr (Or.inr (Or.inr (Or.inr (Or.inr (Or.inr (Or.inr (Or.inr (Or.inr (Or.inr (Or.inr (Or.inr (Or.inr (Or.inr (Or.inr (Or.inl h'))))))))))))))))))))
  | 20, _ => exact (Or.inr (Or.inr (Or.inr (Or.inr (Or.inr (Or.inr (Or.inr (Or.inr (Or.inr (Or.inr (Or.inr (Or.inr (Or.inr (Or.inr (Or.inr (Or.inr (Or.inr (Or.inr (Or.inr (Or.inr (Or.inl h')))))))))))))))))))))
  | 21, _ => exact (Or.inr (Or.inr (Or.inr (Or.inr (Or.inr (Or.inr (Or.inr (Or.inr (Or.inr (Or.inr (Or.inr (Or.inr (Or.inr (Or.inr (Or.inr (Or.inr (Or.inr (Or.inr (Or.inr (Or.inr (Or.inr (Or.inl h'))))))))))))))))))))))
  | 22, _ => exact (Or.inr (Or.inr (Or.inr (Or.inr (Or.inr (Or.inr (Or.inr (Or.inr (Or.inr (Or.inr (Or.inr (Or.inr (Or.inr (Or.inr (Or.inr (Or.inr (Or.inr (Or.inr (Or.inr (Or.inr (Or.inr (Or.inr (Or.inl h')))))))))))))))))))))))
  | 23, _ => exact (Or.inr (Or.inr (Or.inr (Or.inr (Or.inr (Or.inr (Or.inr (Or.inr (Or.inr (Or.inr (Or.inr (Or.inr (Or.inr (Or.inr (Or.inr (Or.inr (Or.inr (Or.inr (Or.inr (Or.inr (Or.inr (Or.inr (Or.inr (Or.inl h'))))))))))))))))))))))))
  | 24, _ => exact (Or.inr (Or.inr (Or.inr (Or.inr (Or.inr (Or.inr (Or.inr (Or.inr (Or.inr (Or.inr (Or.inr (Or.inr (Or.inr (Or.inr (Or.inr (Or.inr (Or.inr (Or.inr (Or.inr (Or.inr (Or.inr (Or.inr (Or.inr (Or.inr (Or.inl h')))))))))))))))))))))))))
  | 25, _ => exact (Or.inr (Or.inr (Or.inr (Or.inr (Or.inr (Or.inr (Or.inr (Or.inr (Or.inr (Or.inr (Or.inr (Or.inr (Or.inr (Or.inr (Or.inr (Or.inr (Or.inr (Or.inr (Or.inr (Or.inr (Or.inr (Or.inr (Or.inr (Or.inr (Or.inr h')))))))))))))))))))))))))
  | n + 26, hn => exact absurd hn (by omega)
 ·rintro (h | h | h | h | h | h | h | h | h | h | h | h | h | h | h | h | h | h | h | h | h | h | h | h | h | h)
  ·exact ⟨0, List.mem_range.2 (by omega), inI_true.2 h⟩
  ·exact ⟨1, List.mem_range.2 (by omega), inI_true.2 h⟩
  ·exact ⟨2, List.mem_range.2 (by omega), inI_true.2 h⟩
  ·exact ⟨3, List.mem_range.2 (by omega), inI_true.2 h⟩
  ·exact ⟨4, List.mem_range.2 (by omega), inI_true.2 h⟩
  ·exact ⟨5, List.mem_range.2 (by omega), inI_true.2 h⟩
  ·exact ⟨6, List.mem_range.2 (by omega), inI_true.2 h⟩
  ·exact ⟨7, List.mem_range.2 (by omega), inI_true.2 h⟩
  ·exact ⟨8, List.mem_range.2 (by omega), inI_true.2 h⟩
  ·exact ⟨9, List.mem_range.2 (by omega), inI_true.2 h⟩
  ·exact ⟨10, List.mem_range.2 (by omega), inI_true.2 h⟩
  ·exact ⟨11, List.mem_range.2 (by omega), inI_true.2 h⟩
  ·exact ⟨12, List.mem_range.2 (by omega), inI_true.2 h⟩
  ·exact ⟨13, List.mem_range.2 (by omega), inI_true.2 h⟩
  ·exact ⟨14, List.mem_range.2 (by omega), inI_true.2 h⟩
  ·exact ⟨15, List.mem_range.2 (by omega), inI_true.2 h⟩
  ·exact ⟨16, List.mem_range.2 (by omega), inI_true.2 h⟩
  ·exact ⟨17, List.mem_range.2 (by omega), inI_true.2 h⟩
  ·exact ⟨18, List.mem_range.2 (by omega), inI_true.2 h⟩
  ·exact ⟨19, List.mem_range.2 (by omega), inI_true.2 h⟩
  ·exact ⟨20, List.mem_range.2 (by omega), inI_true.2 h⟩
  ·exact ⟨21, List.mem_range.2 (by omega), inI_true.2 h⟩
  ·exact ⟨22, List.mem_range.2 (by omega), inI_true.2 h⟩
  ·exact ⟨23, List.mem_range.2 (by omega), inI_true.2 h⟩
  ·exact ⟨24, List.mem_range.2 (by omega), inI_true.2 h⟩
  ·exact ⟨25, List.mem_range.2 (by omega), inI_true.2 h⟩
theorem kn_eq (c : Int) : (kn2 c && c != 47) = kn c := by
 rw [Bool.eq_iff_iff, Bool.and_eq_true, bne_iff_ne, kn_iff, kn2_iff]
 constructor
 ·rintro ⟨(h | h | h | h | h | h | h | h | h | h | h | h | h | h | h | h | h | h | h | h | h | h | h | h | h | h), hne⟩
  all_goals omega
 ·intro h
  refine ⟨?_, ?_⟩
  ·rcases h with h | h | h | h | h | h | h | h | h | h | h | h | h | h | h | h | h | h | h | h | h | h | h | h | h | h | h
   all_goals omega
  ·rcases h with h | h | h | h | h | h | h | h | h | h | h | h | h | h | h | h | h | h | h | h | h | h | h | h | h | h | h
   all_goals omega

/-- The world holds the program's table. -/
structure Tab (w : World) : Prop where
 pos : 0 < w.heap.size
 cell : ∀ i, i < 54 -> w.cell? ⟨0, i, none⟩ = some (.int .i64 (tabAt i))
theorem Tab.below {w w' : World} {B : Nat} (h : Tab w) (hb : Below B w w') (hB : 0 < B) : Tab w' :=
 ⟨Nat.lt_of_lt_of_le h.pos hb.size, fun i hi => by rw [hb.cell (p := ⟨0, i, none⟩) hB]; exact h.cell i hi⟩
theorem Tab.bl {w w' : World} (h : Tab w) (hb : Below w.heap.size w w') : Tab w' := h.below hb h.pos
theorem Tab.al {w : World} (h : Tab w) (o : Obj) : Tab (w.alloc o) := h.bl (belA (bel0 w) o)
theorem known_impl (c : Int) (w : World) (hT : Tab w) :
  Calls Tryz.prog 107 #[.int .i64 c] w fun e w' => e = .returned (.bool (kn c)) /\ Below w.heap.size w w' := by
 have HT := Lib.hid hT
 clear hT
 go_enter Tryz.func107, Tryz.ntmps107
 go_wp2
 go_loopw [3] (fun i wr => ∃ (m k : Nat), m = 2 * k /\ k <= 27 /\ i = .int .i64 m /\ Hid (∀ j, j < k -> inI c (tabAt (2 * j)) (tabAt (2 * j + 1)) = false) /\ Below w.heap.size w wr)
  (fun i _ => 54 - (intOf i).toNat)
 case atStart => exact ⟨0, 0, rfl, by omega, rfl, fun j hj => by omega, bel0 w⟩
 case round =>
  obtain ⟨m, k, hm, hk, rfl, hno, hbel⟩ := hrel
  by_cases hlt : m < 54
  ·have hT := HT.out.bl hbel
   have c1 := hT.cell m hlt
   have c2 := hT.cell (m + 1) (by omega)
   have Hm := Lib.hid hm
   have q0 : (0 : Int) <= ↑m := by omega
   have q1 : (↑m : Int) < 54 := by omega
   have q2 : (0 : Int) <= ↑m + 1 := by omega
   have q3 : (↑m : Int) + 1 < 54 := by omega
   have q4 : IntKind.i64.wrap ((m : Int) + 1) = (m : Int) + 1 := IntWalk.i64_in _ (by omega)
   have q5 : ((m : Int) + 1).toNat = m + 1 := by omega
   clear hm hT
   rcases hin : inI c (tabAt m) (tabAt (m + 1)) with _ | _
   ·go_wp2_with fail
    go_region_held3 (fun w' => w'.cell? ⟨0, m, none⟩ = some (.int .i64 (tabAt m)) /\ w'.cell? ⟨0, m + 1, none⟩ = some (.int .i64 (tabAt (m + 1)))) (go_keep)
     (first
      | (go_at_call 67; refine (within_any _ _ _ _).mono ?_; rintro e w' ⟨rfl, rfl⟩))
    go_wp2
    go_roundw
    case rel =>
     have hm := Hm.out
     have hin' := hin
     rw [hm] at hin'
     exact ⟨m + 2, k + 1, by omega, by omega, by go_num, fun j hj => by
      rcases Nat.lt_or_ge j k with h1 | h1
      ·exact hno.out j h1
      ·obtain rfl : j = k := by omega
       exact hin', hbel.drew⟩
    case measure => simp [intOf]; omega
   ·have Hf := Lib.hid (show kn c = true from any_yes (j := k) (by have := Hm.out; omega) (by rw [<- Hm.out]; exact hin))
    go_wp2_with fail
    go_region_held3 (fun w' => w'.cell? ⟨0, m, none⟩ = some (.int .i64 (tabAt m)) /\ w'.cell? ⟨0, m + 1, none⟩ = some (.int .i64 (tabAt (m + 1)))) (go_keep)
     (first
      | (go_at_call 67; refine (within_any _ _ _ _).mono ?_; rintro e w' ⟨rfl, rfl⟩))
    go_wp2
    go_ret
    exact ⟨ret_bool Hf.out.symm, hbel.drew⟩
  ·have Hf := Lib.hid (show kn c = false from any_no (fun j hj => hno.out j (by omega)))
   clear hm
   go_wp2
   go_ret
   exact ⟨ret_bool Hf.out.symm, hbel⟩

theorem known_spec (c : Int) (w : World) :
  Calls Tryz.prog 109 #[.int .i64 c] w fun e w' => e = .returned (.bool (kn c)) /\ Below w.heap.size w w' := by
 go_enter Tryz.func109, Tryz.ntmps109
 go_wp2
 have hA : ∀ j, j < 26 -> ((w.alloc (.cells (II fromTab).toArray 3)).alloc (.cells (II toTab).toArray 3)).cell? ⟨w.heap.size, j, none⟩ = some (.int .i64 (fromAt j)) := fun j hj => by
  rw [World.cell?_alloc_past _ _ _ (by simp), World.cell?_alloc_at _ _ _ _ rfl]; exact II_getD fromTab j hj
 have hB : ∀ j, j < 26 -> ((w.alloc (.cells (II fromTab).toArray 3)).alloc (.cells (II toTab).toArray 3)).cell? ⟨w.heap.size + 1, j, none⟩ = some (.int .i64 (toAt j)) := fun j hj => by
  rw [World.cell?_alloc_at _ _ _ _ (by simp)]; exact II_getD toTab j hj
 go_loopw [5] (fun i wr => ∃ (k : Nat), k <= 26 /\ i = .int .i64 k /\ Hid (∀ j, j < k -> inI c (fromAt j) (toAt j) = false) /\ Hid (∀ j, j < 26 -> wr.cell? ⟨w.heap.size, j, none⟩ = some (.int .i64 (fromAt j))) /\ Hid (∀ j, j < 26 -> wr.cell? ⟨w.heap.size + 1, j, none⟩ = some (.int .i64 (toAt j))) /\ Below w.heap.size w wr)
  (fun i _ => 26 - (intOf i).toNat)
 case atStart => exact ⟨0, by omega, rfl, fun j hj => by omega, hA, hB, belA (belA (bel0 w) _) _⟩
 case round =>
  clear hA hB
  obtain ⟨k, hk, rfl, hno, hA, hB, hbel⟩ := hrel
  by_cases hlt : k < 26
  ·have c1 := hA.out k hlt
   have c2 := hB.out k hlt
   have q0 : (0 : Int) <= ↑k := by omega
   have q1 : (↑k : Int) < 26 := by omega
   rcases hin : inI c (fromAt k) (toAt k) with _ | _
   ·go_wp2_with fail
    go_region_held3 (fun w' => w'.cell? ⟨w.heap.size, k, none⟩ = some (.int .i64 (fromAt k)) /\ w'.cell? ⟨w.heap.size + 1, k, none⟩ = some (.int .i64 (toAt k))) (go_keep)
     (first
      | (go_at_call 56; refine (l1In_any _ _ _ _).mono ?_; rintro e w' ⟨rfl, rfl⟩))
    go_wp2
    go_roundw
    case rel =>
     exact ⟨k + 1, by omega, by go_num, fun j hj => by
      rcases Nat.lt_or_ge j k with h1 | h1
      ·exact hno.out j h1
      ·obtain rfl : j = k := by omega
       exact hin, hA.out, hB.out, hbel.drew⟩
    case measure => simp [intOf]; omega
   ·have Hf := Lib.hid (show kn c = (c != 47) by rw [<- kn_eq, show kn2 c = true from any_yes (j := k) hlt hin]; rfl)
    go_wp2_with fail
    go_region_held3 (fun w' => w'.cell? ⟨w.heap.size, k, none⟩ = some (.int .i64 (fromAt k)) /\ w'.cell? ⟨w.heap.size + 1, k, none⟩ = some (.int .i64 (toAt k))) (go_keep)
     (first
      | (go_at_call 56; refine (l1In_any _ _ _ _).mono ?_; rintro e w' ⟨rfl, rfl⟩))
    go_wp2
    go_ret
    exact ⟨ret_bool Hf.out.symm, hbel.drew⟩
  ·have Hf := Lib.hid (show kn c = false by rw [<- kn_eq, show kn2 c = false from any_no (fun j hj => hno.out j (by omega))]; rfl)
   go_wp2
   go_ret
   exact ⟨ret_bool Hf.out.symm, hbel⟩

theorem l3Among_any (q : Int) (A : Option Addr) (n c : Nat) (xs : List Int) (hn : n <= 10000000) (w : World) (hr : Reads w w.heap.size 1 A n (II xs)) :
  Calls Tryz.prog 227 #[.int .i64 q, .slice A n c] w fun e w' => e = .returned (.bool (xs.any (· == q))) /\ Below w.heap.size w w' := by
 have hl : xs.length = n := by have := hr.1; rw [II_length] at this; omega
 have Hr := Lib.hid hr
 clear hr
 go_enter Tryz.func227, Tryz.ntmps227
 go_wp2
 go_loopw [5] (fun i wr => ∃ (j : Nat), j <= n /\ i = .int .i64 j /\ Hid ((xs.take j).any (· == q) = false) /\ Below w.heap.size w wr)
  (fun i _ => n - (intOf i).toNat)
 case atStart => exact ⟨0, by omega, rfl, rfl, bel0 w⟩
 case round =>
  obtain ⟨j, hj, rfl, hno, hbel⟩ := hrel
  by_cases hlt : j < n
  ·obtain ⟨hkx, ad, rfl, hadb, z0⟩ := reads_at (Hr.out.below hbel) hlt
   have q0 : (0 : Int) <= ↑j := by omega
   have q1 : (↑j : Int) < ↑n := by omega
   have Hs := Lib.hid (List.take_succ_eq_append_getElem hkx)
   have Hd := Lib.hid (show xs = xs.take j ++ xs[j] :: xs.drop (j + 1) by rw [<- List.drop_eq_getElem_cons hkx, List.take_append_drop])
   obtain ⟨x, hx⟩ : ∃ x, xs[j] = x := ⟨_, rfl⟩
   rw [hx] at z0 Hs Hd
   clear hx
   rcases he : (x == q) with _ | _
   ·have Hn := Lib.hid (show (xs.take (j + 1)).any (· == q) = false by rw [Hs.out, List.any_append, hno.out]; simp [he])
    go_wp2
    go_roundw
    case rel => exact ⟨j + 1, by omega, by go_num, Hn.out, hbel⟩
    case measure => simp [intOf]; omega
   ·have Hn := Lib.hid (show xs.any (· == q) = true by rw [Hd.out, List.any_append]; simp [he])
    go_wp2
    go_ret
    exact ⟨ret_bool Hn.out.symm, hbel⟩
  ·have Hn := Lib.hid (show xs.any (· == q) = false by have := hno.out; rwa [List.take_of_length_le (by omega)] at this)
   go_wp2
   go_ret
   exact ⟨ret_bool Hn.out.symm, hbel⟩

theorem class_impl (c : Int) (w : World) :
  Calls Tryz.prog 210 #[.int .i64 c] w fun e w' => e = .returned (.int .i64 (cls c)) /\ w = w' := by
 rcases h0 : inI c 768 772 with _ | _ <;> rcases h1 : (c == 776) with _ | _ <;> rcases h2 : (c == 778) with _ | _ <;> rcases h3 : (c == 803) with _ | _ <;> rcases h4 : (c == 807) with _ | _
 all_goals
  have Hs := Lib.hid (show cls c = _ by unfold cls; rw [h0, h1, h2, h3, h4])
  go_enter Tryz.func210, Tryz.ntmps210
  go_wp2_with (go_at_call 67; refine (within_any _ _ _ _).mono ?_; rintro e w' ⟨rfl, rfl⟩)
  go_ret
  exact ⟨ret_int (by rw [Hs.out]; rfl), rfl⟩

theorem among_marks (c : Int) : ([768, 769, 770, 771, 772, 776, 778] : List Int).any (· == c) = (inI c 768 772 || (c == 776 || c == 778)) := by
 rw [Bool.eq_iff_iff]
 simp [inI]; omega

theorem class_spec (c : Int) (w : World) :
  Calls Tryz.prog 173 #[.int .i64 c] w fun e w' => e = .returned (.int .i64 (cls c)) /\ Below w.heap.size w w' := by
 have Hm := Lib.hid (among_marks c)
 rcases h0 : (inI c 768 772 || (c == 776 || c == 778)) with _ | _ <;> rcases h3 : (c == 803) with _ | _ <;> rcases h4 : (c == 807) with _ | _
 all_goals
  have Hs := Lib.hid (show cls c = _ by unfold cls; rw [h0, h3, h4])
  have Hm' := Lib.hid (Hm.out.trans h0)
  clear h0
  go_enter Tryz.func173, Tryz.ntmps173
  go_wp2_with fail
  refine (l3Among_any c _ 7 7 [768, 769, 770, 771, 772, 776, 778] (by omega) _ ((reads_new _ _ _ 1 7 (by rfl)).more (by simp))).mono ?_
  rintro e w1 ⟨rfl, hb1⟩
  rw [Hm'.out]
  go_wp2
  go_ret
  exact ⟨ret_int (by rw [Hs.out]; rfl), belN (belA (bel0 w) _) hb1⟩

/-- A function that hands back a new row of numbers. -/
def RowPost (w : World) (T : TypeId) (xs : List Int) (e : Ending) (w' : World) : Prop := ∃ v, e = .returned v /\ w'.ownsRow w.heap.size T 1 v xs.length (II xs) /\ Below w.heap.size w w'
theorem row_lit (w : World) (T : TypeId) (xs : List Int) (cs : Array Value) (n : Nat) (hc : cs.toList = II xs) (hn : n = xs.length) (h63 : n <= 1000) :
  RowPost w T xs (.returned (.slice (some ⟨w.heap.size, 0, none⟩) n n)) (w.alloc (.cells cs T)) := by
 subst hn
 refine ⟨_, rfl, ?_, belA (bel0 w) _⟩
 rw [<- hc]
 exact World.ownsRow_lit w cs xs.length (Nat.le_refl _) (by unfold maxLen; omega) (by rw [<- Array.length_toList, hc, II_length]; omega)
theorem row_lit2 {w w1 : World} (hb : Below w.heap.size w w1) {T : TypeId} (xs : List Int) (cs : Array Value) (n : Nat) (hc : cs.toList = II xs) (hn : n = xs.length) (h63 : n <= 1000) :
  RowPost w T xs (.returned (.slice (some ⟨w1.heap.size, 0, none⟩) n n)) (w1.alloc (.cells cs T)) := by
 obtain ⟨v, hv, hown, hb2⟩ := row_lit w1 T xs cs n hc hn h63
 exact ⟨v, hv, own_more hown hb.size, belN hb hb2⟩

theorem foldOf_impl (c : Int) (w : World) :
  Calls Tryz.prog 238 #[.int .i64 c] w (RowPost w 3 (foldOfL c)) := by
 rcases ha : foldA c with _ | _
 ·have ha' := ha
  unfold foldA at ha'
  rw [Bool.or_eq_false_iff, Bool.or_eq_false_iff, Bool.or_eq_false_iff] at ha'
  obtain ⟨a1, a2, a3, a4⟩ := ha'
  rcases hb : foldB c with _ | _
  ·have hb' := hb
   unfold foldB at hb'
   simp only [List.any_cons, List.any_nil, Bool.or_false, Bool.or_eq_false_iff] at hb'
   obtain ⟨b1, b2, b3, b4⟩ := hb'
   rw [beq_eq_false_iff_ne] at b1 b2 b3 b4
   have b1' : (c == 198) = false := by rw [beq_eq_false_iff_ne]; exact Ne.symm b1
   have b2' : (c == 208) = false := by rw [beq_eq_false_iff_ne]; exact Ne.symm b2
   have b3' : (c == 216) = false := by rw [beq_eq_false_iff_ne]; exact Ne.symm b3
   have b4' : (c == 222) = false := by rw [beq_eq_false_iff_ne]; exact Ne.symm b4
   clear b1 b2 b3 b4
   rcases h3 : (c == 223) with _ | _ <;> rcases h4 : (c == 962) with _ | _
   all_goals
    have Hs := Lib.hid (show foldOfL c = _ by unfold foldOfL; rw [ha, hb, h3, h4])
    clear ha hb
    go_enter Tryz.func238, Tryz.ntmps238
    go_wp2_with (go_at_call 67; refine (within_any _ _ _ _).mono ?_; rintro e w' ⟨rfl, rfl⟩)
    go_ret
    rw [Hs.out]
    exact row_lit w _ _ _ _ rfl rfl (by simp)
  ·have Hs := Lib.hid (show foldOfL c = [c + 32] by unfold foldOfL; rw [ha, hb]; rfl)
   have hb' : c = 198 ∨ c = 208 ∨ c = 216 ∨ c = 222 := by
    unfold foldB at hb
    simp only [List.any_cons, List.any_nil, Bool.or_false, Bool.or_eq_true, beq_iff_eq] at hb
    omega
   clear ha hb
   rcases hb' with rfl | rfl | rfl | rfl
   all_goals
    go_enter Tryz.func238, Tryz.ntmps238
    go_wp2_with (go_at_call 67; refine (within_any _ _ _ _).mono ?_; rintro e w' ⟨rfl, rfl⟩)
    go_ret
    rw [Hs.out]
    exact row_lit w _ _ _ _ rfl rfl (by simp)
 ·have Hs := Lib.hid (show foldOfL c = [c + 32] by unfold foldOfL; rw [ha]; rfl)
  have ha' := ha
  unfold foldA at ha'
  have hbd : 0 <= c /\ c <= 2000 := by
   simp only [Bool.or_eq_true, inI_true] at ha'
   omega
  obtain ⟨hb0, hb1⟩ := hbd
  clear ha'
  rcases a1 : inI c 65 90 with _ | _ <;> rcases a2 : inI c 913 929 with _ | _ <;> rcases a3 : inI c 931 937 with _ | _ <;> rcases a4 : inI c 1040 1071 with _ | _
  all_goals try (exfalso; unfold foldA at ha; rw [a1, a2, a3, a4] at ha; exact absurd ha (by decide))
  all_goals
   clear ha
   go_enter Tryz.func238, Tryz.ntmps238
   go_wp2_with (go_at_call 67; refine (within_any _ _ _ _).mono ?_; rintro e w' ⟨rfl, rfl⟩)
   go_ret
   rw [Hs.out]
   exact row_lit w _ _ _ _ rfl rfl (by simp)

theorem foldOf_spec (c : Int) (w : World) :
  Calls Tryz.prog 174 #[.int .i64 c] w (RowPost w 3 (foldOfL c)) := by
 rcases ha : foldA c with _ | _
 ·have ha' := ha
  unfold foldA at ha'
  rw [Bool.or_eq_false_iff, Bool.or_eq_false_iff, Bool.or_eq_false_iff] at ha'
  obtain ⟨a1, a2, a3, a4⟩ := ha'
  rcases hb : foldB c with _ | _
  ·rcases h3 : (c == 223) with _ | _ <;> rcases h4 : (c == 962) with _ | _
   all_goals
    have Hs := Lib.hid (show foldOfL c = _ by unfold foldOfL; rw [ha, hb, h3, h4])
    have Hb := Lib.hid (show ([198, 208, 216, 222] : List Int).any (· == c) = false from hb)
    clear ha hb
    go_enter Tryz.func174, Tryz.ntmps174
    go_wp2_with (first
     | (go_at_call 56; refine (l1In_any _ _ _ _).mono ?_; rintro e w' ⟨rfl, rfl⟩)
     | (go_at_call 227; refine (l3Among_any c _ 4 4 [198, 208, 216, 222] (by omega) _ ((reads_new _ _ _ 1 4 (by rfl)).more (by simp))).mono ?_; rintro e w1 ⟨rfl, hb1⟩; rw [Hb.out]))
    go_ret
    rw [Hs.out]
    exact row_lit2 (belN (belA (bel0 w) _) hb1) _ _ _ rfl rfl (by simp)
  ·have Hs := Lib.hid (show foldOfL c = [c + 32] by unfold foldOfL; rw [ha, hb]; rfl)
   have Hb := Lib.hid (show ([198, 208, 216, 222] : List Int).any (· == c) = true from hb)
   have hbd : 0 <= c /\ c <= 2000 := by
    unfold foldB at hb
    simp only [List.any_cons, List.any_nil, Bool.or_false, Bool.or_eq_true, beq_iff_eq] at hb
    omega
   obtain ⟨hb0, hb1⟩ := hbd
   clear ha hb
   go_enter Tryz.func174, Tryz.ntmps174
   go_wp2_with (first
    | (go_at_call 56; refine (l1In_any _ _ _ _).mono ?_; rintro e w' ⟨rfl, rfl⟩)
    | (go_at_call 227; refine (l3Among_any c _ 4 4 [198, 208, 216, 222] (by omega) _ ((reads_new _ _ _ 1 4 (by rfl)).more (by simp))).mono ?_; rintro e w1 ⟨rfl, hb1⟩; rw [Hb.out]))
   go_ret
   rw [Hs.out]
   exact row_lit2 (belN (belA (bel0 w) _) hb1) _ _ _ rfl rfl (by simp)
 ·have Hs := Lib.hid (show foldOfL c = [c + 32] by unfold foldOfL; rw [ha]; rfl)
  have ha' := ha
  unfold foldA at ha'
  have hbd : 0 <= c /\ c <= 2000 := by
   simp only [Bool.or_eq_true, inI_true] at ha'
   omega
  obtain ⟨hb0, hb1⟩ := hbd
  clear ha'
  rcases a1 : inI c 65 90 with _ | _ <;> rcases a2 : inI c 913 929 with _ | _ <;> rcases a3 : inI c 931 937 with _ | _ <;> rcases a4 : inI c 1040 1071 with _ | _
  all_goals try (exfalso; unfold foldA at ha; rw [a1, a2, a3, a4] at ha; exact absurd ha (by decide))
  all_goals
   clear ha
   go_enter Tryz.func174, Tryz.ntmps174
   go_wp2_with (go_at_call 56; refine (l1In_any _ _ _ _).mono ?_; rintro e w' ⟨rfl, rfl⟩)
   go_ret
   rw [Hs.out]
   exact row_lit w _ _ _ _ rfl rfl (by simp)

end Go.Proofs.YtjjniapamdleoaaGreatDoor
