/- Plain facts, no program in sight: numbers between limits, texts of numbers, the sum of a text. -/
import Derived.Test.YtlgjehdocppofaaDoorKit
namespace Go.Proofs.YtlgjehdocppofaaDoor
open Go Go.RowKit

/-- A number lies from one to another one. -/
def inI (x lo hi : Int) : Bool := decide (lo ≤ x) && decide (x ≤ hi)
theorem inI_true {x lo hi : Int} : inI x lo hi = true ↔ lo ≤ x ∧ x ≤ hi := by simp [inI]
theorem inI_false {x lo hi : Int} : inI x lo hi = false ↔ ¬ (lo ≤ x ∧ x ≤ hi) := by
  rw [← inI_true]; cases inI x lo hi <;> simp

theorem byte_ex (x : Int) (k : Nat) (hx : x = k) (hk : k < 256) : ∃ b : UInt8, x = (b.toNat : Int) ∧ Hid (b = UInt8.ofNat k) :=
  ⟨UInt8.ofNat k, by rw [toNat_ofNat k hk]; exact hx, rfl⟩

theorem and_mask (q : Int) (n k : Nat) (hn : n = 2 ^ k - 1) (hk : n < 9223372036854775808) (h0 : 0 ≤ q) (h1 : q < 9223372036854775808) : bits .and .i64 q n = q % ((2 ^ k : Nat) : Int) := by
  obtain ⟨m, rfl⟩ := Int.eq_ofNat_of_zero_le h0
  rw [i64_and_nat m n (by omega) hk, hn, Nat.and_two_pow_sub_one_eq_mod]
  rfl
theorem and_1 (q : Int) (h0 : 0 ≤ q) (h1 : q < 9223372036854775808) : bits .and .i64 q 1 = q % 2 := and_mask q 1 1 rfl (by omega) h0 h1
theorem and_127 (q : Int) (h0 : 0 ≤ q) (h1 : q < 9223372036854775808) : bits .and .i64 q 127 = q % 128 := and_mask q 127 7 rfl (by omega) h0 h1
theorem and_255 (q : Int) (h0 : 0 ≤ q) (h1 : q < 9223372036854775808) : bits .and .i64 q 255 = q % 256 := and_mask q 255 8 rfl (by omega) h0 h1
theorem or_128 (q : Int) (h0 : 0 ≤ q) (h1 : q < 128) : bits .or .i64 q 128 = q + 128 := by
  obtain ⟨m, rfl⟩ := Int.eq_ofNat_of_zero_le h0
  have h := i64_or_nat m 128 (by omega) (by omega)
  have e : m ||| 128 = m + 128 := by
    have := Nat.two_pow_add_eq_or_of_lt (i := 7) (b := m) (by omega) 1
    rw [Nat.or_comm]; simp at this; omega
  rw [e] at h
  simpa using h

/-- The text of a number in groups of seven bits. -/
def varL (n : Nat) : List UInt8 := if n < 128 then [UInt8.ofNat n] else UInt8.ofNat (n % 128 + 128) :: varL (n / 128)
termination_by n
decreasing_by omega
theorem varL_lt {n : Nat} (h : n < 128) : varL n = [UInt8.ofNat n] := by rw [varL, if_pos h]
theorem varL_ge {n : Nat} (h : 128 ≤ n) : varL n = UInt8.ofNat (n % 128 + 128) :: varL (n / 128) := by rw [varL, if_neg (by omega)]
theorem varL_len : ∀ (k n : Nat), n < 128 ^ (k + 1) → (varL n).length ≤ k + 1
  | 0, n, h => by rw [varL_lt (by simpa using h)]; simp
  | k + 1, n, h => by
    by_cases hn : n < 128
    · rw [varL_lt hn]; simp
    · rw [varL_ge (by omega), List.length_cons]
      have := varL_len k (n / 128) (by rw [Nat.div_lt_iff_lt_mul (by omega)]; rw [Nat.pow_succ] at h; exact h)
      omega
theorem varL_pos (n : Nat) : 1 ≤ (varL n).length := by
  rw [varL]; split <;> simp
def maxVar : Int := 562949953421311
/-- What Var gives. -/
def varB (n : Int) : ByteArray := if inI n 0 maxVar then str (varL n.toNat) else str []
theorem varL_len7 (n : Int) (h0 : 0 ≤ n) (h : n ≤ maxVar) : (varL n.toNat).length ≤ 7 := by
  unfold maxVar at h
  exact varL_len 6 _ (by have : (128 : Nat) ^ (6 + 1) = 562949953421312 := by decide
                         omega)
theorem varB_size (n : Int) : (varB n).size ≤ 7 := by
  unfold varB
  split
  · rename_i h
    obtain ⟨h0, h1⟩ := inI_true.1 h
    rw [str_size]
    exact varL_len7 n h0 h1
  · rw [str_size]; simp

/-- Four bytes, the great one first. -/
def be4 (n : Nat) : List UInt8 := [UInt8.ofNat (n / 16777216 % 256), UInt8.ofNat (n / 65536 % 256), UInt8.ofNat (n / 256 % 256), UInt8.ofNat (n % 256)]
def fix4 (n : Int) : ByteArray := str (be4 n.toNat)
theorem fix4_size (n : Int) : (fix4 n).size = 4 := by rw [fix4, str_size]; rfl

/-- One bit of the sum. -/
def crcBit (c : Int) : Int := if c % 2 = 1 then bits .xor .i64 (c / 2) 2197175160 else c / 2
def crcIt : Nat → Int → Int
  | 0, c => c
  | k + 1, c => crcIt k (crcBit c)
def crcByte (c : Int) (b : UInt8) : Int := crcIt 8 (bits .xor .i64 c b.toNat)
def crcL (l : List UInt8) : Int := l.foldl crcByte 4294967295
def crcB (s : ByteArray) : Int := 4294967295 - crcL s.data.toList

theorem xor_bd (a b : Int) (ha : 0 ≤ a) (ha' : a < 4294967296) (hb : 0 ≤ b) (hb' : b < 4294967296) : 0 ≤ bits .xor .i64 a b ∧ bits .xor .i64 a b < 4294967296 := by
  obtain ⟨a, rfl⟩ := Int.eq_ofNat_of_zero_le ha
  obtain ⟨b, rfl⟩ := Int.eq_ofNat_of_zero_le hb
  rw [i64_xor_nat a b (by omega) (by omega)]
  have : a ^^^ b < 2 ^ 32 := Nat.xor_lt_two_pow (by omega) (by omega)
  omega
theorem crcBit_bd (c : Int) (h0 : 0 ≤ c) (h1 : c < 4294967296) : 0 ≤ crcBit c ∧ crcBit c < 4294967296 := by
  unfold crcBit
  split
  · exact xor_bd _ _ (by omega) (by omega) (by omega) (by omega)
  · omega
theorem crcIt_bd : ∀ (k : Nat) (c : Int), 0 ≤ c → c < 4294967296 → 0 ≤ crcIt k c ∧ crcIt k c < 4294967296
  | 0, _, h0, h1 => ⟨h0, h1⟩
  | k + 1, c, h0, h1 => crcIt_bd k _ (crcBit_bd c h0 h1).1 (crcBit_bd c h0 h1).2
theorem crcByte_bd (c : Int) (b : UInt8) (h0 : 0 ≤ c) (h1 : c < 4294967296) : 0 ≤ crcByte c b ∧ crcByte c b < 4294967296 := by
  have := b.toNat_lt
  have h := xor_bd c b.toNat h0 h1 (by omega) (by omega)
  exact crcIt_bd _ _ h.1 h.2
theorem foldl_bd : ∀ (l : List UInt8) (c : Int), 0 ≤ c → c < 4294967296 → 0 ≤ l.foldl crcByte c ∧ l.foldl crcByte c < 4294967296
  | [], _, h0, h1 => ⟨h0, h1⟩
  | b :: l, c, h0, h1 => foldl_bd l _ (crcByte_bd c b h0 h1).1 (crcByte_bd c b h0 h1).2
theorem crcL_bd (l : List UInt8) : 0 ≤ crcL l ∧ crcL l < 4294967296 := foldl_bd l _ (by omega) (by omega)
theorem crcB_bd (s : ByteArray) : 0 ≤ crcB s ∧ crcB s < 4294967296 := by
  have := crcL_bd s.data.toList
  unfold crcB; omega
theorem take_snoc (s : ByteArray) (k : Nat) (h : k < s.size) : s.data.toList.take (k + 1) = s.data.toList.take k ++ [s[k]] := by
  rw [List.take_succ_eq_append_getElem (by simpa using h)]; rfl
theorem crcL_snoc (s : ByteArray) (k : Nat) (h : k < s.size) : crcL (s.data.toList.take (k + 1)) = crcByte (crcL (s.data.toList.take k)) s[k] := by
  rw [take_snoc s k h, crcL, List.foldl_append]; rfl
theorem crcIt_succ' : ∀ (k : Nat) (c : Int), crcIt (k + 1) c = crcBit (crcIt k c)
  | 0, _ => rfl
  | k + 1, c => crcIt_succ' k (crcBit c)
theorem take_all (s : ByteArray) (k : Nat) (h : s.size ≤ k) : s.data.toList.take k = s.data.toList := List.take_of_length_le (by rw [size_list]; exact h)

end Go.Proofs.YtlgjehdocppofaaDoor
