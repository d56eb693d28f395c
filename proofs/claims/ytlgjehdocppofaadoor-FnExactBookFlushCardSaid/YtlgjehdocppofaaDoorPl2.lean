/- Plain facts: a number read from a text. -/
import Derived.Test.YtlgjehdocppofaaDoorPl
import Derived.Lib.Strings
namespace Go.Proofs.YtlgjehdocppofaaDoor
open Go Go.RowKit

theorem seq_true {a b : ByteArray} (h : a = b) : (a.toList == b.toList) = true := by rw [h]; simp
theorem seq_false {a b : ByteArray} (h : a ≠ b) : (a.toList == b.toList) = false := by
  rw [ByteArray.toList_eq, ByteArray.toList_eq, beq_eq_false_iff_ne]
  exact fun e => h (bytes_ext e)
theorem sub_list (s : ByteArray) (i j : Nat) : (s.extract i j).data.toList = (s.data.toList.take j).drop i := by
  rw [ByteArray.data_extract, Array.toList_extract, List.extract_eq_take_drop, List.drop_take]

theorem and8_127 (b : UInt8) : bits .and .u8 (b.toNat : Int) 127 = (b.toNat : Int) % 128 := by
  have h : ∀ n : Nat, n < 256 → bits .and .u8 (n : Int) 127 = (n : Int) % 128 := by decide +kernel
  exact h _ b.toNat_lt

/-- The value of groups of seven bits, the small one first. -/
def valL : List UInt8 → Nat
  | [] => 0
  | b :: l => b.toNat % 128 + 128 * valL l
theorem valL_snoc : ∀ (l : List UInt8) (b : UInt8), valL (l ++ [b]) = valL l + 2 ^ (7 * l.length) * (b.toNat % 128)
  | [], b => by simp [valL]
  | a :: l, b => by
    rw [List.cons_append, valL, valL_snoc l b, valL, List.length_cons, Nat.mul_succ, Nat.pow_add]
    generalize 2 ^ (7 * l.length) = p
    generalize valL l = v
    generalize b.toNat % 128 = c
    rw [show (2 : Nat) ^ 7 = 128 from rfl, Nat.mul_add, Nat.mul_comm p 128, Nat.mul_assoc]
    omega
theorem valL_lt : ∀ (l : List UInt8), valL l < 2 ^ (7 * l.length)
  | [] => by simp [valL]
  | a :: l => by
    have := valL_lt l
    rw [valL, List.length_cons, Nat.mul_succ, Nat.pow_add, show (2 : Nat) ^ 7 = 128 from rfl]
    generalize 2 ^ (7 * l.length) = p at *
    omega
theorem valL_lt7 (l : List UInt8) (h : l.length ≤ 7) : valL l < 562949953421312 := by
  have h1 := valL_lt l
  have h2 : (2 : Nat) ^ (7 * l.length) ≤ 2 ^ 49 := Nat.pow_le_pow_right (by omega) (by omega)
  have h3 : (2 : Nat) ^ 49 = 562949953421312 := by decide
  omega
theorem or_val (l : List UInt8) (b : UInt8) (h : l.length < 7) : bits .or .i64 (valL l : Int) (wrap64 ((b.toNat : Int) % 128 * 2 ^ (7 * l.length))) = (valL (l ++ [b]) : Int) := by
  have hv := valL_lt l
  have h6 : 7 * l.length ≤ 42 := by omega
  have hp : (2 : Nat) ^ (7 * l.length) ≤ 2 ^ 42 := Nat.pow_le_pow_right (by omega) h6
  have h42 : (2 : Nat) ^ 42 = 4398046511104 := by decide
  have hc : ((b.toNat : Int) % 128 * 2 ^ (7 * l.length)) = ((2 ^ (7 * l.length) * (b.toNat % 128) : Nat) : Int) := by
    rw [Int.natCast_mul, Int.mul_comm]; simp
  have hle : 2 ^ (7 * l.length) * (b.toNat % 128) ≤ 4398046511104 * 127 := Nat.mul_le_mul (by omega) (by omega)
  rw [hc, IntWalk.wrap64_in _ (by omega), i64_or_nat _ _ (by omega) (by omega), valL_snoc]
  congr 1
  rw [Nat.or_comm, ← Nat.two_pow_add_eq_or_of_lt hv, Nat.add_comm]

theorem varL_shape : ∀ (k n : Nat), n < 128 ^ (k + 1) → ∃ (l : List UInt8) (b : UInt8), varL n = l ++ [b] ∧ b.toNat < 128 ∧ (∀ x ∈ l, 128 ≤ x.toNat)
  | 0, n, h => ⟨[], UInt8.ofNat n, by rw [varL_lt (by simpa using h)]; rfl, by rw [toNat_ofNat _ (by simp at h; omega)]; simpa using h, by simp⟩
  | k + 1, n, h => by
    by_cases hn : n < 128
    · exact ⟨[], UInt8.ofNat n, by rw [varL_lt hn]; rfl, by rw [toNat_ofNat _ (by omega)]; exact hn, by simp⟩
    · obtain ⟨l, b, h1, h2, h3⟩ := varL_shape k (n / 128) (by rw [Nat.div_lt_iff_lt_mul (by omega)]; rw [Nat.pow_succ] at h; exact h)
      refine ⟨UInt8.ofNat (n % 128 + 128) :: l, b, by rw [varL_ge (by omega), h1]; rfl, h2, ?_⟩
      intro x hx
      rcases List.mem_cons.1 hx with rfl | hx
      · rw [toNat_ofNat _ (by omega)]; omega
      · exact h3 x hx

/-- A number at a text's beginning, and how many bytes it has; 0 and 0 where there is none. -/
def rv (l : List UInt8) : Nat × Nat :=
  match (l.take 7).findIdx? (fun b => decide (b.toNat < 128)) with
  | none => (0, 0)
  | some k => if varL (valL (l.take (k + 1))) = l.take (k + 1) then (valL (l.take (k + 1)), k + 1) else (0, 0)
theorem rv_low {l : List UInt8} {k : Nat} (h7 : k < 7) (hk : k < l.length) (hb : (l[k]).toNat < 128) (ha : ∀ j (hj : j < k), 128 ≤ (l[j]'(by omega)).toNat) :
    rv l = if varL (valL (l.take (k + 1))) = l.take (k + 1) then (valL (l.take (k + 1)), k + 1) else (0, 0) := by
  have : (l.take 7).findIdx? (fun b => decide (b.toNat < 128)) = some k := by
    rw [List.findIdx?_eq_some_iff_getElem]
    refine ⟨by rw [List.length_take]; omega, by simp [hb], fun j hj => ?_⟩
    have := ha j hj
    simp; omega
  rw [rv, this]
theorem rv_none {l : List UInt8} (ha : ∀ j (hj : j < l.length), j < 7 → 128 ≤ (l[j]).toNat) : rv l = (0, 0) := by
  have : (l.take 7).findIdx? (fun b => decide (b.toNat < 128)) = none := by
    rw [List.findIdx?_eq_none_iff]
    intro x hx
    obtain ⟨j, hj, rfl⟩ := List.getElem_of_mem hx
    rw [List.length_take] at hj
    have := ha j (by omega) (by omega)
    simp; omega
  rw [rv, this]
theorem rv_cases (l : List UInt8) : rv l = (0, 0) ∨ ∃ k, k < 7 ∧ k < l.length ∧ rv l = (valL (l.take (k + 1)), k + 1) ∧ varL (valL (l.take (k + 1))) = l.take (k + 1) := by
  unfold rv
  cases h : (l.take 7).findIdx? (fun b => decide (b.toNat < 128)) with
  | none => exact .inl rfl
  | some k =>
    obtain ⟨hk, _⟩ := List.findIdx?_eq_some_iff_getElem.1 h
    rw [List.length_take] at hk
    by_cases hv : varL (valL (l.take (k + 1))) = l.take (k + 1)
    · exact .inr ⟨k, by omega, by omega, by simp [hv], hv⟩
    · left; simp [hv]
theorem rv_le (l : List UInt8) : (rv l).2 ≤ 7 ∧ (rv l).2 ≤ l.length ∧ (rv l).1 < 562949953421312 := by
  rcases rv_cases l with h | ⟨k, h1, h2, h, _⟩ <;> rw [h]
  · simp
  · exact ⟨h1, h2, valL_lt7 _ (by rw [List.length_take]; omega)⟩
/-- The number's text stands at the beginning. -/
theorem rv_text (l : List UInt8) (h : (rv l).2 ≠ 0) : varL (rv l).1 = l.take (rv l).2 ∧ 0 < (rv l).2 := by
  rcases rv_cases l with h' | ⟨k, h1, h2, h', h3⟩
  · exact absurd (congrArg Prod.snd h') h
  · rw [h']; exact ⟨h3, by simp⟩
theorem rv_hit {l : List UInt8} {k : Nat} (h7 : k + 1 ≤ 7) (hk : k + 1 ≤ l.length) (h : varL (valL (l.take (k + 1))) = l.take (k + 1)) : rv l = (valL (l.take (k + 1)), k + 1) := by
  obtain ⟨m, b, h1, h2, h3⟩ := varL_shape 6 (valL (l.take (k + 1))) (valL_lt7 _ (by rw [List.length_take]; omega))
  rw [h] at h1
  have hl : m.length = k := by have := congrArg List.length h1; simp at this; omega
  have hat : ∀ j (hj : j < k + 1), l[j]'(by omega) = (m ++ [b])[j]'(by simp; omega) := by
    intro j hj
    have : (l.take (k + 1))[j]? = (m ++ [b])[j]? := by rw [h1]
    rw [List.getElem?_take, if_pos hj, List.getElem?_eq_getElem (by omega), List.getElem?_eq_getElem (by simp; omega)] at this
    exact Option.some.inj this
  have hb : (l[k]'(by omega)).toNat < 128 := by
    rw [hat k (by omega), List.getElem_append_right (by omega)]; simpa using h2
  have ha : ∀ j (hj : j < k), 128 ≤ (l[j]'(by omega)).toNat := by
    intro j hj
    rw [hat j (by omega), List.getElem_append_left (by omega)]
    exact h3 _ (List.getElem_mem _)
  rw [rv_low (by omega) (by omega) hb ha, if_pos h]
theorem rv_miss {l : List UInt8} (h : ∀ k, k + 1 ≤ 7 → k + 1 ≤ l.length → varL (valL (l.take (k + 1))) ≠ l.take (k + 1)) : rv l = (0, 0) := by
  rcases rv_cases l with h' | ⟨k, h1, h2, _, h4⟩
  · exact h'
  · exact absurd h4 (h k (by omega) (by omega))
theorem varB_val (l : List UInt8) (h : l.length ≤ 7) : varB (valL l : Int) = str (varL (valL l)) := by
  have := valL_lt7 l h
  unfold varB
  rw [if_pos (inI_true.2 ⟨by omega, by unfold maxVar; omega⟩)]
  rfl
theorem drop_take_cons (l : List UInt8) (i k : Nat) (hi : i < k) (hk : k ≤ l.length) : (l.take k).drop i = l[i]'(by omega) :: (l.take k).drop (i + 1) := by
  rw [List.drop_eq_getElem_cons (by rw [List.length_take]; omega), List.getElem_take]

end Go.Proofs.YtlgjehdocppofaaDoor
