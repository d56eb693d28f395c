/- Plain facts: signs and their bytes. -/
import Derived.Test.YtlgjehdocppofaaDoorOwn
namespace Go.Proofs.YtlgjehdocppofaaDoor
open Go Go.RowKit

/-- A number can be written as a sign. -/
def signOk (c : Int) : Bool := inI c 0 1114111 && !inI c 55296 57343
theorem signOk_bd {c : Int} (h : signOk c = true) : 0 ≤ c ∧ c ≤ 1114111 := by
  unfold signOk at h
  rw [Bool.and_eq_true] at h
  exact inI_true.1 h.1
def leadN (b : Nat) : Nat := if b < 128 then 1 else if 192 ≤ b ∧ b < 224 then 2 else if 224 ≤ b ∧ b < 240 then 3 else if 240 ≤ b ∧ b < 248 then 4 else 0
def leadC (b : Nat) : Nat := if b < 128 then b else if 192 ≤ b ∧ b < 224 then b % 32 else if 224 ≤ b ∧ b < 240 then b % 16 else b % 8
def leastN (n : Nat) : Nat := if n = 2 then 128 else if n = 3 then 2048 else if n = 4 then 65536 else 0
def contV : Nat → List UInt8 → Nat → Option Nat
  | 0, _, c => some c
  | _ + 1, [], _ => none
  | k + 1, b :: l, c => if 128 ≤ b.toNat ∧ b.toNat < 192 then contV k l (c * 64 + b.toNat % 64) else none
/-- What a value read as so many bytes comes to. -/
def fin1 (n : Nat) : Option Nat → Nat × Nat
  | none => (0, 0)
  | some c => if leastN n ≤ c ∧ signOk c = true then (c, n) else (0, 0)
/-- The sign at a text's beginning, and how many bytes it has. -/
def one : List UInt8 → Nat × Nat
  | [] => (0, 0)
  | b :: r => if leadN b.toNat = 0 then (0, 0) else fin1 (leadN b.toNat) (contV (leadN b.toNat - 1) r (leadC b.toNat))
def oneB (s : ByteArray) : Nat × Nat := one s.data.toList

theorem contV_short : ∀ (k : Nat) (l : List UInt8) (c : Nat), l.length < k → contV k l c = none
  | 0, _, _, h => by omega
  | _ + 1, [], _, _ => rfl
  | k + 1, b :: l, c, h => by
    rw [contV, contV_short k l _ (by simp at h; omega)]
    split <;> rfl
theorem fin1_some (n c : Nat) : fin1 n (some c) = if leastN n ≤ c ∧ signOk c = true then (c, n) else (0, 0) := rfl
theorem one_cons (b : UInt8) (r : List UInt8) : one (b :: r) = if leadN b.toNat = 0 then (0, 0) else fin1 (leadN b.toNat) (contV (leadN b.toNat - 1) r (leadC b.toNat)) := rfl
theorem fin1_le (n : Nat) (o : Option Nat) : (fin1 n o).1 ≤ 1114111 ∧ ((fin1 n o).2 = 0 ∨ (fin1 n o).2 = n) := by
  rcases o with _ | c
  · exact ⟨by simp [fin1], .inl rfl⟩
  · rw [fin1_some]
    by_cases h : leastN n ≤ c ∧ signOk c = true
    · rw [if_pos h]
      have := signOk_bd h.2
      exact ⟨by simp; omega, .inr rfl⟩
    · rw [if_neg h]
      exact ⟨by simp, .inl rfl⟩
theorem leadN_le (b : Nat) : leadN b ≤ 4 := by unfold leadN; split <;> (try split) <;> (try split) <;> (try split) <;> omega
theorem contV_len : ∀ (k : Nat) (l : List UInt8) (c d : Nat), contV k l c = some d → k ≤ l.length := fun k l c _ h => by
  rcases Nat.lt_or_ge l.length k with h' | h'
  · rw [contV_short k l c h'] at h; cases h
  · exact h'
theorem one_le (l : List UInt8) : (one l).1 ≤ 1114111 ∧ (one l).2 ≤ 4 ∧ (one l).2 ≤ l.length := by
  rcases l with _ | ⟨b, r⟩
  · simp [one]
  · rw [one_cons]
    by_cases h0 : leadN b.toNat = 0
    · rw [if_pos h0]; simp
    · rw [if_neg h0]
      have h1 := fin1_le (leadN b.toNat) (contV (leadN b.toNat - 1) r (leadC b.toNat))
      have h2 := leadN_le b.toNat
      refine ⟨h1.1, by omega, ?_⟩
      rcases h3 : contV (leadN b.toNat - 1) r (leadC b.toNat) with _ | d
      · simp [fin1]
      · have := contV_len _ _ _ _ h3
        rw [h3] at h1
        simp only [List.length_cons]
        omega
theorem oneB_le (s : ByteArray) : (oneB s).1 ≤ 1114111 ∧ (oneB s).2 ≤ 4 ∧ (oneB s).2 ≤ s.size := by
  have := one_le s.data.toList
  rwa [size_list] at this
theorem at_cons (s : ByteArray) (h : 0 < s.size) : s.data.toList = s[0] :: s.data.toList.drop 1 := by
  have h0 : 0 < s.data.toList.length := by rw [size_list]; exact h
  have := List.drop_eq_getElem_cons h0
  rw [List.drop_zero] at this
  exact this
/-- From the first byte on. -/
theorem oneB_lead (s : ByteArray) (h : 0 < s.size) (n c0 : Nat) (hn : leadN s[0].toNat = n) (hc : leadC s[0].toNat = c0) (h0 : n ≠ 0) : oneB s = fin1 n (contV (n - 1) (s.data.toList.drop 1) c0) := by
  subst hn hc
  rw [oneB, at_cons s h, one_cons, if_neg h0]
  rfl
theorem oneB_none (s : ByteArray) (h : 0 < s.size) (hn : leadN s[0].toNat = 0) : oneB s = (0, 0) := by
  rw [oneB, at_cons s h, one_cons, if_pos hn]
theorem contV_step (s : ByteArray) (k j d : Nat) (h : k < s.size) : contV (j + 1) (s.data.toList.drop k) d = if 128 ≤ s[k].toNat ∧ s[k].toNat < 192 then contV j (s.data.toList.drop (k + 1)) (d * 64 + s[k].toNat % 64) else none := by
  have hl : k < s.data.toList.length := by rw [size_list]; exact h
  rw [List.drop_eq_getElem_cons hl, contV]
  rfl
theorem fin1_yes (n c : Nat) (h1 : leastN n ≤ c) (h2 : signOk c = true) : fin1 n (some c) = (c, n) := by rw [fin1_some, if_pos ⟨h1, h2⟩]
theorem fin1_low (n c : Nat) (h1 : c < leastN n) : fin1 n (some c) = (0, 0) := by rw [fin1_some, if_neg (by omega)]
theorem fin1_bad (n c : Nat) (h2 : signOk c = false) : fin1 n (some c) = (0, 0) := by rw [fin1_some, if_neg (by simp [h2])]

theorem and8_192 (b : UInt8) : (bits .and .u8 (b.toNat : Int) 192 == 128) = decide (128 ≤ b.toNat ∧ b.toNat < 192) := by
  have h : ∀ n : Nat, n < 256 → (bits .and .u8 (n : Int) 192 == 128) = decide (128 ≤ n ∧ n < 192) := by decide +kernel
  exact h _ b.toNat_lt
theorem and8_63 (b : UInt8) : bits .and .u8 (b.toNat : Int) 63 = (b.toNat : Int) % 64 := by
  have h : ∀ n : Nat, n < 256 → bits .and .u8 (n : Int) 63 = (n : Int) % 64 := by decide +kernel
  exact h _ b.toNat_lt
theorem and_63 (q : Int) (h0 : 0 ≤ q) (h1 : q < 9223372036854775808) : bits .and .i64 q 63 = q % 64 := and_mask q 63 6 rfl (by omega) h0 h1
theorem and_31 (q : Int) (h0 : 0 ≤ q) (h1 : q < 9223372036854775808) : bits .and .i64 q 31 = q % 32 := and_mask q 31 5 rfl (by omega) h0 h1
theorem and_15 (q : Int) (h0 : 0 ≤ q) (h1 : q < 9223372036854775808) : bits .and .i64 q 15 = q % 16 := and_mask q 15 4 rfl (by omega) h0 h1
theorem and_7 (q : Int) (h0 : 0 ≤ q) (h1 : q < 9223372036854775808) : bits .and .i64 q 7 = q % 8 := and_mask q 7 3 rfl (by omega) h0 h1
theorem or_add64 (d r : Int) (h0 : 0 ≤ d) (h1 : d < 100000000) (h2 : 0 ≤ r) (h3 : r < 64) : bits .or .i64 (d * 64) r = d * 64 + r := by
  obtain ⟨d, rfl⟩ := Int.eq_ofNat_of_zero_le h0
  obtain ⟨r, rfl⟩ := Int.eq_ofNat_of_zero_le h2
  have h := i64_or_nat (2 ^ 6 * d) r (by omega) (by omega)
  rw [← Nat.two_pow_add_eq_or_of_lt (by omega)] at h
  have e : ((2 ^ 6 * d : Nat) : Int) = (d : Int) * 64 := by omega
  rw [e] at h
  rw [h]; omega

/-- A sign's bytes. -/
def enc1 (c : Int) : List UInt8 :=
  if c < 128 then [UInt8.ofNat c.toNat]
  else if c < 2048 then [UInt8.ofNat (192 + c.toNat / 64), UInt8.ofNat (128 + c.toNat % 64)]
  else if c < 65536 then [UInt8.ofNat (224 + c.toNat / 4096), UInt8.ofNat (128 + c.toNat / 64 % 64), UInt8.ofNat (128 + c.toNat % 64)]
  else [UInt8.ofNat (240 + c.toNat / 262144), UInt8.ofNat (128 + c.toNat / 4096 % 64), UInt8.ofNat (128 + c.toNat / 64 % 64), UInt8.ofNat (128 + c.toNat % 64)]
def encB (xs : List Int) : ByteArray := if xs.all signOk = true then str (xs.flatMap enc1) else str []
theorem cell_of {a : Int} {k : Nat} (h : a = k) (hk : k < 256) : Value.int .u8 ((UInt8.ofNat k).toNat) = .int .u8 a := by rw [toNat_ofNat k hk, h]
theorem enc1_1 {c : Int} (h0 : 0 ≤ c) (h : c < 128) : B8 (enc1 c) = [.int .u8 c] := by
  unfold enc1; rw [if_pos h]
  simp only [B8, List.map_cons, List.map_nil]
  rw [cell_of (a := c) (by omega) (by omega)]
theorem enc1_2 {c : Int} (h0 : 128 ≤ c) (h : c < 2048) : B8 (enc1 c) = [.int .u8 (192 + c / 64), .int .u8 (128 + c % 64)] := by
  unfold enc1; rw [if_neg (by omega), if_pos h]
  simp only [B8, List.map_cons, List.map_nil]
  rw [cell_of (a := 192 + c / 64) (by omega) (by omega), cell_of (a := 128 + c % 64) (by omega) (by omega)]
theorem enc1_3 {c : Int} (h0 : 2048 ≤ c) (h : c < 65536) : B8 (enc1 c) = [.int .u8 (224 + c / 4096), .int .u8 (128 + c / 64 % 64), .int .u8 (128 + c % 64)] := by
  unfold enc1; rw [if_neg (by omega), if_neg (by omega), if_pos h]
  simp only [B8, List.map_cons, List.map_nil]
  rw [cell_of (a := 224 + c / 4096) (by omega) (by omega), cell_of (a := 128 + c / 64 % 64) (by omega) (by omega), cell_of (a := 128 + c % 64) (by omega) (by omega)]
theorem enc1_4 {c : Int} (h0 : 65536 ≤ c) (_h : c ≤ 1114111) : B8 (enc1 c) = [.int .u8 (240 + c / 262144), .int .u8 (128 + c / 4096 % 64), .int .u8 (128 + c / 64 % 64), .int .u8 (128 + c % 64)] := by
  unfold enc1; rw [if_neg (by omega), if_neg (by omega), if_neg (by omega)]
  simp only [B8, List.map_cons, List.map_nil]
  rw [cell_of (a := 240 + c / 262144) (by omega) (by omega), cell_of (a := 128 + c / 4096 % 64) (by omega) (by omega), cell_of (a := 128 + c / 64 % 64) (by omega) (by omega), cell_of (a := 128 + c % 64) (by omega) (by omega)]
theorem enc1_len (c : Int) : (enc1 c).length = if c < 128 then 1 else if c < 2048 then 2 else if c < 65536 then 3 else 4 := by
  unfold enc1; split
  · rfl
  · split
    · rfl
    · split <;> rfl
theorem enc1_le (c : Int) : (enc1 c).length ≤ 4 := by rw [enc1_len]; split <;> (try split) <;> (try split) <;> omega
theorem encs_le : ∀ (xs : List Int), (xs.flatMap enc1).length ≤ 4 * xs.length
  | [] => by simp
  | c :: xs => by
    have := encs_le xs
    have := enc1_le c
    rw [List.flatMap_cons, List.length_append, List.length_cons]; omega
theorem encB_size (xs : List Int) : (encB xs).size ≤ 4 * xs.length := by
  unfold encB; split
  · rw [str_size]; exact encs_le xs
  · rw [str_size]; simp
theorem encB_one (c : Int) : (encB [c]).size = if signOk c = true then (enc1 c).length else 0 := by
  unfold encB
  by_cases h : signOk c = true <;> simp [h, str_size]
theorem all_take_succ {xs : List Int} {k : Nat} (hk : k < xs.length) (h : (xs.take k).all signOk = true) (h' : signOk xs[k] = true) : (xs.take (k + 1)).all signOk = true := by
  rw [List.take_succ_eq_append_getElem hk, List.all_append, h]; simpa using h'
theorem not_all {xs : List Int} {k : Nat} (hk : k < xs.length) (h' : signOk xs[k] = false) : xs.all signOk = false := by
  rw [List.all_eq_false]; exact ⟨_, List.getElem_mem hk, by simp [h']⟩
theorem encs_snoc {xs : List Int} {k : Nat} (hk : k < xs.length) : (xs.take (k + 1)).flatMap enc1 = (xs.take k).flatMap enc1 ++ enc1 xs[k] := by
  rw [List.take_succ_eq_append_getElem hk, List.flatMap_append]; simp

/-- All signs of a text. -/
def decL (l : List UInt8) : Option (List Nat) :=
  if l = [] then some [] else if _h : (one l).2 = 0 then none else (decL (l.drop (one l).2)).map ((one l).1 :: ·)
termination_by l.length
decreasing_by
  have := one_le l
  rw [List.length_drop]; omega
def decB (s : ByteArray) : Option (List Nat) := decL s.data.toList
/-- What goes before. -/
def preL (xs : List Nat) : Option (List Nat) → Option (List Nat)
  | none => none
  | some ys => some (xs ++ ys)
theorem preL_nil (o : Option (List Nat)) : preL [] o = o := by rcases o with _ | ys <;> rfl
theorem decL_end (xs : List Nat) : preL xs (decL []) = some xs := by rw [decL, if_pos rfl]; simp [preL]
theorem decL_none {l : List UInt8} (xs : List Nat) (h : l ≠ []) (h2 : (one l).2 = 0) : preL xs (decL l) = none := by rw [decL, if_neg h, dif_pos h2]; rfl
theorem decL_step {l : List UInt8} (xs : List Nat) (h : l ≠ []) (h2 : (one l).2 ≠ 0) : preL xs (decL l) = preL (xs ++ [(one l).1]) (decL (l.drop (one l).2)) := by
  rw [decL, if_neg h, dif_neg h2]
  rcases decL (l.drop (one l).2) with _ | ys <;> simp [preL]
theorem one_drop (s : ByteArray) (k : Nat) : oneB (dropB s k) = one (s.data.toList.drop k) := by rw [oneB, dropB_list]
theorem decL_bd : ∀ (n : Nat) (l : List UInt8), l.length ≤ n → ∀ xs, decL l = some xs → xs.length ≤ l.length ∧ ∀ x ∈ xs, x ≤ 1114111
  | 0, l, hl, xs, h => by
    have : l = [] := List.eq_nil_of_length_eq_zero (by omega)
    rw [this, decL, if_pos rfl] at h
    injection h with h; subst h; simp
  | n + 1, l, hl, xs, h => by
    by_cases hn : l = []
    · rw [hn, decL, if_pos rfl] at h
      injection h with h; subst h; simp
    · by_cases h2 : (one l).2 = 0
      · rw [decL, if_neg hn, dif_pos h2] at h; cases h
      · have hle := one_le l
        rw [decL, if_neg hn, dif_neg h2] at h
        rcases h3 : decL (l.drop (one l).2) with _ | ys
        · rw [h3] at h; cases h
        · rw [h3] at h
          simp only [Option.map_some, Option.some.injEq] at h
          subst h
          have ih := decL_bd n (l.drop (one l).2) (by rw [List.length_drop]; omega) ys h3
          rw [List.length_drop] at ih
          refine ⟨by simp; omega, ?_⟩
          intro x hx
          rcases List.mem_cons.1 hx with rfl | hx
          · exact hle.1
          · exact ih.2 x hx
theorem decB_bd {s : ByteArray} {xs : List Nat} (h : decB s = some xs) : xs.length ≤ s.size ∧ ∀ x ∈ xs, x ≤ 1114111 := by
  have := decL_bd _ _ (Nat.le_refl _) xs h
  rwa [size_list] at this

end Go.Proofs.YtlgjehdocppofaaDoor
