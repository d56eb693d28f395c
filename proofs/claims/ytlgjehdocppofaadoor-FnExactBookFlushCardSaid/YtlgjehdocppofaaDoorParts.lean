/- Plain facts: signs taken apart, folded, put in order. -/
import Derived.Test.YtlgjehdocppofaaDoorSign
namespace Go.Proofs.YtlgjehdocppofaaDoor
open Go Go.RowKit

/-- The signs of a row of the table. -/
def rowFrom (i : Nat) : List Int := match i with
  | 0 => [192, 200, 204, 210, 217, 224, 232, 236, 242, 249]
  | 1 => [193, 201, 205, 211, 218, 221, 225, 233, 237, 243, 250, 253]
  | 2 => [194, 202, 206, 212, 219, 226, 234, 238, 244, 251]
  | 3 => [195, 209, 213, 227, 241, 245]
  | 4 => [196, 203, 207, 214, 220, 228, 235, 239, 246, 252, 255]
  | 5 => [197, 229]
  | 6 => [199, 231]
  | 7 => [902, 904, 905, 906, 908, 910, 911]
  | 8 => [940, 941, 942, 943, 972, 973, 974]
  | 9 => [469, 470]
  | 10 => [7840, 7841]
  | 11 => [7852, 7853]
  | _ => [8486, 8491]
/-- Their letters. -/
def rowLets (i : Nat) : List Int := match i with
  | 0 => [65, 69, 73, 79, 85, 97, 101, 105, 111, 117]
  | 1 => [65, 69, 73, 79, 85, 89, 97, 101, 105, 111, 117, 121]
  | 2 => [65, 69, 73, 79, 85, 97, 101, 105, 111, 117]
  | 3 => [65, 78, 79, 97, 110, 111]
  | 4 => [65, 69, 73, 79, 85, 97, 101, 105, 111, 117, 121]
  | 5 => [65, 97]
  | 6 => [67, 99]
  | 7 => [913, 917, 919, 921, 927, 933, 937]
  | 8 => [945, 949, 951, 953, 959, 965, 969]
  | 9 => [220, 252]
  | 10 => [65, 97]
  | 11 => [7840, 7841]
  | _ => [937, 197]
/-- Their mark. -/
def rowMark (i : Nat) : Int := match i with
  | 0 => 768
  | 1 => 769
  | 2 => 770
  | 3 => 771
  | 4 => 776
  | 5 => 778
  | 6 => 807
  | 7 => 769
  | 8 => 769
  | 9 => 772
  | 10 => 803
  | 11 => 770
  | _ => 0
def rowParts (i k : Nat) : List Int := if rowMark i = 0 then [(rowLets i).getD k 0] else [(rowLets i).getD k 0, rowMark i]
def partsFrom (c : Int) : Nat → Nat → List Int
  | 0, _ => []
  | m + 1, i => match (rowFrom i).findIdx? (· == c) with
    | some k => rowParts i k
    | none => partsFrom c m (i + 1)
/-- The parts of a sign that is one of three or two at once. -/
def hang (c : Int) : List Int := [4352 + (c - 44032) / 588, 4449 + (c - 44032) % 588 / 28] ++ if 0 < (c - 44032) % 28 then [4519 + (c - 44032) % 28] else []
/-- The parts of a sign. -/
def partsL (c : Int) : List Int := if inI c 44032 55203 = true then hang c else partsFrom c 13 0
theorem parts_hang {c : Int} (h : inI c 44032 55203 = true) : partsL c = hang c := by unfold partsL; rw [if_pos h]
theorem parts_tab {c : Int} (h : inI c 44032 55203 = false) : partsL c = partsFrom c 13 0 := by unfold partsL; rw [if_neg (by rw [h]; simp)]
theorem parts_hit0 : ∀ i, i < 13 → ∀ k, k < (rowFrom i).length → partsL ((rowFrom i).getD k 0) = rowParts i k ∧ inI ((rowFrom i).getD k 0) 192 8491 = true := by decide +kernel
theorem parts_hit {c : Int} {i k : Nat} (hi : i < 13) (hk : k < (rowFrom i).length) (h : (rowFrom i)[k] = c) : partsL c = rowParts i k ∧ inI c 192 8491 = true := by
  have := parts_hit0 i hi k hk
  rwa [List.getD_eq_getElem?_getD, List.getElem?_eq_getElem hk, Option.getD_some, h] at this
theorem partsFrom_miss (c : Int) : ∀ (m i : Nat), (∀ j, i ≤ j → j < i + m → c ∉ rowFrom j) → partsFrom c m i = []
  | 0, _, _ => rfl
  | m + 1, i, h => by
    have h0 : (rowFrom i).findIdx? (· == c) = none := by
      rw [List.findIdx?_eq_none_iff]
      intro x hx
      rw [beq_eq_false_iff_ne]
      rintro rfl
      exact h i (Nat.le_refl _) (by omega) hx
    rw [partsFrom, h0]
    exact partsFrom_miss c m (i + 1) (fun j h1 h2 => h j (by omega) (by omega))
theorem parts_miss {c : Int} (hc : inI c 44032 55203 = false) (h : ∀ j, j < 13 → c ∉ rowFrom j) : partsL c = [] := by
  rw [parts_tab hc]
  exact partsFrom_miss c 13 0 (fun j _ h2 => h j (by omega))
theorem keys_in : ∀ j, j < 13 → ∀ x ∈ rowFrom j, inI x 192 8491 = true ∧ (x < 1000 ∨ 7000 < x) := by decide +kernel
theorem parts_out {c : Int} (hc : inI c 44032 55203 = false) (h : inI c 192 8491 = false) : partsL c = [] :=
  parts_miss hc fun j hj hm => by have := (keys_in j hj c hm).1; rw [h] at this; cases this
theorem parts_mid {c : Int} (h0 : 1000 ≤ c) (h1 : c ≤ 7000) : partsL c = [] :=
  parts_miss (inI_false.2 (by omega)) fun j hj hm => by have := (keys_in j hj c hm).2; omega
/-- In so many steps there are no more parts. -/
def flatn : Nat → Int → Prop
  | 0, c => partsL c = []
  | n + 1, c => ∀ p ∈ partsL c, flatn n p
theorem flat_hang {c : Int} (h : inI c 44032 55203 = true) : ∀ p ∈ partsL c, partsL p = [] := by
  obtain ⟨h0, h1⟩ := inI_true.1 h
  intro p hp
  rw [parts_hang h] at hp
  unfold hang at hp
  apply parts_mid
  · split at hp <;> simp at hp <;> omega
  · split at hp <;> simp at hp <;> omega
theorem flat_rows : ∀ i, i < 13 → ∀ k, k < (rowFrom i).length → ∀ p ∈ rowParts i k, ∀ q ∈ partsL p, partsL q = [] := by decide +kernel
theorem mem_at {c : Int} {l : List Int} (h : c ∈ l) : ∃ k, ∃ hk : k < l.length, l[k] = c := List.getElem_of_mem h
theorem parts_cases (c : Int) : inI c 44032 55203 = true ∨ partsL c = [] ∨ ∃ i k, i < 13 ∧ k < (rowFrom i).length ∧ partsL c = rowParts i k := by
  rcases hc : inI c 44032 55203 with _ | _
  · by_cases h : ∀ j, j < 13 → c ∉ rowFrom j
    · exact .inr (.inl (parts_miss hc h))
    · simp only [Classical.not_forall, Classical.not_not] at h
      obtain ⟨i, hi, hm⟩ := h
      obtain ⟨k, hk, he⟩ := mem_at hm
      exact .inr (.inr ⟨i, k, hi, hk, (parts_hit hi hk he).1⟩)
  · exact .inl rfl
theorem flat_all (c : Int) : flatn 2 c := by
  intro p hp q hq
  rcases parts_cases c with h | h | ⟨i, k, hi, hk, h⟩
  · rw [flat_hang h p hp] at hq; cases hq
  · rw [h] at hp; cases hp
  · rw [h] at hp; exact flat_rows i hi k hk p hp q hq
theorem rowParts_len (i k : Nat) : (rowParts i k).length ≤ 2 := by unfold rowParts; split <;> simp
theorem parts_len (c : Int) : (partsL c).length ≤ 3 := by
  rcases parts_cases c with h | h | ⟨i, k, _, _, h⟩
  · rw [parts_hang h]; unfold hang; split <;> simp
  · rw [h]; simp
  · rw [h]; have := rowParts_len i k; omega

/-- A sign in its parts, and these in theirs, of so many steps. -/
def tak : Nat → Int → List Int
  | 0, c => [c]
  | n + 1, c => if partsL c = [] then [c] else (partsL c).flatMap (tak n)
theorem tak_nil {c : Int} (h : partsL c = []) : ∀ n, tak n c = [c]
  | 0 => rfl
  | n + 1 => by rw [tak, if_pos h]
theorem tak_ne {c : Int} (n : Nat) (h : partsL c ≠ []) : tak (n + 1) c = (partsL c).flatMap (tak n) := by rw [tak, if_neg h]
theorem flatMap_len {f : Int → List Int} {b : Nat} : ∀ (l : List Int), (∀ x ∈ l, (f x).length ≤ b) → (l.flatMap f).length ≤ l.length * b
  | [], _ => by simp
  | x :: l, h => by
    have h1 := flatMap_len l (fun y hy => h y (by simp [hy]))
    have h2 := h x (by simp)
    rw [List.flatMap_cons, List.length_append, List.length_cons, Nat.succ_mul]; omega
theorem tak_len : ∀ (n : Nat) (c : Int), (tak n c).length ≤ 3 ^ n
  | 0, c => by simp [tak]
  | n + 1, c => by
    rw [tak]
    split
    · have := Nat.pow_pos (n := n + 1) (show 0 < 3 by omega); simp only [List.length_singleton]; omega
    · have h1 := flatMap_len (b := 3 ^ n) (partsL c) (fun x _ => tak_len n x)
      have h2 := parts_len c
      have h3 : (partsL c).length * 3 ^ n ≤ 3 * 3 ^ n := Nat.mul_le_mul_right _ h2
      rw [Nat.pow_succ]; omega
def takL (c : Int) : List Int := tak 2 c
theorem takL_len (c : Int) : (takL c).length ≤ 9 := tak_len 2 c
theorem takL_pos (c : Int) : 0 ≤ (takL c).length := by omega

/-- The class of a sign. -/
def cls (c : Int) : Int := cond (inI c 768 772 || (c == 776 || c == 778)) 230 (cond (c == 803) 220 (cond (c == 807) 202 0))
theorem cls_bd (c : Int) : 0 ≤ cls c ∧ cls c ≤ 230 := by
  unfold cls
  cases (inI c 768 772 || (c == 776 || c == 778)) <;> cases (c == 803) <;> cases (c == 807) <;> simp
/-- A sign behind others, the last one first. -/
def insR (x : Int) : List Int → List Int
  | [] => [x]
  | y :: ys => if 0 < cls x ∧ cls x < cls y then y :: insR x ys else x :: y :: ys
def bub (l : List Int) (x : Int) : List Int := (insR x l.reverse).reverse
theorem insR_len (x : Int) : ∀ l, (insR x l).length = l.length + 1
  | [] => rfl
  | y :: ys => by
    rw [insR]; split
    · rw [List.length_cons, insR_len x ys, List.length_cons]
    · simp
theorem bub_len (l : List Int) (x : Int) : (bub l x).length = l.length + 1 := by unfold bub; rw [List.length_reverse, insR_len, List.length_reverse]
theorem bubs_len : ∀ (xs l : List Int), (xs.foldl bub l).length = l.length + xs.length
  | [], l => by simp
  | x :: xs, l => by rw [List.foldl_cons, bubs_len xs, bub_len, List.length_cons]; omega
/-- One step of a sign to the front. -/
theorem ins_step {x y : Int} {A B T : List Int} (h : T = (insR x (A ++ [y]).reverse).reverse ++ B) (hc : 0 < cls x ∧ cls x < cls y) : T = (insR x A.reverse).reverse ++ (y :: B) := by
  rw [h, List.reverse_append, List.reverse_singleton, List.singleton_append, insR, if_pos hc, List.reverse_cons, List.append_assoc]; rfl
theorem ins_stop {x y : Int} {A B T : List Int} (h : T = (insR x (A ++ [y]).reverse).reverse ++ B) (hc : ¬ (0 < cls x ∧ cls x < cls y)) : T = A ++ [y] ++ [x] ++ B := by
  rw [h, List.reverse_append, List.reverse_singleton, List.singleton_append, insR, if_neg hc, List.reverse_cons, List.reverse_cons, List.reverse_reverse]
theorem ins_end {x : Int} {B T : List Int} (h : T = (insR x ([] : List Int).reverse).reverse ++ B) : T = [x] ++ B := by rw [h]; rfl
/-- Signs taken apart, marks in order. -/
def apartL (l : List Int) : List Int := (l.flatMap takL).foldl bub []
theorem apartL_len (l : List Int) : (apartL l).length ≤ l.length * 9 := by
  unfold apartL
  rw [bubs_len]
  have := flatMap_len (b := 9) l (fun x _ => takL_len x)
  rw [List.length_nil]; omega
/-- What a sign folds to. -/
def foldA (c : Int) : Bool := inI c 65 90 || (inI c 913 929 || (inI c 931 937 || inI c 1040 1071))
def foldB (c : Int) : Bool := [198, 208, 216, 222].any (· == c)
def foldOfL (c : Int) : List Int := cond (foldA c) [c + 32] (cond (foldB c) [c + 32] (cond (c == 223) [115, 115] (cond (c == 962) [963] [c])))
theorem foldOfL_len (c : Int) : (foldOfL c).length ≤ 2 := by
  unfold foldOfL
  cases foldA c <;> cases foldB c <;> cases (c == 223) <;> cases (c == 962) <;> simp
def foldL (l : List Int) : List Int := l.flatMap foldOfL
theorem foldL_len (l : List Int) : (foldL l).length ≤ l.length * 2 := flatMap_len l (fun x _ => foldOfL_len x)

/-- What all spellings of a name have. -/
def keyL (l : List Int) : ByteArray := encB (apartL (foldL (apartL l)))
theorem keyL_size (l : List Int) : (keyL l).size ≤ l.length * 648 := by
  have h1 := encB_size (apartL (foldL (apartL l)))
  have h2 := apartL_len (foldL (apartL l))
  have h3 := foldL_len (apartL l)
  have h4 := apartL_len l
  unfold keyL; omega

end Go.Proofs.YtlgjehdocppofaaDoor
