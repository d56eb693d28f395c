/- Slices of texts: parts of a text, marks. -/
import Derived.Test.YtbchbmcphbeikaaGreatDoorBase
namespace Go.Proofs.YtbchbmcphbeikaaGreatDoor
open Go Go.RowKit

theorem Tryz.el_str : ElemOk Tryz.prog 63 9 (.string ⟨#[]⟩) 1 16 := ⟨Tryz.underlying63, by kernel_rfl, rfl, by omega⟩

/-- Texts as cells. -/
def SS (l : List ByteArray) : List Value := l.map .string
theorem SS_append (a b : List ByteArray) : SS (a ++ b) = SS a ++ SS b := by simp [SS]
theorem SS_length (l : List ByteArray) : (SS l).length = l.length := by simp [SS]
theorem SS_get (l : List ByteArray) (k : Nat) (h : k < l.length) : (SS l)[k]? = some (.string l[k]) := by simp [SS, h]
theorem SS_cells (l : List ByteArray) : ∀ u ∈ SS l, u.oneCell' = true := by
  intro u hu
  simp only [SS, List.mem_map] at hu
  obtain ⟨b, _, rfl⟩ := hu
  rfl
theorem reads_str {w : World} {B n : Nat} {A : Option Addr} {xs : List ByteArray} (h : Reads w B 1 A n (SS xs)) {k : Nat} (hk : k < n) : ∃ (hk' : k < xs.length) (ad : Addr), A = some ad ∧ ad.block < B ∧ w.cell? (ad.add k) = some (.string xs[k]) := by
  obtain ⟨ad, u, h1, h2, h3, h4⟩ := h.at_ hk
  have hl : k < xs.length := by have := h.1; rw [SS_length] at this; omega
  rw [SS_get _ _ hl] at h3
  injection h3 with h3
  exact ⟨hl, ad, h1, h2, by rw [h4, h3]⟩
/-- A text's parts between bytes of one kind. -/
def splitL (by_ : UInt8) : List UInt8 → List (List UInt8)
  | [] => [[]]
  | b :: l => if b = by_ then [] :: splitL by_ l else
    match splitL by_ l with
    | [] => [[b]]
    | p :: ps => (b :: p) :: ps
/-- The first part with something ahead of it. -/
def glue (c : List UInt8) : List (List UInt8) → List (List UInt8)
  | [] => [c]
  | p :: ps => (c ++ p) :: ps
theorem splitL_ne (x : UInt8) : ∀ l, splitL x l ≠ []
  | [] => by simp [splitL]
  | b :: l => by
    rw [splitL]
    split
    · simp
    · cases h : splitL x l with
      | nil => simp
      | cons => simp
theorem glue_nil (x : UInt8) (l : List UInt8) : glue [] (splitL x l) = splitL x l := by
  cases h : splitL x l with
  | nil => exact absurd h (splitL_ne x l)
  | cons => simp [glue]
theorem glue_hit (x : UInt8) (c l : List UInt8) : glue c (splitL x (x :: l)) = c :: splitL x l := by rw [splitL, if_pos rfl, glue]; simp
theorem glue_miss {x b : UInt8} (c l : List UInt8) (h : b ≠ x) : glue c (splitL x (b :: l)) = glue (c ++ [b]) (splitL x l) := by
  rw [splitL, if_neg h]
  cases h : splitL x l with
  | nil => exact absurd h (splitL_ne x l)
  | cons => simp [glue]
theorem glue_end (x : UInt8) (c : List UInt8) : glue c (splitL x []) = [c] := by simp [splitL, glue]
theorem splitL_len (x : UInt8) : ∀ l, (splitL x l).length ≤ l.length + 1
  | [] => by simp [splitL]
  | b :: l => by
    have := splitL_len x l
    rw [splitL]
    split
    · simp; omega
    · cases h : splitL x l with
      | nil => simp
      | cons => rw [h] at this; simp at this ⊢; omega
def splitB (s : ByteArray) (x : UInt8) : List ByteArray := (splitL x s.data.toList).map str
theorem splitB_len (s : ByteArray) (x : UInt8) : (splitB s x).length ≤ s.size + 1 := by
  have := splitL_len x s.data.toList
  rw [size_list] at this
  simpa [splitB] using this
theorem sub_str (s : ByteArray) (i j : Nat) : s.extract i j = str ((s.data.toList.take j).drop i) := bytes_ext (by rw [sub_list, str_list])
theorem at_drop (s : ByteArray) (k : Nat) (h : k < s.size) : s.data.toList.drop k = s[k] :: s.data.toList.drop (k + 1) := by
  have h0 : k < s.data.toList.length := by rw [size_list]; exact h
  exact List.drop_eq_getElem_cons h0
theorem take_drop_snoc (s : ByteArray) (f k : Nat) (hf : f ≤ k) (h : k < s.size) : (s.data.toList.take (k + 1)).drop f = (s.data.toList.take k).drop f ++ [s[k]] := by
  rw [take_snoc s k h, List.drop_append_of_le_length (by rw [List.length_take, size_list]; omega)]
theorem take_drop_self (s : ByteArray) (k : Nat) : (s.data.toList.take k).drop k = [] := List.drop_eq_nil_of_le (by rw [List.length_take]; omega)

def digL (n : Nat) : List UInt8 := if _h : n = 0 then [] else digL (n / 10) ++ [UInt8.ofNat (48 + n % 10)]
termination_by n
decreasing_by omega
theorem digL_zero : digL 0 = [] := by rw [digL, dif_pos rfl]
theorem digL_pos {n : Nat} (h : n ≠ 0) : digL n = digL (n / 10) ++ [UInt8.ofNat (48 + n % 10)] := by rw [digL, dif_neg h]
theorem digL_le : ∀ (m n : Nat), n ≤ m → (digL n).length ≤ n
  | 0, n, h => by
    obtain rfl : n = 0 := by omega
    rw [digL_zero]; simp
  | m + 1, n, h => by
    by_cases h0 : n = 0
    · rw [h0, digL_zero]; simp
    · have := digL_le m (n / 10) (by omega)
      rw [digL_pos h0, List.length_append]; simp; omega
/-- The mark of a number. -/
def markB (k : Int) : ByteArray := if k ≤ 0 then str [109, 48] else str (109 :: digL k.toNat)
theorem conv_one {P : Program} {src dst e : TypeId} (hs : P.underlying src = some (.slice e)) (he : P.underlying e = some (.int .u8)) (hd : P.underlying dst = some .string) (b : UInt8) (W : World) (g : Nat) (hg : g = W.heap.size) :
    (convert src dst (.slice (some ⟨g, 0, none⟩) 1 1)).run P (W.alloc (.cells #[.int .u8 b.toNat] e)) = .ok (.string (str [b])) (W.alloc (.cells #[.int .u8 b.toNat] e)) := by
  subst hg
  exact run_convert_own hs he hd (l := [b]) (World.ownsRow_lit (e := e) (size := 1) W #[.int .u8 b.toNat] 1 (Nat.le_refl _) (by unfold maxLen; omega) rfl)

/-- So many marks from a number on. -/
def marks (k : Int) (n : Nat) : List ByteArray := (List.range n).map fun (j : Nat) => markB (k + j)
theorem marks_len (k : Int) (n : Nat) : (marks k n).length = n := by simp [marks]
theorem marks_get (k : Int) (n j : Nat) (h : j < n) : (marks k n)[j]'(by rw [marks_len]; exact h) = markB (k + j) := by simp [marks]
theorem marks_succ (k : Int) (n : Nat) : marks k (n + 1) = marks k n ++ [markB (k + n)] := by simp [marks, List.range_succ]
theorem marks_set (k : Int) (j : Nat) (xs : List ByteArray) (hj : j < xs.length) : (SS (marks k j) ++ (SS xs).drop j).set j (.string (markB (k + j))) = SS (marks k (j + 1)) ++ (SS xs).drop (j + 1) := by
  rw [List.set_append_right _ _ (by rw [SS_length, marks_len]; exact Nat.le_refl _), SS_length, marks_len, Nat.sub_self, marks_succ, SS_append, List.drop_eq_getElem_cons (by rw [SS_length]; exact hj), List.set_cons_zero, List.append_assoc]
  rfl

end Go.Proofs.YtbchbmcphbeikaaGreatDoor
