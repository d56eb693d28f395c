/- Known signs and right names, in both packages. -/
import Derived.Test.YtlgjehdocppofaaDoorSign2
namespace Go.Proofs.YtlgjehdocppofaaDoor
open Go Go.RowKit

/-- The program's table: from where to where signs are known. -/
def knownTab : List Int := [32, 46, 48, 126, 161, 255, 469, 470, 768, 772, 776, 776, 778, 778, 803, 803, 807, 807, 902, 902, 904, 906, 908, 908, 910, 911, 913, 929, 931, 937, 940, 943, 945, 969, 972, 974, 1040, 1103, 4352, 4370, 4449, 4469, 4520, 4546, 7840, 7841, 7852, 7853, 8486, 8486, 8491, 8491, 44032, 55203]
def fromTab : List Int := [32, 161, 768, 776, 778, 803, 807, 902, 904, 908, 910, 913, 931, 940, 945, 972, 1040, 469, 7840, 7852, 8486, 8491, 4352, 4449, 4520, 44032]
def toTab : List Int := [126, 255, 772, 776, 778, 803, 807, 902, 906, 908, 911, 929, 937, 943, 969, 974, 1103, 470, 7841, 7853, 8486, 8491, 4370, 4469, 4546, 55203]
def tabAt (i : Nat) : Int := knownTab.getD i 0
def fromAt (i : Nat) : Int := fromTab.getD i 0
def toAt (i : Nat) : Int := toTab.getD i 0
/-- A sign is known. -/
def kn (c : Int) : Bool := (List.range 27).any fun j => inI c (tabAt (2 * j)) (tabAt (2 * j + 1))
def kn2 (c : Int) : Bool := (List.range 26).any fun j => inI c (fromAt j) (toAt j)
theorem II_getD (l : List Int) (j : Nat) (h : j < l.length) : (II l).toArray[j]? = some (.int .i64 (l.getD j 0)) := by
  rw [List.getElem?_toArray, II_get _ _ h]; simp [List.getD, h]
theorem any_no {n : Nat} {f : Nat → Bool} (h : ∀ j, j < n → f j = false) : (List.range n).any f = false := by
  rw [List.any_eq_false]; intro j hj; rw [h j (List.mem_range.1 hj)]; simp
theorem any_yes {n j : Nat} {f : Nat → Bool} (hj : j < n) (h : f j = true) : (List.range n).any f = true :=
  List.any_eq_true.2 ⟨j, List.mem_range.2 hj, h⟩
theorem kn_mk (c : Int) (j : Nat) (hj : j < 27) (h : tabAt (2 * j) ≤ c ∧ c ≤ tabAt (2 * j + 1)) : kn c = true := any_yes hj (inI_true.2 h)
theorem kn2_mk (c : Int) (j : Nat) (hj : j < 26) (h : fromAt j ≤ c ∧ c ≤ toAt j) : kn2 c = true := any_yes hj (inI_true.2 h)
theorem kn_iff (c : Int) : kn c = true ↔ (32 ≤ c ∧ c ≤ 46) ∨ (48 ≤ c ∧ c ≤ 126) ∨ (161 ≤ c ∧ c ≤ 255) ∨ (469 ≤ c ∧ c ≤ 470) ∨ (768 ≤ c ∧ c ≤ 772) ∨ (776 ≤ c ∧ c ≤ 776) ∨ (778 ≤ c ∧ c ≤ 778) ∨ (803 ≤ c ∧ c ≤ 803) ∨ (807 ≤ c ∧ c ≤ 807) ∨ (902 ≤ c ∧ c ≤ 902) ∨ (904 ≤ c ∧ c ≤ 906) ∨ (908 ≤ c ∧ c ≤ 908) ∨ (910 ≤ c ∧ c ≤ 911) ∨ (913 ≤ c ∧ c ≤ 929) ∨ (931 ≤ c ∧ c ≤ 937) ∨ (940 ≤ c ∧ c ≤ 943) ∨ (945 ≤ c ∧ c ≤ 969) ∨ (972 ≤ c ∧ c ≤ 974) ∨ (1040 ≤ c ∧ c ≤ 1103) ∨ (4352 ≤ c ∧ c ≤ 4370) ∨ (4449 ≤ c ∧ c ≤ 4469) ∨ (4520 ≤ c ∧ c ≤ 4546) ∨ (7840 ≤ c ∧ c ≤ 7841) ∨ (7852 ≤ c ∧ c ≤ 7853) ∨ (8486 ≤ c ∧ c ≤ 8486) ∨ (8491 ≤ c ∧ c ≤ 8491) ∨ (44032 ≤ c ∧ c ≤ 55203) := by
  unfold kn
  rw [List.any_eq_true]
  constructor
  · rintro ⟨j, hj, h⟩
    have h' := inI_true.1 h
    have hj' := List.mem_range.1 hj
    clear h hj
    match j, hj' with
    | 0, _ => exact (Or.inl h')
    | 1, _ => exact (Or.inr (Or.inl h'))
    | 2, _ => exact (Or.inr (Or.inr (Or.inl h')))
    | 3, _ => exact (Or.inr (Or.inr (Or.inr (Or.inl h'))))
    | 4, _ => exact (Or.inr (Or.inr (Or.inr (Or.inr (Or.inl h')))))
    | 5, _ => exact (Or.inr (Or.inr (Or.inr (Or.inr (Or.inr (Or.inl h'))))))
    | 6, _ => exact (Or.inr (Or.inr (Or.inr (Or.inr (Or.inr (Or.inr (Or.inl h')))))))
    | 7, _ => exact (Or.inr (Or.inr (Or.inr (Or.inr (Or.inr (Or.inr (Or.inr (Or.inl h'))))))))
    | 8, _ => exact (Or.inr (Or.inr (Or.inr (Or.inr (Or.inr (Or.inr (Or.inr (Or.inr (Or.inl h')))))))))
    | 9, _ => exact (Or.inr (Or.inr (Or.inr (Or.inr (Or.inr (Or.inr (Or.inr (Or.inr (Or.inr (Or.inl h'))))))))))
    | 10, _ => exact (Or.inr (Or.inr (Or.inr (Or.inr (Or.inr (Or.inr (Or.inr (Or.inr (Or.inr (Or.inr (Or.inl h')))))))))))
    | 11, _ => exact (Or.inr (Or.inr (Or.inr (Or.inr (Or.inr (Or.inr (Or.inr (Or.inr (Or.inr (Or.inr (Or.inr (Or.inl h'))))))))))))
    | 12, _ => exact (Or.inr (Or.inr (Or.inr (Or.inr (Or.inr (Or.inr (Or.inr (Or.inr (Or.inr (Or.inr (Or.inr (Or.inr (Or.inl h')))))))))))))
    | 13, _ => exact (Or.inr (Or.inr (Or.inr (Or.inr (Or.inr (Or.inr (Or.inr (Or.inr (Or.inr (Or.inr (Or.inr (Or.inr (Or.inr (Or.inl h'))))))))))))))
    | 14, _ => exact (Or.inr (Or.inr (Or.inr (Or.inr (Or.inr (Or.inr (Or.inr (Or.inr (Or.inr (Or.inr (Or.inr (Or.inr (Or.inr (Or.inr (Or.inl h')))))))))))))))
    | 15, _ => exact (Or.inr (Or.inr (Or.inr (Or.inr (Or.inr (Or.inr (Or.inr (Or.inr (Or.inr (Or.inr (Or.inr (Or.inr (Or.inr (Or.inr (Or.inr (Or.inl h'))))))))))))))))
    | 16, _ => exact (Or.inr (Or.inr (Or.inr (Or.inr (Or.inr (Or.inr (Or.inr (Or.inr (Or.inr (Or.inr (Or.inr (Or.inr (Or.inr (Or.inr (Or.inr (Or.inr (Or.inl h')))))))))))))))))
    | 17, _ => exact (Or.inr (Or.inr (Or.inr (Or.inr (Or.inr (Or.inr (Or.inr (Or.inr (Or.inr (Or.inr (Or.inr (Or.inr (Or.inr (Or.inr (Or.inr (Or.inr (Or.inr (Or.inl h'))))))))))))))))))
    | 18, _ => exact (Or.inr (Or.inr (Or.inr (Or.inr (Or.inr (Or.inr (Or.inr (Or.inr (Or.inr (Or.inr (Or.inr (Or.inr (Or.inr (Or.inr (Or.inr (Or.inr (Or.inr (Or.inr (Or.inl h')))))))))))))))))))
    | 19, _ => exact (Or.inr (Or.inr (Or.inr (Or.inr (Or.inr (Or.inr (Or.inr (Or.inr (Or.inr (Or.inr (Or.inr (Or.inr (Or.inr (Or.inr (Or.inr (Or.inr (Or.inr (Or.inr (Or.inr (Or.inl h'))))))))))))))))))))
    | 20, _ => exact (Or.inr (Or.inr (Or.inr (Or.inr (Or.inr (Or.inr (Or.inr (Or.inr (Or.inr (Or.inr (Or.inr (Or.inr (Or.inr (Or.inr (Or.inr (Or.inr (Or.inr (Or.inr (Or.inr (Or.inr (Or.inl h')))))))))))))))))))))
    | 21, _ => exact (Or.inr (Or.inr (Or.inr (Or.inr (Or.inr (Or.inr (Or.inr (Or.inr (Or.inr (Or.inr (Or.inr (Or.inr (Or.inr (Or.inr (Or.inr (Or.inr (Or.inr (Or.inr (Or.inr (Or.inr (Or.inr (Or.inl h'))))))))))))))))))))))
    | 22, _ => exact (Or.inr (Or.inr (Or.inr (Or.inr (Or.inr (Or.inr (Or.inr (Or.inr (Or.inr (Or.inr (Or.inr (Or.inr (Or.inr (Or.inr (Or.inr (Or.inr (Or.inr (Or.inr (Or.inr (Or.inr (Or.inr (Or.inr (Or.inl h')))))))))))))))))))))))
    | 23, _ => exact (Or.inr (Or.inr (Or.inr (Or.inr (Or.inr (Or.inr (Or.inr (Or.inr (Or.inr (Or.inr (Or.inr (Or.inr (Or.inr (Or.inr (Or.inr (Or.inr (Or.inr (Or.inr (Or.inr (Or.inr (Or.inr (Or.inr (Or.inr (Or.inl h'))))))))))))))))))))))))
    | 24, _ => exact (Or.inr (Or.inr (Or.inr (Or.inr (Or.inr (Or.inr (Or.inr (Or.inr (Or.inr (Or.inr (Or.inr (Or.inr (Or.inr (Or.inr (Or.inr (Or.inr (Or.inr (Or.inr (Or.inr (Or.inr (Or.inr (Or.inr (Or.inr (Or.inr (Or.inl h')))))))))))))))))))))))))
    | 25, _ => exact (Or.inr (Or.inr (Or.inr (Or.inr (Or.inr (Or.inr (Or.inr (Or.inr (Or.inr (Or.inr (Or.inr (Or.inr (Or.inr (Or.inr (Or.inr (Or.inr (Or.inr (Or.inr (Or.inr (Or.inr (Or.inr (Or.inr (Or.inr (Or.inr (Or.inr (Or.inl h'))))))))))))))))))))))))))
    | 26, _ => exact (Or.inr (Or.inr (Or.inr (Or.inr (Or.inr (Or.inr (Or.inr (Or.inr (Or.inr (Or.inr (Or.inr (Or.inr (Or.inr (Or.inr (Or.inr (Or.inr (Or.inr (Or.inr (Or.inr (Or.inr (Or.inr (Or.inr (Or.inr (Or.inr (Or.inr (Or.inr h'))))))))))))))))))))))))))
    | n + 27, hn => exact absurd hn (by omega)
  · rintro (h | h | h | h | h | h | h | h | h | h | h | h | h | h | h | h | h | h | h | h | h | h | h | h | h | h | h)
    · exact ⟨0, List.mem_range.2 (by omega), inI_true.2 h⟩
    · exact ⟨1, List.mem_range.2 (by omega), inI_true.2 h⟩
    · exact ⟨2, List.mem_range.2 (by omega), inI_true.2 h⟩
    · exact ⟨3, List.mem_range.2 (by omega), inI_true.2 h⟩
    · exact ⟨4, List.mem_range.2 (by omega), inI_true.2 h⟩
    · exact ⟨5, List.mem_range.2 (by omega), inI_true.2 h⟩
    · exact ⟨6, List.mem_range.2 (by omega), inI_true.2 h⟩
    · exact ⟨7, List.mem_range.2 (by omega), inI_true.2 h⟩
    · exact ⟨8, List.mem_range.2 (by omega), inI_true.2 h⟩
    · exact ⟨9, List.mem_range.2 (by omega), inI_true.2 h⟩
    · exact ⟨10, List.mem_range.2 (by omega), inI_true.2 h⟩
    · exact ⟨11, List.mem_range.2 (by omega), inI_true.2 h⟩
    · exact ⟨12, List.mem_range.2 (by omega), inI_true.2 h⟩
    · exact ⟨13, List.mem_range.2 (by omega), inI_true.2 h⟩
    · exact ⟨14, List.mem_range.2 (by omega), inI_true.2 h⟩
    · exact ⟨15, List.mem_range.2 (by omega), inI_true.2 h⟩
    · exact ⟨16, List.mem_range.2 (by omega), inI_true.2 h⟩
    · exact ⟨17, List.mem_range.2 (by omega), inI_true.2 h⟩
    · exact ⟨18, List.mem_range.2 (by omega), inI_true.2 h⟩
    · exact ⟨19, List.mem_range.2 (by omega), inI_true.2 h⟩
    · exact ⟨20, List.mem_range.2 (by omega), inI_true.2 h⟩
    · exact ⟨21, List.mem_range.2 (by omega), inI_true.2 h⟩
    · exact ⟨22, List.mem_range.2 (by omega), inI_true.2 h⟩
    · exact ⟨23, List.mem_range.2 (by omega), inI_true.2 h⟩
    · exact ⟨24, List.mem_range.2 (by omega), inI_true.2 h⟩
    · exact ⟨25, List.mem_range.2 (by omega), inI_true.2 h⟩
    · exact ⟨26, List.mem_range.2 (by omega), inI_true.2 h⟩
theorem kn2_iff (c : Int) : kn2 c = true ↔ (32 ≤ c ∧ c ≤ 126) ∨ (161 ≤ c ∧ c ≤ 255) ∨ (768 ≤ c ∧ c ≤ 772) ∨ (776 ≤ c ∧ c ≤ 776) ∨ (778 ≤ c ∧ c ≤ 778) ∨ (803 ≤ c ∧ c ≤ 803) ∨ (807 ≤ c ∧ c ≤ 807) ∨ (902 ≤ c ∧ c ≤ 902) ∨ (904 ≤ c ∧ c ≤ 906) ∨ (908 ≤ c ∧ c ≤ 908) ∨ (910 ≤ c ∧ c ≤ 911) ∨ (913 ≤ c ∧ c ≤ 929) ∨ (931 ≤ c ∧ c ≤ 937) ∨ (940 ≤ c ∧ c ≤ 943) ∨ (945 ≤ c ∧ c ≤ 969) ∨ (972 ≤ c ∧ c ≤ 974) ∨ (1040 ≤ c ∧ c ≤ 1103) ∨ (469 ≤ c ∧ c ≤ 470) ∨ (7840 ≤ c ∧ c ≤ 7841) ∨ (7852 ≤ c ∧ c ≤ 7853) ∨ (8486 ≤ c ∧ c ≤ 8486) ∨ (8491 ≤ c ∧ c ≤ 8491) ∨ (4352 ≤ c ∧ c ≤ 4370) ∨ (4449 ≤ c ∧ c ≤ 4469) ∨ (4520 ≤ c ∧ c ≤ 4546) ∨ (44032 ≤ c ∧ c ≤ 55203) := by
  unfold kn2
  rw [List.any_eq_true]
  constructor
  · rintro ⟨j, hj, h⟩
    have h' := inI_true.1 h
    have hj' := List.mem_range.1 hj
    clear h hj
    match j, hj' with
    | 0, _ => exact (Or.inl h')
    | 1, _ => exact (Or.inr (Or.inl h'))
    | 2, _ => exact (Or.inr (Or.inr (Or.inl h')))
    | 3, _ => exact (Or.inr (Or.inr (Or.inr (Or.inl h'))))
    | 4, _ => exact (Or.inr (Or.inr (Or.inr (Or.inr (Or.inl h')))))
    | 5, _ => exact (Or.inr (Or.inr (Or.inr (Or.inr (Or.inr (Or.inl h'))))))
    | 6, _ => exact (Or.inr (Or.inr (Or.inr (Or.inr (Or.inr (Or.inr (Or.inl h')))))))
    | 7, _ => exact (Or.inr (Or.inr (Or.inr (Or.inr (Or.inr (Or.inr (Or.inr (Or.inl h'))))))))
    | 8, _ => exact (Or.inr (Or.inr (Or.inr (Or.inr (Or.inr (Or.inr (Or.inr (Or.inr (Or.inl h')))))))))
    | 9, _ => exact (Or.inr (Or.inr (Or.inr (Or.inr (Or.inr (Or.inr (Or.inr (Or.inr (Or.inr (Or.inl h'))))))))))
    | 10, _ => exact (Or.inr (Or.inr (Or.inr (Or.inr (Or.inr (Or.inr (Or.inr (Or.inr (Or.inr (Or.inr (Or.inl h')))))))))))
    | 11, _ => exact (Or.inr (Or.inr (Or.inr (Or.inr (Or.inr (Or.inr (Or.inr (Or.inr (Or.inr (Or.inr (Or.inr (Or.inl h'))))))))))))
    | 12, _ => exact (Or.inr (Or.inr (Or.inr (Or.inr (Or.inr (Or.inr (Or.inr (Or.inr (Or.inr (Or.inr (Or.inr (Or.inr (Or.inl h')))))))))))))
    | 13, _ => exact (Or.inr (Or.inr (Or.inr (Or.inr (Or.inr (Or.inr (Or.inr (Or.inr (Or.inr (Or.inr (Or.inr (Or.inr (Or.inr (Or.inl h'))))))))))))))
    | 14, _ => exact (Or.inr (Or.inr (Or.inr (Or.inr (Or.inr (Or.inr (Or.inr (Or.inr (Or.inr (Or.inr (Or.inr (Or.inr (Or.inr (Or.inr (Or.inl h')))))))))))))))
    | 15, _ => exact (Or.inr (Or.inr (Or.inr (Or.inr (Or.inr (Or.inr (Or.inr (Or.inr (Or.inr (Or.inr (Or.inr (Or.inr (Or.inr (Or.inr (Or.inr (Or.inl h'))))))))))))))))
    | 16, _ => exact (Or.inr (Or.inr (Or.inr (Or.inr (Or.inr (Or.inr (Or.inr (Or.inr (Or.inr (Or.inr (Or.inr (Or.inr (Or.inr (Or.inr (Or.inr (Or.inr (Or.inl h')))))))))))))))))
    | 17, _ => exact (Or.inr (Or.inr (Or.inr (Or.inr (Or.inr (Or.inr (Or.inr (Or.inr (Or.inr (Or.inr (Or.inr (Or.inr (Or.inr (Or.inr (Or.inr (Or.inr (Or.inr (Or.inl h'))))))))))))))))))
    | 18, _ => exact (Or.inr (Or.inr (Or.inr (Or.inr (Or.inr (Or.inr (Or.inr (Or.inr (Or.inr (Or.inr (Or.inr (Or.inr (Or.inr (Or.inr (Or.inr (Or.inr (Or.inr (Or.inr (Or.inl h')))))))))))))))))))
    | 19, _ => exact (Or.inr (Or.inr (Or.inr (Or.inr (Or.inr (Or.inr (Or.inr (Or.inr (Or.inr (Or.inr (Or.inr (Or.inr (Or.inr (Or.inr (Or.inr (Or.inr (Or.inr (Or.inr (Or.inr (Or.inl h'))))))))))))))))))))
    | 20, _ => exact (Or.inr (Or.inr (Or.inr (Or.inr (Or.inr (Or.inr (Or.inr (Or.inr (Or.inr (Or.inr (Or.inr (Or.inr (Or.inr (Or.inr (Or.inr (Or.inr (Or.inr (Or.inr (Or.inr (Or.inr (Or.inl h')))))))))))))))))))))
    | 21, _ => exact (Or.inr (Or.inr (Or.inr (Or.inr (Or.inr (Or.inr (Or.inr (Or.inr (Or.inr (Or.inr (Or.inr (Or.inr (Or.inr (Or.inr (Or.inr (Or.inr (Or.inr (Or.inr (Or.inr (Or.inr (Or.inr (Or.inl h'))))))))))))))))))))))
    | 22, _ => exact (Or.inr (Or.inr (Or.inr (Or.inr (Or.inr (Or.inr (Or.inr (Or.inr (Or.inr (Or.inr (Or.inr (Or.inr (Or.inr (Or.inr (Or.inr (Or.inr (Or.inr (Or.inr (Or.inr (Or.inr (Or.inr (Or.inr (Or.inl h')))))))))))))))))))))))
    | 23, _ => exact (Or.inr (Or.inr (Or.inr (Or.inr (Or.inr (Or.inr (Or.inr (Or.inr (Or.inr (Or.inr (Or.inr (Or.inr (Or.inr (Or.inr (Or.inr (Or.inr (Or.inr (Or.inr (Or.inr (Or.inr (Or.inr (Or.inr (Or.inr (Or.inl h'))))))))))))))))))))))))
    | 24, _ => exact (Or.inr (Or.inr (Or.inr (Or.inr (Or.inr (Or.inr (Or.inr (Or.inr (Or.inr (Or.inr (Or.inr (Or.inr (Or.inr (Or.inr (Or.inr (Or.inr (Or.inr (Or.inr (Or.inr (Or.inr (Or.inr (Or.inr (Or.inr (Or.inr (Or.inl h')))))))))))))))))))))))))
    | 25, _ => exact (Or.inr (Or.inr (Or.inr (Or.inr (Or.inr (Or.inr (Or.inr (Or.inr (Or.inr (Or.inr (Or.inr (Or.inr (Or.inr (Or.inr (Or.inr (Or.inr (Or.inr (Or.inr (Or.inr (Or.inr (Or.inr (Or.inr (Or.inr (Or.inr (Or.inr h')))))))))))))))))))))))))
    | n + 26, hn => exact absurd hn (by omega)
  · rintro (h | h | h | h | h | h | h | h | h | h | h | h | h | h | h | h | h | h | h | h | h | h | h | h | h | h)
    · exact ⟨0, List.mem_range.2 (by omega), inI_true.2 h⟩
    · exact ⟨1, List.mem_range.2 (by omega), inI_true.2 h⟩
    · exact ⟨2, List.mem_range.2 (by omega), inI_true.2 h⟩
    · exact ⟨3, List.mem_range.2 (by omega), inI_true.2 h⟩
    · exact ⟨4, List.mem_range.2 (by omega), inI_true.2 h⟩
    · exact ⟨5, List.mem_range.2 (by omega), inI_true.2 h⟩
    · exact ⟨6, List.mem_range.2 (by omega), inI_true.2 h⟩
    · exact ⟨7, List.mem_range.2 (by omega), inI_true.2 h⟩
    · exact ⟨8, List.mem_range.2 (by omega), inI_true.2 h⟩
    · exact ⟨9, List.mem_range.2 (by omega), inI_true.2 h⟩
    · exact ⟨10, List.mem_range.2 (by omega), inI_true.2 h⟩
    · exact ⟨11, List.mem_range.2 (by omega), inI_true.2 h⟩
    · exact ⟨12, List.mem_range.2 (by omega), inI_true.2 h⟩
    · exact ⟨13, List.mem_range.2 (by omega), inI_true.2 h⟩
    · exact ⟨14, List.mem_range.2 (by omega), inI_true.2 h⟩
    · exact ⟨15, List.mem_range.2 (by omega), inI_true.2 h⟩
    · exact ⟨16, List.mem_range.2 (by omega), inI_true.2 h⟩
    · exact ⟨17, List.mem_range.2 (by omega), inI_true.2 h⟩
    · exact ⟨18, List.mem_range.2 (by omega), inI_true.2 h⟩
    · exact ⟨19, List.mem_range.2 (by omega), inI_true.2 h⟩
    · exact ⟨20, List.mem_range.2 (by omega), inI_true.2 h⟩
    · exact ⟨21, List.mem_range.2 (by omega), inI_true.2 h⟩
    · exact ⟨22, List.mem_range.2 (by omega), inI_true.2 h⟩
    · exact ⟨23, List.mem_range.2 (by omega), inI_true.2 h⟩
    · exact ⟨24, List.mem_range.2 (by omega), inI_true.2 h⟩
    · exact ⟨25, List.mem_range.2 (by omega), inI_true.2 h⟩
theorem kn_eq (c : Int) : (kn2 c && c != 47) = kn c := by
  rw [Bool.eq_iff_iff, Bool.and_eq_true, bne_iff_ne, kn_iff, kn2_iff]
  constructor
  · rintro ⟨(h | h | h | h | h | h | h | h | h | h | h | h | h | h | h | h | h | h | h | h | h | h | h | h | h | h), hne⟩
    all_goals omega
  · intro h
    refine ⟨?_, ?_⟩
    · rcases h with h | h | h | h | h | h | h | h | h | h | h | h | h | h | h | h | h | h | h | h | h | h | h | h | h | h | h
      all_goals omega
    · rcases h with h | h | h | h | h | h | h | h | h | h | h | h | h | h | h | h | h | h | h | h | h | h | h | h | h | h | h
      all_goals omega

/-- The world holds the program's table. -/
structure Tab (w : World) : Prop where
  pos : 0 < w.heap.size
  cell : ∀ i, i < 54 → w.cell? ⟨0, i, none⟩ = some (.int .i64 (tabAt i))
theorem Tab.below {w w' : World} {B : Nat} (h : Tab w) (hb : Below B w w') (hB : 0 < B) : Tab w' :=
  ⟨Nat.lt_of_lt_of_le h.pos hb.size, fun i hi => by rw [hb.cell (p := ⟨0, i, none⟩) hB]; exact h.cell i hi⟩
theorem Tab.bl {w w' : World} (h : Tab w) (hb : Below w.heap.size w w') : Tab w' := h.below hb h.pos
theorem Tab.al {w : World} (h : Tab w) (o : Obj) : Tab (w.alloc o) := h.bl (belA (bel0 w) o)
theorem Tab.dr {w : World} (h : Tab w) : Tab w.drew := ⟨h.pos, h.cell⟩
theorem Tab.gr {w w' : World} {row : Option Nat} (h : Tab w) (hg : w.grownBy w' row) (hr : row ≠ some 0) : Tab w' :=
  ⟨Nat.lt_of_lt_of_le h.pos hg.size, fun i hi => by
    rw [World.cell?_of_block (w := w) (a := ⟨0, i, none⟩) (hg.block 0 h.pos (fun e => hr e.symm))]; exact h.cell i hi⟩

set_option maxRecDepth 100000 in
set_option maxHeartbeats 2000000 in
theorem known_impl (c : Int) (w : World) (hT : Tab w) :
    Calls Tryd.prog 165 #[.int .i64 c] w fun e w' => e = .returned (.bool (kn c)) ∧ Below w.heap.size w w' := by
  have HT := Lib.hid hT
  clear hT
  go_enter Tryd.func165, Tryd.ntmps165
  go_wp2
  go_loopw [3] (fun i wr => ∃ (m k : Nat), m = 2 * k ∧ k ≤ 27 ∧ i = .int .i64 m ∧ Hid (∀ j, j < k → inI c (tabAt (2 * j)) (tabAt (2 * j + 1)) = false) ∧ Below w.heap.size w wr)
    (fun i _ => 54 - (intOf i).toNat)
  case atStart => exact ⟨0, 0, rfl, by omega, rfl, fun j hj => by omega, bel0 w⟩
  case round =>
    obtain ⟨m, k, hm, hk, rfl, hno, hbel⟩ := hrel
    by_cases hlt : m < 54
    · have hT := HT.out.bl hbel
      have c1 := hT.cell m hlt
      have c2 := hT.cell (m + 1) (by omega)
      have Hm := Lib.hid hm
      have q0 : (0 : Int) ≤ ↑m := by omega
      have q1 : (↑m : Int) < 54 := by omega
      have q2 : (0 : Int) ≤ ↑m + 1 := by omega
      have q3 : (↑m : Int) + 1 < 54 := by omega
      have q4 : IntKind.i64.wrap ((m : Int) + 1) = (m : Int) + 1 := IntWalk.i64_in _ (by omega)
      have q5 : ((m : Int) + 1).toNat = m + 1 := by omega
      clear hm hT
      rcases hin : inI c (tabAt m) (tabAt (m + 1)) with _ | _
      · go_wp2_with fail
        go_region_held3 (fun w' => w'.cell? ⟨0, m, none⟩ = some (.int .i64 (tabAt m)) ∧ w'.cell? ⟨0, m + 1, none⟩ = some (.int .i64 (tabAt (m + 1)))) (go_keep)
          (first
            | (go_at_call 88; refine (within_any _ _ _ _).mono ?_; rintro e w' ⟨rfl, rfl⟩))
        go_wp2
        go_roundw
        case rel =>
          have hm := Hm.out
          have hin' := hin
          rw [hm] at hin'
          exact ⟨m + 2, k + 1, by omega, by omega, by go_num, fun j hj => by
            rcases Nat.lt_or_ge j k with h1 | h1
            · exact hno.out j h1
            · obtain rfl : j = k := by omega
              exact hin', hbel.drew⟩
        case measure => simp [intOf]; omega
      · have Hf := Lib.hid (show kn c = true from any_yes (j := k) (by have := Hm.out; omega) (by rw [← Hm.out]; exact hin))
        go_wp2_with fail
        go_region_held3 (fun w' => w'.cell? ⟨0, m, none⟩ = some (.int .i64 (tabAt m)) ∧ w'.cell? ⟨0, m + 1, none⟩ = some (.int .i64 (tabAt (m + 1)))) (go_keep)
          (first
            | (go_at_call 88; refine (within_any _ _ _ _).mono ?_; rintro e w' ⟨rfl, rfl⟩))
        go_wp2
        go_ret
        exact ⟨ret_bool Hf.out.symm, hbel.drew⟩
    · have Hf := Lib.hid (show kn c = false from any_no (fun j hj => hno.out j (by omega)))
      clear hm
      go_wp2
      go_ret
      exact ⟨ret_bool Hf.out.symm, hbel⟩

set_option maxRecDepth 100000 in
set_option maxHeartbeats 2000000 in
theorem known_spec (c : Int) (w : World) :
    Calls Tryd.prog 163 #[.int .i64 c] w fun e w' => e = .returned (.bool (kn c)) ∧ Below w.heap.size w w' := by
  go_enter Tryd.func163, Tryd.ntmps163
  go_wp2
  have hA : ∀ j, j < 26 → ((w.alloc (.cells (II fromTab).toArray 3)).alloc (.cells (II toTab).toArray 3)).cell? ⟨w.heap.size, j, none⟩ = some (.int .i64 (fromAt j)) := fun j hj => by
    rw [World.cell?_alloc_past _ _ _ (by simp), World.cell?_alloc_at _ _ _ _ rfl]; exact II_getD fromTab j hj
  have hB : ∀ j, j < 26 → ((w.alloc (.cells (II fromTab).toArray 3)).alloc (.cells (II toTab).toArray 3)).cell? ⟨w.heap.size + 1, j, none⟩ = some (.int .i64 (toAt j)) := fun j hj => by
    rw [World.cell?_alloc_at _ _ _ _ (by simp)]; exact II_getD toTab j hj
  go_loopw [5] (fun i wr => ∃ (k : Nat), k ≤ 26 ∧ i = .int .i64 k ∧ Hid (∀ j, j < k → inI c (fromAt j) (toAt j) = false) ∧ Hid (∀ j, j < 26 → wr.cell? ⟨w.heap.size, j, none⟩ = some (.int .i64 (fromAt j))) ∧ Hid (∀ j, j < 26 → wr.cell? ⟨w.heap.size + 1, j, none⟩ = some (.int .i64 (toAt j))) ∧ Below w.heap.size w wr)
    (fun i _ => 26 - (intOf i).toNat)
  case atStart => exact ⟨0, by omega, rfl, fun j hj => by omega, hA, hB, belA (belA (bel0 w) _) _⟩
  case round =>
    clear hA hB
    obtain ⟨k, hk, rfl, hno, hA, hB, hbel⟩ := hrel
    by_cases hlt : k < 26
    · have c1 := hA.out k hlt
      have c2 := hB.out k hlt
      have q0 : (0 : Int) ≤ ↑k := by omega
      have q1 : (↑k : Int) < 26 := by omega
      rcases hin : inI c (fromAt k) (toAt k) with _ | _
      · go_wp2_with fail
        go_region_held3 (fun w' => w'.cell? ⟨w.heap.size, k, none⟩ = some (.int .i64 (fromAt k)) ∧ w'.cell? ⟨w.heap.size + 1, k, none⟩ = some (.int .i64 (toAt k))) (go_keep)
          (first
            | (go_at_call 82; refine (l1In_any _ _ _ _).mono ?_; rintro e w' ⟨rfl, rfl⟩))
        go_wp2
        go_roundw
        case rel =>
          exact ⟨k + 1, by omega, by go_num, fun j hj => by
            rcases Nat.lt_or_ge j k with h1 | h1
            · exact hno.out j h1
            · obtain rfl : j = k := by omega
              exact hin, hA.out, hB.out, hbel.drew⟩
        case measure => simp [intOf]; omega
      · have Hf := Lib.hid (show kn c = (c != 47) by rw [← kn_eq, show kn2 c = true from any_yes (j := k) hlt hin]; rfl)
        go_wp2_with fail
        go_region_held3 (fun w' => w'.cell? ⟨w.heap.size, k, none⟩ = some (.int .i64 (fromAt k)) ∧ w'.cell? ⟨w.heap.size + 1, k, none⟩ = some (.int .i64 (toAt k))) (go_keep)
          (first
            | (go_at_call 82; refine (l1In_any _ _ _ _).mono ?_; rintro e w' ⟨rfl, rfl⟩))
        go_wp2
        go_ret
        exact ⟨ret_bool Hf.out.symm, hbel.drew⟩
    · have Hf := Lib.hid (show kn c = false by rw [← kn_eq, show kn2 c = false from any_no (fun j hj => hno.out j (by omega))]; rfl)
      go_wp2
      go_ret
      exact ⟨ret_bool Hf.out.symm, hbel⟩

end Go.Proofs.YtlgjehdocppofaaDoor
