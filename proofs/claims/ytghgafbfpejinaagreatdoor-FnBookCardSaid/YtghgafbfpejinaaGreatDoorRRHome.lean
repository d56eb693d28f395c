/- A whole directory read from its text: what is read, in plain Lean. -/
import Derived.Test.YtghgafbfpejinaaGreatDoorRLook
import Derived.Test.YtghgafbfpejinaaGreatDoorRScan2
import Derived.Test.YtghgafbfpejinaaGreatDoorRRec2
namespace Go.Proofs.YtghgafbfpejinaaGreatDoor
open Go Go.RowKit

/-- One entry read off (rest, bad). -/
noncomputable def stE (R : ByteArray) (b : Bool) : EntD × ByteArray × Bool :=
 (⟨hashI (scP (scN (scN R b).2.1 (scN R b).2.2).2.1 (scN (scN R b).2.1 (scN R b).2.2).2.2).1, (scN R b).1, (scP (scN (scN R b).2.1 (scN R b).2.2).2.1 (scN (scN R b).2.1 (scN R b).2.2).2.2).1, (scN (scN R b).2.1 (scN R b).2.2).1⟩,
  (scP (scN (scN R b).2.1 (scN R b).2.2).2.1 (scN (scN R b).2.1 (scN R b).2.2).2.2).2)
theorem stE_is {R R1 R2 R3 t : ByteArray} {b b1 b2 b3 : Bool} {i d : Int} (h1 : scN R b = (i, R1, b1)) (h2 : scN R1 b1 = (d, R2, b2)) (h3 : scP R2 b2 = (t, R3, b3)) : stE R b = (⟨hashI t, i, t, d⟩, R3, b3) := by
 unfold stE; rw [h1]; simp only; rw [h2]; simp only; rw [h3]
/-- So many entries read off. -/
noncomputable def itE (R : ByteArray) (b : Bool) : Nat → List EntD × ByteArray × Bool
 | 0 => ([], R, b)
 | k + 1 => ((itE R b k).1 ++ [(stE (itE R b k).2.1 (itE R b k).2.2).1], (stE (itE R b k).2.1 (itE R b k).2.2).2)
theorem itE_succ {R : ByteArray} {b : Bool} {k : Nat} {l : List EntD} {R1 R2 : ByteArray} {b1 b2 : Bool} {e : EntD} (h : itE R b k = (l, R1, b1)) (h2 : stE R1 b1 = (e, R2, b2)) : itE R b (k + 1) = (l ++ [e], R2, b2) := by
 rw [itE, h]; simp only; rw [h2]
theorem scP_small (R : ByteArray) (b : Bool) : (scP R b).2.1.size ≤ R.size ∧ (scP R b).1.size ≤ R.size := by
 have h1 := scN_small R b
 have h2 := scC_small (scN R b).2.1 (scN R b).2.2 (scN R b).1
 unfold scP; omega
theorem stE_small (R : ByteArray) (b : Bool) : (stE R b).2.1.size ≤ R.size ∧ (stE R b).1.s.size ≤ R.size := by
 have h1 := scN_small R b
 have h2 := scN_small (scN R b).2.1 (scN R b).2.2
 have h3 := scP_small (scN (scN R b).2.1 (scN R b).2.2).2.1 (scN (scN R b).2.1 (scN R b).2.2).2.2
 unfold stE; simp only; omega
theorem itE_small (R : ByteArray) (b : Bool) : ∀ k, (itE R b k).2.1.size ≤ R.size ∧ (itE R b k).1.length = k ∧ ∀ e ∈ (itE R b k).1, e.s.size ≤ R.size
 | 0 => by simp [itE]
 | k + 1 => by
  obtain ⟨h1, h2, h3⟩ := itE_small R b k
  have h4 := stE_small (itE R b k).2.1 (itE R b k).2.2
  rw [itE]
  refine ⟨by simp only; omega, by simp [h2], fun e he => ?_⟩
  simp only [List.mem_append, List.mem_singleton] at he
  rcases he with he | rfl
  ·exact h3 e he
  ·omega
theorem scN_bad2 (s : ByteArray) : scN s true = (0, s, true) := by unfold scN; rw [if_pos (.inl rfl)]
theorem scC_bad2 (s : ByteArray) (n : Int) : scC s true n = (str [], s, true) := by unfold scC; rw [if_pos (.inl rfl)]
theorem stE_bad (R : ByteArray) : (stE R true).2.2 = true := by
 unfold stE scP; rw [scN_bad2]; simp only; rw [scN_bad2]; simp only; rw [scN_bad2]; simp only; rw [scC_bad2]
theorem itE_bad (R : ByteArray) (b : Bool) (k : Nat) (h : (itE R b k).2.2 = true) : ∀ j, (itE R b (k + j)).2.2 = true
 | 0 => h
 | j + 1 => by
  have h1 := itE_bad R b k h j
  rw [show k + (j + 1) = (k + j) + 1 from rfl, itE, h1]
  exact stE_bad _

/-- The head, the number, the count, the entries. -/
def hd0 (s : ByteArray) : ByteArray × ByteArray × Bool := scC s false 5
def hd1 (s : ByteArray) : Int × ByteArray × Bool := scN (hd0 s).2.1 (hd0 s).2.2
def hd2 (s : ByteArray) : Int × ByteArray × Bool := scM (hd1 s).2.1 (hd1 s).2.2 12
noncomputable def hd3 (s : ByteArray) : List EntD × ByteArray × Bool := itE (hd2 s).2.1 (hd2 s).2.2 (hd2 s).1.toNat
/-- What ReadHome answers. -/
noncomputable def homeP (s : ByteArray) : (Int × List EntD) × Bool := open Classical in
 if (hd3 s).2.2 = true ∨ s.size = 0 ∨ showHomeB (hd1 s).1 (hd3 s).1 ≠ s then ((0, []), false) else (((hd1 s).1, (hd3 s).1), true)
theorem homeP_no {s : ByteArray} (h : (hd3 s).2.2 = true ∨ s.size = 0 ∨ showHomeB (hd1 s).1 (hd3 s).1 ≠ s) : homeP s = ((0, []), false) := by unfold homeP; rw [if_pos h]
theorem homeP_yes {s : ByteArray} (h1 : (hd3 s).2.2 = false) (h2 : s.size ≠ 0) (h3 : showHomeB (hd1 s).1 (hd3 s).1 = s) : homeP s = (((hd1 s).1, (hd3 s).1), true) := by
 unfold homeP; rw [if_neg]; rintro (h | h | h)
 ·rw [h1] at h; cases h
 ·exact h2 h
 ·exact h h3
theorem scM_small (R : ByteArray) (b : Bool) (m : Int) (hm : 0 ≤ m) : (scM R b m).2.1.size ≤ R.size ∧ 0 ≤ (scM R b m).1 ∧ (scM R b m).1 ≤ m := by
 have h1 := scN_small R b
 unfold scM
 split
 ·simp only; omega
 ·simp only; omega

/-- One number at a place. -/
theorem num_at (s : ByteArray) (p : Nat) (hp : p ≤ s.size) : (∃ (x : Nat) (q : Nat), scN (dropB s p) false = ((x : Int), dropB s q, false) ∧ p ≤ q ∧ q ≤ s.size ∧ ∀ n, varsAt s.data.toList (n + 1) (p : Int) = match varsAt s.data.toList n (q : Int) with | none => none | some (xs, r) => some (x :: xs, r)) ∨
  (scN (dropB s p) false = (0, dropB s p, true) ∧ ∀ n, varsAt s.data.toList (n + 1) (p : Int) = none) := by
 have hl1 := rvB_le (dropB s p)
 rw [dropB_size] at hl1
 have hr : rvB (dropB s p) = rv (s.data.toList.drop (p : Int).toNat) := by rw [rvB, dropB_list]; rfl
 by_cases h : (rvB (dropB s p)).2 = 0
 ·refine .inr ⟨by unfold scN; rw [if_pos (.inr h)], fun n => ?_⟩
  rw [varsAt_succ, if_neg (by rw [size_list]; omega), ← hr, if_pos h]
 ·refine .inl ⟨(rvB (dropB s p)).1, p + (rvB (dropB s p)).2, by unfold scN; rw [if_neg (by simp [h])]; rw [dropB_dropB], by omega, by omega, fun n => ?_⟩
  rw [varsAt_succ, if_neg (by rw [size_list]; omega), ← hr, if_neg h]
  rw [show (p : Int) + ((rvB (dropB s p)).2 : Int) = ((p + (rvB (dropB s p)).2 : Nat) : Int) by omega]
  rcases varsAt s.data.toList n ((p + (rvB (dropB s p)).2 : Nat) : Int) with _ | ⟨xs, r⟩ <;> rfl
/-- Two numbers at a place. -/
theorem num2_at (s : ByteArray) (p : Nat) (hp : p ≤ s.size) : (∃ (x y : Nat) (q' q : Nat), scN (dropB s p) false = ((x : Int), dropB s q', false) ∧ scN (dropB s q') false = ((y : Int), dropB s q, false) ∧ p ≤ q ∧ q ≤ s.size ∧ varsAt s.data.toList 2 (p : Int) = some ([x, y], (q : Int))) ∨
  ((scN (scN (dropB s p) false).2.1 (scN (dropB s p) false).2.2).2.2 = true ∧ varsAt s.data.toList 2 (p : Int) = none) := by
 rcases num_at s p hp with ⟨x, q', h1, hpq, hq, hv⟩ | ⟨h1, hv⟩
 ·rcases num_at s q' hq with ⟨y, q, h2, hpq2, hq2, hv2⟩ | ⟨h2, hv2⟩
  ·refine .inl ⟨x, y, q', q, h1, h2, by omega, hq2, ?_⟩
   rw [hv 1, hv2 0]; rfl
  ·refine .inr ⟨by rw [h1]; simp only; rw [h2], ?_⟩
   rw [hv 1, hv2 0]
 ·refine .inr ⟨by rw [h1]; simp only; rw [scN_bad2], hv 1⟩
/-- A piece at a place. -/
theorem piece_at (s : ByteArray) (p : Nat) (hp : p ≤ s.size) : (∃ (t : ByteArray) (q : Nat), scP (dropB s p) false = (t, dropB s q, false) ∧ p ≤ q ∧ q ≤ s.size ∧ takeAt s (p : Int) = some (t, (q : Int))) ∨
  ((scP (dropB s p) false).2.2 = true ∧ takeAt s (p : Int) = none) := by
 rcases num_at s p hp with ⟨x, q', h1, hpq, hq, hv⟩ | ⟨h1, hv⟩
 ·have hv1 : varsAt s.data.toList 1 (p : Int) = some ([x], (q' : Int)) := by rw [hv 0]; rfl
  by_cases hle : (x : Int) ≤ s.size - (q' : Int)
  ·refine .inl ⟨s.extract q' (q' + x), q' + x, ?_, by omega, by omega, ?_⟩
   ·unfold scP; rw [h1]; simp only
    unfold scC
    rw [if_neg]
    ·rw [Int.toNat_natCast, dropB_dropB]
     refine Prod.ext ?_ rfl
     simp only
     exact bytes_ext (by rw [takeB_list, dropB_list, sub_list, List.drop_take, Nat.add_sub_cancel_left])
    ·rintro (h | h)
     ·cases h
     ·rw [dropB_size] at h
      have : inI (x : Int) 0 ((s.size - q' : Nat) : Int) = true := inI_true.2 ⟨by omega, by omega⟩
      rw [this] at h; cases h
   ·unfold takeAt; rw [hv1]; simp only
    rw [if_pos hle]; simp
  ·refine .inr ⟨?_, ?_⟩
   ·unfold scP; rw [h1]; simp only
    unfold scC
    rw [if_pos]
    right
    rw [dropB_size]
    cases hi : inI (x : Int) 0 ((s.size - q' : Nat) : Int) with
    | false => rfl
    | true => have := inI_true.1 hi; omega
   ·unfold takeAt; rw [hv1]; simp only
    rw [if_neg hle]
 ·refine .inr ⟨?_, ?_⟩
  ·unfold scP; rw [h1]; simp only; rw [scC_bad2]
  ·unfold takeAt; rw [hv 0]
/-- The head and two numbers. -/
theorem head_at (s : ByteArray) : (∃ (x y : Nat) (q : Nat), hd1 s = ((x : Int), (hd1 s).2.1, false) ∧ 5 ≤ q ∧ q ≤ s.size ∧ varsAt s.data.toList 2 5 = some ([x, y], (q : Int)) ∧ hd2 s = if (12 : Int) < y then (0, dropB s q, true) else ((y : Int), dropB s q, false)) ∨
  ((hd2 s).2.2 = true ∧ varsAt s.data.toList 2 5 = none) := by
 by_cases h5 : 5 ≤ s.size
 ·have h0 : hd0 s = (takeB s 5, dropB s 5, false) := by
   unfold hd0 scC; rw [if_neg]; · rfl
   rintro (h | h)
   ·cases h
   ·have : inI 5 0 (s.size : Int) = true := inI_true.2 ⟨by omega, by omega⟩
    rw [this] at h; cases h
  rcases num2_at s 5 h5 with ⟨x, y, q', q, h1, h2, hpq, hq, hv⟩ | ⟨h1, hv⟩
  ·have e1 : hd1 s = ((x : Int), dropB s q', false) := by unfold hd1; rw [h0]; exact h1
   refine .inl ⟨x, y, q, by rw [e1], hpq, hq, hv, ?_⟩
   unfold hd2 scM; rw [e1]; simp only; rw [h2]; simp only
   simp
  ·refine .inr ⟨?_, hv⟩
   have e1 : hd1 s = scN (dropB s 5) false := by unfold hd1; rw [h0]
   unfold hd2 scM; rw [e1, if_pos (.inl h1)]
 ·refine .inr ⟨?_, ?_⟩
  ·have h0 : hd0 s = (str [], s, true) := by
    unfold hd0 scC; rw [if_pos]
    right
    cases hi : inI 5 0 (s.size : Int) with
    | false => rfl
    | true => have := inI_true.1 hi; omega
   have e1 : hd1 s = (0, s, true) := by unfold hd1; rw [h0]; exact scN_bad2 s
   unfold hd2 scM; rw [e1]; simp only; rw [scN_bad2]; simp
  ·rw [varsAt_succ, if_pos (.inr (by rw [size_list]; omega))]

end Go.Proofs.YtghgafbfpejinaaGreatDoor
