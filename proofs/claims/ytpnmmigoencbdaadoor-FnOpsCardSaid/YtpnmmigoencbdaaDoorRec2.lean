/- ReadRec, in both packages. -/
import Derived.Test.YtpnmmigoencbdaaDoorBase
import Derived.Test.YtpnmmigoencbdaaDoorLook
namespace Go.Proofs.YtpnmmigoencbdaaDoor
open Go Go.RowKit
/-- The record that a text is. -/
def recOf (s : ByteArray) : Option (Int × ByteArray) :=
  match varsAt s.data.toList 1 5 with
  | some ([q], p) => if showRecB q (dropB s p.toNat) = s then some ((q : Int), dropB s p.toNat) else none
  | _ => none
def recP (s : ByteArray) : Int × ByteArray × Bool := match recOf s with | some (q, t) => (q, t, true) | none => (0, str [], false)
/-- Behind five bytes and a number. -/
def scR (s : ByteArray) : Int × ByteArray × Bool := scN (scC s false 5).2.1 (scC s false 5).2.2
theorem scC_le (s : ByteArray) (b : Bool) (n : Int) : (scC s b n).2.1.size ≤ s.size := by
  unfold scC; split
  · exact Nat.le_refl _
  · simp only [dropB_size]; omega
theorem scR_yes (s : ByteArray) (h : (scR s).2.2 = false) : 5 ≤ s.size ∧ recOf s = if showRecB (scR s).1 (scR s).2.1 = s then some ((scR s).1, (scR s).2.1) else none := by
  by_cases h5 : inI 5 0 s.size = false
  · exfalso
    have : (scR s).2.2 = true := by
      unfold scR scC; rw [if_pos (.inr h5)]
      unfold scN; rw [if_pos (.inl rfl)]
    rw [this] at h; cases h
  · have h5' : inI 5 0 s.size = true := by cases hh : inI 5 0 s.size <;> simp_all
    obtain ⟨_, hle⟩ := inI_true.1 h5'
    have e1 : scC s false 5 = (takeB s 5, dropB s 5, false) := by unfold scC; rw [if_neg (by simp [h5'])]; rfl
    have hr : rvB (dropB s 5) = rv (s.data.toList.drop 5) := by rw [rvB, dropB_list]
    refine ⟨by omega, ?_⟩
    have hs : scR s = scN (dropB s 5) false := by unfold scR; rw [e1]
    by_cases hk : (rvB (dropB s 5)).2 = 0
    · exfalso
      rw [hs] at h
      unfold scN at h; rw [if_pos (.inr hk)] at h; cases h
    · have e2 : scN (dropB s 5) false = (((rvB (dropB s 5)).1 : Int), dropB (dropB s 5) (rvB (dropB s 5)).2, false) := by unfold scN; rw [if_neg (by simp [hk])]
      rw [hs, e2]
      unfold recOf
      rw [varsAt_succ, if_neg (by rw [size_list]; omega), show (5 : Int).toNat = 5 from rfl, ← hr, if_neg hk]
      simp only [varsAt, dropB_dropB]
      rw [show (5 + ((rvB (dropB s 5)).2 : Int)).toNat = 5 + (rvB (dropB s 5)).2 by omega]
theorem scR_no (s : ByteArray) (h : (scR s).2.2 = true) : recOf s = none := by
  by_cases h5 : inI 5 0 s.size = false
  · have := inI_false.1 h5
    unfold recOf
    rw [varsAt_succ, if_pos (.inr (by rw [size_list]; omega))]
  · have h5' : inI 5 0 s.size = true := by cases hh : inI 5 0 s.size <;> simp_all
    obtain ⟨_, hle⟩ := inI_true.1 h5'
    have e1 : scC s false 5 = (takeB s 5, dropB s 5, false) := by unfold scC; rw [if_neg (by simp [h5'])]; rfl
    have hr : rvB (dropB s 5) = rv (s.data.toList.drop 5) := by rw [rvB, dropB_list]
    have hs : scR s = scN (dropB s 5) false := by unfold scR; rw [e1]
    by_cases hk : (rvB (dropB s 5)).2 = 0
    · unfold recOf
      rw [varsAt_succ, if_neg (by rw [size_list]; omega), show (5 : Int).toNat = 5 from rfl, ← hr, if_pos hk]
    · exfalso
      rw [hs] at h
      unfold scN at h; rw [if_neg (by simp [hk])] at h; cases h
theorem recP_some (s : ByteArray) {q : Int} {t : ByteArray} (h : recOf s = some (q, t)) : recP s = (q, t, true) := by unfold recP; rw [h]
theorem recP_none (s : ByteArray) (h : recOf s = none) : recP s = (0, str [], false) := by unfold recP; rw [h]
/-- What ReadRec leaves. -/
theorem recP_end {v : Value} {s : ByteArray} {q : Int} {t : ByteArray} {b : Bool} (h : recP s = (q, t, b)) (hv : v = .tuple #[.agg #[.int .i64 q, .string t], .bool b]) :
    Ending.returned v = .returned (.tuple #[.agg #[.int .i64 (recP s).1, .string (recP s).2.1], .bool (recP s).2.2]) := by rw [hv, h]

theorem own_cell {w : World} {base : Nat} {e : TypeId} {v : Value} {x : Nat} (h : w.ownsRow base e 1 v 1 (I64 [x])) : ∃ g c, v = .slice (some ⟨g, 0, none⟩) 1 c ∧ base ≤ g ∧ w.cell? ⟨g, 0, none⟩ = some (.int .i64 x) := by
  obtain ⟨g, c, rfl, hb, hl⟩ := h.form (by omega)
  exact ⟨g, c, rfl, hb, by have := h.cellAt 0 (by omega); simpa [I64] using this⟩

end Go.Proofs.YtpnmmigoencbdaaDoor
