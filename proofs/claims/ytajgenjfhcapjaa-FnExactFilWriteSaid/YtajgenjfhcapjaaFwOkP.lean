/- A store and a file that are right, plainly. -/
import Derived.Test.YtajgenjfhcapjaaFwExtP
namespace Go.Proofs.Ytajgenjfhcapjaa
open Go Go.RowKit

structure StoD where
  bs : List Bool
  ds : List ByteArray
structure FilD where
  sz : Int
  xs : List ExtD

def storeOkB (S : StoD) : Bool := decide (S.bs.length = 24) && decide (S.ds.length = 24) && S.ds.all (fun t => t.size == 4)
theorem storeOk_iff {S : StoD} : storeOkB S = true ↔ S.bs.length = 24 ∧ S.ds.length = 24 ∧ ∀ t ∈ S.ds, t.size = 4 := by
  unfold storeOkB
  simp only [Bool.and_eq_true, decide_eq_true_eq, List.all_eq_true, beq_iff_eq]
  exact ⟨fun h => ⟨h.1.1, h.1.2, h.2⟩, fun h => ⟨⟨h.1, h.2.1⟩, h.2.2⟩⟩
def zer (n : Nat) : ByteArray := str (List.replicate n 0)
theorem zer_size (n : Nat) : (zer n).size = n := by rw [zer, str_size]; simp
def endsP (s : Int) : Int := (s + 3) / 4
/-- How much of a block counts. -/
def keepP (s : Int) (i : Nat) : Int := min 4 (s - i * 4)
def okBit (S : StoD) (s : Int) (m : List Int) (i : Nat) : Bool :=
  decide (m.getD i (-1) < 0) || (decide ((i : Int) < endsP s) && S.bs.getD (m.getD i (-1)).toNat false)
def okTail (S : StoD) (s : Int) (m : List Int) (i : Nat) : Bool :=
  decide (m.getD i (-1) < 0) || decide ((S.ds.getD (m.getD i (-1)).toNat (str [])).data.toList.drop (keepP s i).toNat = List.replicate (4 - (keepP s i).toNat) 0)
def okAt (S : StoD) (s : Int) (m : List Int) (i : Nat) : Bool := okBit S s m i && okTail S s m i
def filOkB (S : StoD) (F : FilD) : Bool := storeOkB S && (inI F.sz 0 48 && (extsOkB F.xs && (List.range 12).all (okAt S F.sz (flatP F.xs))))
theorem filOk_parts {S : StoD} {F : FilD} (h : filOkB S F = true) : storeOkB S = true ∧ inI F.sz 0 48 = true ∧ extsOkB F.xs = true := by
  unfold filOkB at h
  simp only [Bool.and_eq_true] at h
  exact ⟨h.1, h.2.1, h.2.2.1⟩
theorem filOk_all {S : StoD} {F : FilD} (h1 : storeOkB S = true) (h2 : inI F.sz 0 48 = true) (h3 : extsOkB F.xs = true) (h : ∀ i, i < 12 → okAt S F.sz (flatP F.xs) i = true) : filOkB S F = true := by
  unfold filOkB
  rw [h1, h2, h3, Bool.true_and, Bool.true_and, Bool.true_and, List.all_eq_true]
  intro i hi
  exact h i (List.mem_range.1 hi)
theorem filOk_not {S : StoD} {F : FilD} {i : Nat} (hi : i < 12) (h : okAt S F.sz (flatP F.xs) i = false) : filOkB S F = false := by
  cases hh : filOkB S F
  · rfl
  · unfold filOkB at hh
    simp only [Bool.and_eq_true, List.all_eq_true] at hh
    rw [hh.2.2.2 i (List.mem_range.2 hi)] at h
    cases h
theorem filOk_no1 {S : StoD} {F : FilD} (h : storeOkB S = false) : filOkB S F = false := by unfold filOkB; rw [h]; rfl
theorem filOk_no2 {S : StoD} {F : FilD} (h : inI F.sz 0 48 = false) : filOkB S F = false := by unfold filOkB; rw [h]; simp
theorem filOk_no3 {S : StoD} {F : FilD} (h : extsOkB F.xs = false) : filOkB S F = false := by unfold filOkB; rw [h]; simp

/-- What only the last block must hold. -/
def lastOk (S : StoD) (s : Int) (m : List Int) : Bool :=
  decide (s % 4 = 0) || (decide (m.getD (endsP s - 1).toNat (-1) < 0) || decide ((S.ds.getD (m.getD (endsP s - 1).toNat (-1)).toNat (str [])).data.toList.drop (s % 4).toNat = List.replicate (4 - (s % 4).toNat) 0))
theorem tail_of_last {S : StoD} {s : Int} {m : List Int} (hS : storeOkB S = true) (h0 : 0 ≤ s) (_h1 : s ≤ 48) (hm : ∀ x ∈ m, -1 ≤ x ∧ x ≤ 23) (hl : lastOk S s m = true) (i : Nat) (hb : okBit S s m i = true) : okTail S s m i = true := by
  obtain ⟨_, hd, hz⟩ := storeOk_iff.1 hS
  unfold okTail
  by_cases hneg : m.getD i (-1) < 0
  · simp only [hneg, decide_true, Bool.true_or]
  · unfold okBit at hb
    have hneg' : decide (m.getD i (-1) < 0) = false := by simpa using hneg
    rw [hneg', Bool.false_or, Bool.and_eq_true, decide_eq_true_eq] at hb
    obtain ⟨hie, _⟩ := hb
    unfold endsP at hie
    rw [hneg', Bool.false_or, decide_eq_true_eq]
    have hmem : m.getD i (-1) ≤ 23 := by
      by_cases hi : i < m.length
      · rw [List.getD_eq_getElem?_getD, List.getElem?_eq_getElem hi]
        exact (hm _ (List.getElem_mem hi)).2
      · rw [List.getD_eq_getElem?_getD, List.getElem?_eq_none (by omega)]; simp
    have hlt : (m.getD i (-1)).toNat < S.ds.length := by omega
    have hsz : (S.ds.getD (m.getD i (-1)).toNat (str [])).data.toList.length = 4 := by
      rw [List.getD_eq_getElem?_getD, List.getElem?_eq_getElem hlt, size_list]
      exact hz _ (List.getElem_mem hlt)
    by_cases h4 : 4 ≤ s - i * 4
    · have hk : (keepP s i).toNat = 4 := by unfold keepP; omega
      rw [hk, List.drop_eq_nil_of_le (by omega)]
      rfl
    · have he : (endsP s - 1).toNat = i := by unfold endsP; omega
      have hk : (keepP s i).toNat = (s % 4).toNat := by unfold keepP; omega
      unfold lastOk at hl
      rw [he, hneg', Bool.false_or] at hl
      have hne : decide (s % 4 = 0) = false := by simp; omega
      rw [hne, Bool.false_or, decide_eq_true_eq] at hl
      rw [hk]; exact hl
theorem last_of_tail {S : StoD} {s : Int} {m : List Int} (h0 : 0 ≤ s) (h1 : s ≤ 48) (hall : ∀ i, i < 12 → okTail S s m i = true) : lastOk S s m = true := by
  unfold lastOk
  by_cases hz : s % 4 = 0
  · simp only [hz, decide_true, Bool.true_or]
  · have hi : (endsP s - 1).toNat < 12 := by unfold endsP; omega
    have h := hall _ hi
    unfold okTail at h
    have hk : (keepP s (endsP s - 1).toNat).toNat = (s % 4).toNat := by unfold keepP endsP; omega
    rw [hk] at h
    rw [h]; simp

end Go.Proofs.Ytajgenjfhcapjaa
