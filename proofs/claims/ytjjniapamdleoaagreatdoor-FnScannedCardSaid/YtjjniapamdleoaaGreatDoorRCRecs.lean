/- Rows of records: equality, marks. -/
import Derived.Test.YtjjniapamdleoaaGreatDoorRCStrs
namespace Go.Proofs.YtjjniapamdleoaaGreatDoor
open Go Go.RowKit

theorem cell_flat {w : World} {ad : Addr} {v : Value} (h : w.cell? ad = some v) : ∃ b o, ad = ⟨b, o, none⟩ := by
 obtain ⟨b, o, sp⟩ := ad
 cases sp with
 | none => exact ⟨b, o, rfl⟩
 | some x =>
  simp only [World.cell?] at h
  split at h <;> simp at h
theorem reads_strF {w : World} {B n : Nat} {A : Option Addr} {xs : List ByteArray} (h : Reads w B 1 A n (SS xs)) {k : Nat} (hk : k < n) :
  ∃ (hk' : k < xs.length) (b o : Nat), A = some ⟨b, o, none⟩ /\ b < B /\ w.cell? ⟨b, o + k, none⟩ = some (.string xs[k]) := by
 obtain ⟨hk', ad, rfl, hb, hc⟩ := reads_str h hk
 obtain ⟨_, ad0, e0, _, hc0⟩ := reads_str h (k := 0) (by omega)
 injection e0 with e0
 subst e0
 have ha0 : ad.add 0 = ad := by simp [Addr.add]
 rw [ha0] at hc0
 obtain ⟨b, o, rfl⟩ := cell_flat hc0
 have ha : ∀ j, (Addr.add ⟨b, o, none⟩ j) = ⟨b, o + j, none⟩ := fun j => by unfold Addr.add; split <;> simp_all
 rw [ha] at hc
 exact ⟨hk', b, o, rfl, hb, hc⟩

end Go.Proofs.YtjjniapamdleoaaGreatDoor
