/- Rows of records: equality, marks. -/
import Derived.Test.YtghgafbfpejinaaGreatDoorRBase
namespace Go.Proofs.YtghgafbfpejinaaGreatDoor
open Go Go.RowKit

theorem Tryz.el_str : ElemOk Tryz.prog 24 9 (.string ⟨#[]⟩) 1 16 := ⟨Tryz.underlying24, by kernel_rfl, rfl, by omega⟩

/-- Texts as cells. -/
def SS (l : List ByteArray) : List Value := l.map .string
theorem SS_append (a b : List ByteArray) : SS (a ++ b) = SS a ++ SS b := by simp [SS]
theorem SS_length (l : List ByteArray) : (SS l).length = l.length := by simp [SS]
theorem SS_get (l : List ByteArray) (k : Nat) (h : k < l.length) : (SS l)[k]? = some (.string l[k]) := by simp [SS, h]
theorem SS_cells (l : List ByteArray) : ∀ u ∈ SS l, u.oneCell' = true := by
 intro u hu
 simp only [SS, List.mem_map] at hu
 obtain ⟨b, _, rfl⟩ := hu
 rfl
theorem reads_str {w : World} {B n : Nat} {A : Option Addr} {xs : List ByteArray} (h : Reads w B 1 A n (SS xs)) {k : Nat} (hk : k < n) : ∃ (hk' : k < xs.length) (ad : Addr), A = some ad ∧ ad.block < B ∧ w.cell? (ad.add k) = some (.string xs[k]) := by
 obtain ⟨ad, u, h1, h2, h3, h4⟩ := h.at_ hk
 have hl : k < xs.length := by have := h.1; rw [SS_length] at this; omega
 rw [SS_get _ _ hl] at h3
 injection h3 with h3
 exact ⟨hl, ad, h1, h2, by rw [h4, h3]⟩
def digL (n : Nat) : List UInt8 := if _h : n = 0 then [] else digL (n / 10) ++ [UInt8.ofNat (48 + n % 10)]
termination_by n
decreasing_by omega
/-- The mark of a number. -/
def markB (k : Int) : ByteArray := if k ≤ 0 then str [109, 48] else str (109 :: digL k.toNat)
/-- So many marks from a number on. -/
def marks (k : Int) (n : Nat) : List ByteArray := (List.range n).map fun (j : Nat) => markB (k + j)

/-- Records as cells. -/
def RS (l : List (Int × ByteArray)) : List Value := l.flatMap fun r => [.int .i64 r.1, .string r.2]
theorem RS_cons (e : Int × ByteArray) (l : List (Int × ByteArray)) : RS (e :: l) = .int .i64 e.1 :: .string e.2 :: RS l := rfl
theorem RS_append (a b : List (Int × ByteArray)) : RS (a ++ b) = RS a ++ RS b := by simp [RS]
theorem RS_length (l : List (Int × ByteArray)) : (RS l).length = l.length * 2 := by
 induction l with
 | nil => rfl
 | cons e l ih => rw [RS_cons]; simp [ih]; omega
theorem RS_get : ∀ (l : List (Int × ByteArray)) (k : Nat) (h : k < l.length), (RS l)[k * 2]? = some (.int .i64 l[k].1) ∧ (RS l)[k * 2 + 1]? = some (.string l[k].2)
 | e :: l, 0, _ => ⟨rfl, rfl⟩
 | e :: l, k + 1, h => by
  have := RS_get l k (by simpa using h)
  rw [RS_cons, show (k + 1) * 2 = k * 2 + 1 + 1 by omega]
  simpa using this
theorem RS_cells (l : List (Int × ByteArray)) : ∀ u ∈ RS l, u.oneCell' = true := by
 induction l with
 | nil => intro u hu; cases hu
 | cons e l ih =>
  intro u hu
  rw [RS_cons] at hu
  simp only [List.mem_cons] at hu
  rcases hu with rfl | rfl | hu
  ·rfl
  ·rfl
  ·exact ih u hu
theorem cell_flat {w : World} {ad : Addr} {v : Value} (h : w.cell? ad = some v) : ∃ b o, ad = ⟨b, o, none⟩ := by
 obtain ⟨b, o, sp⟩ := ad
 cases sp with
 | none => exact ⟨b, o, rfl⟩
 | some x =>
  simp only [World.cell?] at h
  split at h <;> simp at h
theorem reads_strF {w : World} {B n : Nat} {A : Option Addr} {xs : List ByteArray} (h : Reads w B 1 A n (SS xs)) {k : Nat} (hk : k < n) :
  ∃ (hk' : k < xs.length) (b o : Nat), A = some ⟨b, o, none⟩ ∧ b < B ∧ w.cell? ⟨b, o + k, none⟩ = some (.string xs[k]) := by
 obtain ⟨hk', ad, rfl, hb, hc⟩ := reads_str h hk
 obtain ⟨_, ad0, e0, _, hc0⟩ := reads_str h (k := 0) (by omega)
 injection e0 with e0
 subst e0
 have ha0 : ad.add 0 = ad := by simp [Addr.add]
 rw [ha0] at hc0
 obtain ⟨b, o, rfl⟩ := cell_flat hc0
 have ha : ∀ j, (Addr.add ⟨b, o, none⟩ j) = ⟨b, o + j, none⟩ := fun j => by unfold Addr.add; split <;> simp_all
 rw [ha] at hc
 exact ⟨hk', b, o, rfl, hb, hc⟩
theorem reads_rec {w : World} {B n : Nat} {A : Option Addr} {xs : List (Int × ByteArray)} (h : Reads w B 2 A n (RS xs)) {k : Nat} (hk : k < n) :
  ∃ (hk' : k < xs.length) (b o : Nat), A = some ⟨b, o, none⟩ ∧ b < B ∧ w.cell? ⟨b, o + k * 2, none⟩ = some (.int .i64 xs[k].1) ∧ w.cell? ⟨b, o + k * 2 + 1, none⟩ = some (.string xs[k].2) := by
 have hl : k < xs.length := by have := h.1; rw [RS_length] at this; omega
 obtain ⟨ad, rfl, hb, hc⟩ := h.2 (by omega)
 obtain ⟨h0, h1⟩ := RS_get xs k hl
 have z0 := hc _ _ h0
 have z1 := hc _ _ h1
 obtain ⟨h00, _⟩ := RS_get xs 0 (by omega)
 have z00 := hc 0 _ h00
 obtain ⟨b, o, hbo⟩ := cell_flat z00
 have hbo' : ad = ⟨b, o, none⟩ := by rw [← hbo]; simp [Addr.add]
 subst hbo'
 have ha : ∀ j, (Addr.add ⟨b, o, none⟩ j) = ⟨b, o + j, none⟩ := fun j => by unfold Addr.add; split <;> simp_all
 rw [ha] at z0 z1
 exact ⟨hl, b, o, rfl, hb, z0, by rw [show o + k * 2 + 1 = o + (k * 2 + 1) by omega]; exact z1⟩

end Go.Proofs.YtghgafbfpejinaaGreatDoor
