/- Rows of records: equality, marks. -/
import Derived.Test.YthdbomkddpnhaaaGreatDoorStrs
namespace Go.Proofs.YthdbomkddpnhaaaGreatDoor
open Go Go.RowKit

/-- Records as cells. -/
def RS (l : List (Int × ByteArray)) : List Value := l.flatMap fun r => [.int .i64 r.1, .string r.2]
theorem RS_cons (e : Int × ByteArray) (l : List (Int × ByteArray)) : RS (e :: l) = .int .i64 e.1 :: .string e.2 :: RS l := rfl
theorem RS_append (a b : List (Int × ByteArray)) : RS (a ++ b) = RS a ++ RS b := by simp [RS]
theorem RS_length (l : List (Int × ByteArray)) : (RS l).length = l.length * 2 := by
  induction l with
  | nil => rfl
  | cons e l ih => rw [RS_cons]; simp [ih]; omega
theorem RS_get : ∀ (l : List (Int × ByteArray)) (k : Nat) (h : k < l.length), (RS l)[k * 2]? = some (.int .i64 l[k].1) ∧ (RS l)[k * 2 + 1]? = some (.string l[k].2)
  | e :: l, 0, _ => ⟨rfl, rfl⟩
  | e :: l, k + 1, h => by
    have := RS_get l k (by simpa using h)
    rw [RS_cons, show (k + 1) * 2 = k * 2 + 1 + 1 by omega]
    simpa using this
theorem RS_cells (l : List (Int × ByteArray)) : ∀ u ∈ RS l, u.oneCell' = true := by
  induction l with
  | nil => intro u hu; cases hu
  | cons e l ih =>
    intro u hu
    rw [RS_cons] at hu
    simp only [List.mem_cons] at hu
    rcases hu with rfl | rfl | hu
    · rfl
    · rfl
    · exact ih u hu
theorem cell_flat {w : World} {ad : Addr} {v : Value} (h : w.cell? ad = some v) : ∃ b o, ad = ⟨b, o, none⟩ := by
  obtain ⟨b, o, sp⟩ := ad
  cases sp with
  | none => exact ⟨b, o, rfl⟩
  | some x =>
    simp only [World.cell?] at h
    split at h <;> simp at h
theorem reads_strF {w : World} {B n : Nat} {A : Option Addr} {xs : List ByteArray} (h : Reads w B 1 A n (SS xs)) {k : Nat} (hk : k < n) :
    ∃ (hk' : k < xs.length) (b o : Nat), A = some ⟨b, o, none⟩ ∧ b < B ∧ w.cell? ⟨b, o + k, none⟩ = some (.string xs[k]) := by
  obtain ⟨hk', ad, rfl, hb, hc⟩ := reads_str h hk
  obtain ⟨_, ad0, e0, _, hc0⟩ := reads_str h (k := 0) (by omega)
  injection e0 with e0
  subst e0
  have ha0 : ad.add 0 = ad := by simp [Addr.add]
  rw [ha0] at hc0
  obtain ⟨b, o, rfl⟩ := cell_flat hc0
  have ha : ∀ j, (Addr.add ⟨b, o, none⟩ j) = ⟨b, o + j, none⟩ := fun j => by unfold Addr.add; split <;> simp_all
  rw [ha] at hc
  exact ⟨hk', b, o, rfl, hb, hc⟩
theorem reads_rec {w : World} {B n : Nat} {A : Option Addr} {xs : List (Int × ByteArray)} (h : Reads w B 2 A n (RS xs)) {k : Nat} (hk : k < n) :
    ∃ (hk' : k < xs.length) (b o : Nat), A = some ⟨b, o, none⟩ ∧ b < B ∧ w.cell? ⟨b, o + k * 2, none⟩ = some (.int .i64 xs[k].1) ∧ w.cell? ⟨b, o + k * 2 + 1, none⟩ = some (.string xs[k].2) := by
  have hl : k < xs.length := by have := h.1; rw [RS_length] at this; omega
  obtain ⟨ad, rfl, hb, hc⟩ := h.2 (by omega)
  obtain ⟨h0, h1⟩ := RS_get xs k hl
  have z0 := hc _ _ h0
  have z1 := hc _ _ h1
  obtain ⟨h00, _⟩ := RS_get xs 0 (by omega)
  have z00 := hc 0 _ h00
  obtain ⟨b, o, hbo⟩ := cell_flat z00
  have hbo' : ad = ⟨b, o, none⟩ := by rw [← hbo]; simp [Addr.add]
  subst hbo'
  have ha : ∀ j, (Addr.add ⟨b, o, none⟩ j) = ⟨b, o + j, none⟩ := fun j => by unfold Addr.add; split <;> simp_all
  rw [ha] at z0 z1
  exact ⟨hl, b, o, rfl, hb, z0, by rw [show o + k * 2 + 1 = o + (k * 2 + 1) by omega]; exact z1⟩

/-- So many marked records from a number on. -/
def markR (k : Int) : Int × ByteArray := (k, markB (k + 1))
def marksR (k : Int) (n : Nat) : List (Int × ByteArray) := (List.range n).map fun (j : Nat) => markR (k + 2 * (j : Int))
theorem marksR_len (k : Int) (n : Nat) : (marksR k n).length = n := by simp [marksR]
theorem marksR_get (k : Int) (n j : Nat) (h : j < n) : (marksR k n)[j]'(by rw [marksR_len]; exact h) = markR (k + 2 * (j : Int)) := by simp [marksR]
theorem marksR_succ (k : Int) (n : Nat) : marksR k (n + 1) = marksR k n ++ [markR (k + 2 * (n : Int))] := by simp [marksR, List.range_succ]

theorem RS_set2 {n k : Nat} (l : List (Int × ByteArray)) (xs : List Value) (x : Int × ByteArray) (hk : l.length = k) (hx : k < n) (hxs : xs.length = n * 2) :
    ((RS l ++ xs.drop (k * 2)).set (k * 2) (.int .i64 x.1)).set (k * 2 + 1) (.string x.2) = RS (l ++ [x]) ++ xs.drop ((k + 1) * 2) := by
  subst hk
  obtain ⟨a, b, r, hr⟩ : ∃ a b r, xs.drop (l.length * 2) = a :: b :: r := by
    have : 2 ≤ (xs.drop (l.length * 2)).length := by rw [List.length_drop]; omega
    match hh : xs.drop (l.length * 2), this with
    | a :: b :: r, _ => exact ⟨a, b, r, rfl⟩
  have hd : xs.drop ((l.length + 1) * 2) = r := by
    rw [show (l.length + 1) * 2 = l.length * 2 + 2 by omega, ← List.drop_drop, hr]; rfl
  rw [hd, hr, RS_append, show RS [x] = [.int .i64 x.1, .string x.2] from rfl]
  have hz : l.length * 2 = (RS l).length := (RS_length l).symm
  rw [hz]
  simp
theorem own_cells2 {w : World} {base : Nat} {e : TypeId} {n g c : Nat} {xs : List Value} (h : w.ownsRow base e 2 (.slice (some ⟨g, 0, none⟩) n c) n xs) (k : Nat) (hk : k < n) :
    (∃ u, w.cell? ⟨g, k * 2, none⟩ = some u) ∧ (∃ u, w.cell? ⟨g, k * 2 + 1, none⟩ = some u) := by
  have hl := h.1
  have f : ∀ i, i < n * 2 → ∃ u, w.cell? ⟨g, i, none⟩ = some u := fun i hi => ⟨xs[i]'(by omega), by rw [h.cellAt i (by omega)]; exact List.getElem?_eq_getElem (by omega)⟩
  exact ⟨f _ (by omega), f _ (by omega)⟩

end Go.Proofs.YthdbomkddpnhaaaGreatDoor
