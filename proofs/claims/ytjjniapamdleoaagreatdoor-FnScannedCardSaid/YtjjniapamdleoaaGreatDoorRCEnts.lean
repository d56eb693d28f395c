/- Entries of a directory, rows of them, and pages. -/
import Derived.Test.YtjjniapamdleoaaGreatDoorRCBase
namespace Go.Proofs.YtjjniapamdleoaaGreatDoor
open Go Go.RowKit

structure EntD where
 h : Int
 i : Int
 s : ByteArray
 d : Int
def EntD.val (e : EntD) : Value := .agg #[.int .i64 e.h, .int .i64 e.i, .string e.s, .int .i64 e.d]
def EntD.cells (e : EntD) : List Value := [.int .i64 e.h, .int .i64 e.i, .string e.s, .int .i64 e.d]
/-- Entries as cells. -/
def ES (l : List EntD) : List Value := l.flatMap EntD.cells
theorem ES_cons (e : EntD) (l : List EntD) : ES (e :: l) = .int .i64 e.h :: .int .i64 e.i :: .string e.s :: .int .i64 e.d :: ES l := rfl
theorem ES_append (a b : List EntD) : ES (a ++ b) = ES a ++ ES b := by simp [ES]
theorem ES_length (l : List EntD) : (ES l).length = l.length * 4 := by
 induction l with
 | nil => rfl
 | cons e l ih => rw [ES_cons]; simp [ih]; omega
theorem ES_get : ∀ (l : List EntD) (k : Nat) (h : k < l.length), (ES l)[k * 4]? = some (.int .i64 l[k].h) /\ (ES l)[k * 4 + 1]? = some (.int .i64 l[k].i) /\ (ES l)[k * 4 + 2]? = some (.string l[k].s) /\ (ES l)[k * 4 + 3]? = some (.int .i64 l[k].d)
 | e :: l, 0, _ => ⟨rfl, rfl, rfl, rfl⟩
 | e :: l, k + 1, h => by
  have := ES_get l k (by simpa using h)
  rw [ES_cons, show (k + 1) * 4 = k * 4 + 1 + 1 + 1 + 1 by omega]
  simpa using this
theorem ES_cells (l : List EntD) : ∀ u ∈ ES l, u.oneCell' = true := by
 induction l with
 | nil => intro u hu; cases hu
 | cons e l ih =>
  intro u hu
  rw [ES_cons] at hu
  simp only [List.mem_cons] at hu
  rcases hu with rfl | rfl | rfl | rfl | hu
  ·rfl
  ·rfl
  ·rfl
  ·rfl
  ·exact ih u hu
theorem flat_addr {w : World} {ad : Addr} {v : Value} (h : w.cell? ad = some v) : ∃ b o, ad = ⟨b, o, none⟩ := by
 obtain ⟨b, o, sp⟩ := ad
 cases sp with
 | none => exact ⟨b, o, rfl⟩
 | some x =>
  simp only [World.cell?] at h
  split at h <;> simp at h
theorem reads_ent {w : World} {B n : Nat} {A : Option Addr} {xs : List EntD} (h : Reads w B 4 A n (ES xs)) {k : Nat} (hk : k < n) :
  ∃ (hk' : k < xs.length) (b o : Nat), A = some ⟨b, o, none⟩ /\ b < B /\ w.cell? ⟨b, o + k * 4, none⟩ = some (.int .i64 xs[k].h) /\ w.cell? ⟨b, o + k * 4 + 1, none⟩ = some (.int .i64 xs[k].i) /\
   w.cell? ⟨b, o + k * 4 + 2, none⟩ = some (.string xs[k].s) /\ w.cell? ⟨b, o + k * 4 + 3, none⟩ = some (.int .i64 xs[k].d) := by
 have hl : k < xs.length := by have := h.1; rw [ES_length] at this; omega
 obtain ⟨ad, rfl, hb, hc⟩ := h.2 (by omega)
 obtain ⟨h0, h1, h2, h3⟩ := ES_get xs k hl
 have z0 := hc _ _ h0
 have z1 := hc _ _ h1
 have z2 := hc _ _ h2
 have z3 := hc _ _ h3
 obtain ⟨h00, _⟩ := ES_get xs 0 (by omega)
 have z00 := hc 0 _ h00
 obtain ⟨b, o, hbo⟩ := flat_addr z00
 have hbo' : ad = ⟨b, o, none⟩ := by rw [<- hbo]; simp [Addr.add]
 subst hbo'
 have ha : ∀ j, (Addr.add ⟨b, o, none⟩ j) = ⟨b, o + j, none⟩ := fun j => by unfold Addr.add; split <;> simp_all
 rw [ha] at z0 z1 z2 z3
 exact ⟨hl, b, o, rfl, hb, z0, by rw [show o + k * 4 + 1 = o + (k * 4 + 1) by omega]; exact z1, by rw [show o + k * 4 + 2 = o + (k * 4 + 2) by omega]; exact z2, by rw [show o + k * 4 + 3 = o + (k * 4 + 3) by omega]; exact z3⟩

/-- How much entries have of the size. -/
def szS (l : List EntD) : Nat := l.length + (l.map fun e => e.s.size).sum

theorem run_make_any {P : Program} (t e : TypeId) (z : Value) (size bytes : Nat) (ht : P.underlying t = some (.slice e)) (hinfo : (P.info? e).map (fun i => (i.zero, i.size, i.bytes)) = some (some z, size, bytes))
  (n : Nat) (hbytes : bytes * n <= 281474976710656) (h63 : n <= 9223372036854775807) (w : World) :
  (Instr.makeSlice t (.int .i64 (n : Int)) (.int .i64 (n : Int))).run P w = .ok (.slice (some ⟨w.heap.size, 0, none⟩) n n) (w.alloc (.cells (madeCells z.cells (n * size)) e)) := by
 obtain ⟨i, hi, hzz⟩ := Option.map_eq_some_iff.1 hinfo
 simp only [Prod.mk.injEq] at hzz
 obtain ⟨hz, hs, hb⟩ := hzz
 have hb' : (i.bytes : Int) * (n : Int) <= 281474976710656 := by
  have h : ((i.bytes * n : Nat) : Int) <= 281474976710656 := by rw [hb]; omega
  rwa [Int.natCast_mul] at h
 have hr := run_make (P := P) w t e i z ht hi hz .i64 .i64 n n (by omega) (Int.le_refl _) hb' (by omega)
 simp only [Int.toNat_natCast, hs] at hr
 exact hr
theorem own_made (w : World) (z : Array Value) (e : TypeId) (n size : Nat) (hn : n <= maxLen) :
  (w.alloc (.cells (madeCells z (n * size)) e)).ownsRow w.heap.size e size (.slice (some ⟨w.heap.size, 0, none⟩) n n) n (madeCells z (n * size)).toList :=
 World.ownsRow_lit w (madeCells z (n * size)) n (Nat.le_refl _) hn (by rw [size_madeCells])

end Go.Proofs.YtjjniapamdleoaaGreatDoor
