/- Rows of texts: sizes, copies, what a law's argument of them is. -/
import Derived.Test.YtghgafbfpejinaaGreatDoorRRecs
import Derived.Test.YtghgafbfpejinaaGreatDoorRFrame
import Derived.Deep.Slices
namespace Go.Proofs.YtghgafbfpejinaaGreatDoor
open Go Go.RowKit Go.WideShapes Go.ChangeShapes Go.Deep

/-- How much texts have of the size. -/
def szT (l : List ByteArray) : Nat := l.length + (l.map fun e => e.size).sum
theorem szT_len (l : List ByteArray) : l.length ≤ szT l := by unfold szT; omega
theorem szT_mem (l : List ByteArray) (s : ByteArray) (h : s ∈ l) : s.size ≤ szT l := by
 have : ∀ (l : List ByteArray), s ∈ l → s.size ≤ (l.map fun e => e.size).sum := by
  intro l
  induction l with
  | nil => intro h; cases h
  | cons a l ih =>
   intro h
   rcases List.mem_cons.1 h with rfl | h
   ·simp
   ·have := ih h; simp; omega
 have := this l h
 unfold szT; omega

theorem make_any {P : Program} (t e : TypeId) (z : Value) (size bytes : Nat) (ht : P.underlying t = some (.slice e)) (hinfo : (P.info? e).map (fun i => (i.zero, i.size, i.bytes)) = some (some z, size, bytes))
  (n : Nat) (hbytes : bytes * n ≤ 281474976710656) (h63 : n ≤ 9223372036854775807) (w : World) :
  (Instr.makeSlice t (.int .i64 (n : Int)) (.int .i64 (n : Int))).run P w = .ok (.slice (some ⟨w.heap.size, 0, none⟩) n n) (w.alloc (.cells (madeCells z.cells (n * size)) e)) := by
 obtain ⟨i, hi, hzz⟩ := Option.map_eq_some_iff.1 hinfo
 simp only [Prod.mk.injEq] at hzz
 obtain ⟨hz, hs, hb⟩ := hzz
 have hb' : (i.bytes : Int) * (n : Int) ≤ 281474976710656 := by
  have h : ((i.bytes * n : Nat) : Int) ≤ 281474976710656 := by rw [hb]; omega
  rwa [Int.natCast_mul] at h
 have hr := run_make (P := P) w t e i z ht hi hz .i64 .i64 n n (by omega) (Int.le_refl _) hb' (by omega)
 simp only [Int.toNat_natCast, hs] at hr
 exact hr
section
variable {H : Type} {enc : TypeId × Value → H} {w : World} {base : Nat} {spare : Nat → Bool} {held : Bool}
end

end Go.Proofs.YtghgafbfpejinaaGreatDoor
