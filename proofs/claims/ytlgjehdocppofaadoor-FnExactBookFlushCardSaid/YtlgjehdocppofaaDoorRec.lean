/- Records: their texts, in both packages. -/
import Derived.Test.YtlgjehdocppofaaDoorNum
import Derived.Deep.RegionHeld3
namespace Go.Proofs.YtlgjehdocppofaaDoor
open Go Go.RowKit

/-- A text behind its sum. -/
def sumB (s : ByteArray) : ByteArray := fix4 (crcB s) ++ s
theorem sumB_size (s : ByteArray) : (sumB s).size = s.size + 4 := by rw [sumB, ByteArray.size_append, fix4_size]; omega

theorem summed_any (s : ByteArray) (hs : s.size ≤ 1000000000) (w : World) :
    Calls Tryd.prog 110 #[.string s] w fun e w' => e = .returned (.string (sumB s)) ∧ Below w.heap.size w w' := by
  have hb := crcB_bd s
  have hz := fix4_size (crcB s)
  go_enter Tryd.func110, Tryd.ntmps110
  go_wp2_with (first
    | (go_at_call 136; refine (crc_impl s hs _).mono ?_; rintro e w' ⟨rfl, rfl⟩)
    | (go_at_call 169; refine (fixed_impl _ hb.1 hb.2 _).mono ?_; rintro e w1 ⟨rfl, hb1⟩))
  go_ret
  exact ⟨rfl, hb1⟩

def recB (q : Int) (t : ByteArray) : ByteArray := str [114] ++ varB q ++ t
theorem recB_size (q : Int) (t : ByteArray) : (recB q t).size ≤ 8 + t.size := by
  have := varB_size q
  rw [recB, ByteArray.size_append, ByteArray.size_append, str_size, List.length_singleton]; omega
def showRecB (q : Int) (t : ByteArray) : ByteArray := if inI q 1 1000000 && decide (t.size ≤ 80) then sumB (recB q t) else str []

end Go.Proofs.YtlgjehdocppofaaDoor
