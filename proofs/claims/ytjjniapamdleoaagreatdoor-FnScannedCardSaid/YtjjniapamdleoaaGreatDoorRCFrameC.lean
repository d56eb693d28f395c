/- A row of bytes as a law's argument (no volumes in sight). -/
import Derived.Test.YtjjniapamdleoaaGreatDoorRCFrame
import Derived.Test.YtjjniapamdleoaaGreatDoorRCDraw
import Derived.ChangeSlices
namespace Go.Proofs.YtjjniapamdleoaaGreatDoor
open Go Go.RowKit Go.WideShapes Go.ChangeShapes Go.Deep
set_option maxRecDepth 100000

theorem add_blk0 (ad : Addr) (k : Nat) : (ad.add k).block = ad.block := by unfold Addr.add; split <;> rfl
theorem Tryz.oneb : Tryz.prog.cellsOf 5 = 1 := by kernel_rfl
section
variable {H : Type} {enc : TypeId × Value -> H} {w : World} {base : Nat} {spare : Nat -> Bool} {held : Bool}
theorem open_bytes_is {r : Reach} {b0 : Nat} {v : Value} {d : DataW H} {p : List MemPlace} (hv : Value.okWide Tryz.prog w r b0 22 v) (h : DataW.Trod enc Tryz.prog w base spare held 22 v d p) :
  ∃ (A : Option Addr) (n cp : Nat) (bs : List UInt8), v = .slice A n cp /\ n <= 9223372036854775807 /\ Reads w w.heap.size 1 A n (B8 bs) := by
 obtain ⟨A2, n2, c2, rfl⟩ := okWide_slice Tryz.underlying22 hv
 obtain ⟨fuel, hf⟩ := h
 rcases open_ints Tryz.underlying22 Tryz.underlying5 Tryz.oneb hf with ⟨h1, _⟩ | ⟨a, len, cap, zs, h1, hb, hl, hm, hzl, _, hcell, hwf⟩
 ·simp [Value.cells] at h1
  obtain ⟨rfl, rfl, rfl⟩ := h1
  exact ⟨none, 0, 0, [], rfl, by omega, Reads.none_⟩
 ·simp [Value.cells] at h1
  obtain ⟨rfl, rfl, rfl⟩ := h1
  have hlz : n2 <= zs.length := by rw [hzl]; split <;> omega
  refine ⟨some a, n2, c2, (zs.take n2).map fun z => UInt8.ofNat z.toNat, rfl, by unfold maxLen at hm; omega, by simp [B8]; omega, fun hn => ⟨a, rfl, ?_, fun j u hu => ?_⟩⟩
  ·have h0 := hcell 0 (by omega)
   have h1 := World.block_lt_of_cell? _ _ h0
   rwa [add_blk0] at h1
  ·have hj : j < n2 := by
    have := (List.getElem?_eq_some_iff.1 hu).1
    simp [B8] at this; omega
   have hz := hwf (zs[j]'(by omega)) (List.getElem_mem _)
   unfold Lit.wf at hz
   rw [Bool.and_eq_true] at hz
   have z0 : 0 <= zs[j]'(by omega) := of_decide_eq_true hz.1
   have z1 : zs[j]'(by omega) <= 255 := of_decide_eq_true hz.2
   have hc := hcell j (by omega)
   rw [show zs.getD j 0 = zs[j]'(by omega) by simp [List.getD, show j < zs.length by omega]] at hc
   rw [hc, <- hu]
   simp only [B8, List.map_map, List.getElem?_map, List.getElem?_take_of_lt hj, List.getElem?_eq_getElem (show j < zs.length by omega), Option.map_some, Function.comp_def]
   rw [toNat_ofNat _ (by omega)]
   congr 2
   omega
end

end Go.Proofs.YtjjniapamdleoaaGreatDoor
