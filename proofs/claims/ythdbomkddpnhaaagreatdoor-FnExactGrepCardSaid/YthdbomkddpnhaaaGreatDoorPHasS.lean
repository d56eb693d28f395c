/- strings.Contains at this program's own place, and l28Has of the reference: does a text have another in it? -/
import Derived.Test.YthdbomkddpnhaaaGreatDoorPSgn
import Derived.Lib.IndexMore
import Derived.Lib.IndexBytes
import Derived.Test.YthdbomkddpnhaaaGreatDoorPStrs
import Derived.Shelf.Strings.Search3
import Derived.Shelf.Vars
namespace Go.Proofs.YthdbomkddpnhaaaGreatDoor
open Go Go.RowKit

/-- Does s have p in it? -/
def hasB (p s : ByteArray) : Bool := Lib.contains s.data.toList p.data.toList
theorem has_yes {p s : ByteArray} {i : Nat} (hi : i + p.size ≤ s.size) (h : Lib.occAt s.data.toList p.data.toList i = true) : hasB p s = true := by
 unfold hasB Lib.contains
 rcases Lib.index_spec s.data.toList p.data.toList with ⟨_, h2⟩ | ⟨j, h1, _⟩
 ·have h3 := h2 i (by rw [Array.length_toList]; have : s.data.size = s.size := rfl; omega)
  rw [h] at h3; cases h3
 ·rw [h1]; simp
theorem has_no {p s : ByteArray} (hn : ∀ i, i + p.size ≤ s.size → Lib.occAt s.data.toList p.data.toList i = false) : hasB p s = false := by
 unfold hasB Lib.contains
 rcases Lib.index_spec s.data.toList p.data.toList with ⟨h1, _⟩ | ⟨j, h1, h2, h3, _⟩
 ·rw [h1]; simp
 ·exfalso
  have h4 : j + p.size ≤ s.size := by
   have e1 : s.data.toList.length = s.size := by rw [Array.length_toList]; rfl
   have e2 : p.data.toList.length = p.size := by rw [Array.length_toList]; rfl
   rcases Lib.occAt_room h3 with h | h
   ·omega
   ·rw [h] at e2; simp at e2; omega
  rw [hn j h4] at h3; cases h3
/-- The world holds the table, and the named variable holds some number. -/
structure TabM (w : World) : Prop where
 tab : Tab w
 pos : 1 < w.heap.size
 cell : ∃ m, w.cell? ⟨1, 0, none⟩ = some (.int .i64 m)
theorem TabM.bl {w w' : World} (h : TabM w) (hb : Below w.heap.size w w') : TabM w' :=
 ⟨h.tab.bl hb, Nat.lt_of_lt_of_le h.pos hb.size, by obtain ⟨m, hm⟩ := h.cell; exact ⟨m, by rw [hb.cell (p := ⟨1, 0, none⟩) h.pos]; exact hm⟩⟩
theorem TabM.al {w : World} (h : TabM w) (o : Obj) : TabM (w.alloc o) := h.bl (belA (bel0 w) o)

def Tryz.lays144_ren : Go.Shelf.Ren := ⟨fun | 144 => 110 | 143 => 186 | 219 => 253 | 217 => 302 | 225 => 303 | 224 => 304 | 267 => 305 | 266 => 323 | 314 => 324 | n => n, fun | 9 => 9 | 4 => 4 | 3 => 3 | 5 => 5 | 46 => 166 | 146 => 280 | 51 => 239 | n => n, fun | 1 => 1 | n => n⟩
theorem Tryz.lays144 : Go.Proofs.Lays.n144 Tryz.prog Tryz.lays144_ren where
 mixed := by kernel_rfl
 f143 := Tryz.func186.trans (congrArg some (by kernel_rfl))
 f144 := Tryz.func110.trans (congrArg some (by kernel_rfl))
 f217 := Tryz.func302.trans (congrArg some (by kernel_rfl))
 f219 := Tryz.func253.trans (congrArg some (by kernel_rfl))
 f224 := Tryz.func304.trans (congrArg some (by kernel_rfl))
 f225 := Tryz.func303.trans (congrArg some (by kernel_rfl))
 f266 := Tryz.func323.trans (congrArg some (by kernel_rfl))
 f267 := Tryz.func305.trans (congrArg some (by kernel_rfl))
 f314 := Tryz.func324.trans (congrArg some (by kernel_rfl))
 t3 := Tryz.underlying3
 a3 := Tryz.isAgg3
 z3 := Tryz.sizeOf3
 v3 := Tryz.zeroValue3
 t4 := Tryz.underlying4
 a4 := Tryz.isAgg4
 z4 := Tryz.sizeOf4
 v4 := Tryz.zeroValue4
 t5 := Tryz.underlying5
 a5 := Tryz.isAgg5
 z5 := Tryz.sizeOf5
 v5 := Tryz.zeroValue5
 t9 := Tryz.underlying9
 a9 := Tryz.isAgg9
 z9 := Tryz.sizeOf9
 v9 := Tryz.zeroValue9
 t46 := Tryz.underlying166
 a46 := Tryz.isAgg166
 z46 := Tryz.sizeOf166
 v46 := Tryz.zeroValue166
 t51 := Tryz.underlying239
 a51 := Tryz.isAgg239
 z51 := Tryz.sizeOf239
 v51 := Tryz.zeroValue239
 t146 := Tryz.underlying280
 a146 := Tryz.isAgg280
 z146 := Tryz.sizeOf280
 v146 := Tryz.zeroValue280
 g1 := by kernel_rfl

theorem contains_any (s p : ByteArray) (hs : s.size ≤ 2000000) (w : World) (hT : TabM w) :
  Calls Tryz.prog 110 #[.string s, .string p] w fun e w' => e = .returned (.bool (hasB p s)) ∧ w' = w := by
 obtain ⟨m, hm⟩ := hT.cell
 exact Any.strings_Contains Tryz.lays144 s p m w (by omega) hm
theorem maxLen_cell (w : World) (h : w.ShapedOpen Tryz.prog) : ∃ m, w.cell? ⟨1, 0, none⟩ = some (.int .i64 m) :=
 cell_of_shapedOpen_int (zero := #[.int .i64 0]) (t := 3) h (of_decide_eq_true (by kernel_rfl)) (by kernel_rfl) rfl (by kernel_rfl) (by kernel_rfl) Tryz.underlying3
theorem TabM.of {w : World} (hT : Tab w) (h : w.ShapedOpen Tryz.prog) : TabM w := by
 have hm := maxLen_cell w h
 refine ⟨hT, ?_, hm⟩
 obtain ⟨m, hm⟩ := hm
 have h2 := World.block_lt_of_cell? _ _ hm
 exact h2

set_option maxRecDepth 100000 in
set_option maxHeartbeats 1000000 in
theorem l28Has_any (s p : ByteArray) (hs : s.size ≤ 2000000) (hp : p.size ≤ 2000000) (w : World) :
  Calls Tryz.prog 178 #[.string s, .string p] w fun e w' => e = .returned (.bool (hasB p s)) ∧ Below w.heap.size w w' := by
 go_enter Tryz.func178, Tryz.ntmps178
 go_wp2
 go_loopw [5] (fun i wr => ∃ q : Nat, q ≤ s.size + 1 ∧ i = .int .i64 q ∧ (∀ j, j < q → j + p.size ≤ s.size → Lib.occAt s.data.toList p.data.toList j = false) ∧ Below w.heap.size w wr)
  (fun i _ => s.size + 1 - (intOf i).toNat)
 case atStart => exact ⟨0, by omega, rfl, fun j h => absurd h (Nat.not_lt_zero _), bel0 w⟩
 case round =>
  obtain ⟨q, hq, rfl, hno, hbel⟩ := hrel
  have Hno := Lib.hid hno
  clear hno
  have w1 : IntKind.i64.wrap ((q : Int) + (p.size : Int)) = (q : Int) + (p.size : Int) := by rw [IntKind.wrap_i64]; omega
  by_cases hlt : q + p.size ≤ s.size
  ·have q1 : (q : Int) + (p.size : Int) ≤ (s.size : Int) := by omega
   have q2 : (0 : Int) ≤ (q : Int) := by omega
   have q3 : (q : Int) ≤ (q : Int) + (p.size : Int) := by omega
   have hoc := Lib.occ_of_piece s p q hlt
   cases ho : ((s.extract q (q + p.size)).toList == p.toList)
   ·rw [ho] at hoc
    have Hn := Lib.hid (fun j (hj : j < q + 1) (hp2 : j + p.size ≤ s.size) => show Lib.occAt s.data.toList p.data.toList j = false by
     by_cases h : j = q
     ·rw [h]; exact hoc
     ·exact Hno.out j (by omega) hp2)
    clear hoc Hno
    go_wp2
    first
     | exact ⟨⟨q + 1, by omega, by go_num, Hn.out, hbel⟩, by simp [intOf]; omega⟩
     | (go_roundw; case rel => exact ⟨q + 1, by omega, by go_num, Hn.out, hbel⟩; case measure => (simp [intOf]; omega))
   ·rw [ho] at hoc
    have Hf := Lib.hid (has_yes hlt hoc)
    clear hoc Hno
    go_wp2
    go_ret
    exact ⟨by rw [Hf.out]; rfl, hbel⟩
  ·have q1 : ¬ ((q : Int) + (p.size : Int) ≤ (s.size : Int)) := by omega
   have Hf := Lib.hid (has_no (p := p) (s := s) fun i hi => Hno.out i (by omega) hi)
   go_wp2
   go_ret
   exact ⟨by rw [Hf.out]; rfl, hbel⟩

end Go.Proofs.YthdbomkddpnhaaaGreatDoor

