/- A path is drawn without a volume. -/
import Derived.Test.YtjjniapamdleoaaGreatDoorRPL20P
namespace Go.Proofs.YtjjniapamdleoaaGreatDoor
open Go Go.RowKit
set_option maxHeartbeats 4000000
set_option maxRecDepth 100000

theorem l20Path_none (g : Nat) (A : Option Addr) (n cp : Nat) (bs : List UInt8) (hn : n <= 9223372036854775806) (w : World) (h : Curs w g A n cp bs) :
  Calls Tryz.prog 46 #[.pointer (some ⟨g, 0, none⟩), .agg #[.int .i64 0, .slice none 0 0]] w fun e w' => ∃ s, e = .returned (.string s) /\ s.size <= 2000 /\ Curs w' g A n cp bs /\ w.grownBy w' (some g) := by
 have hgl := h.lt
 obtain ⟨w1, hW1⟩ : ∃ W, w.alloc (.cells #[.int .i64 0, .slice none 0 0] 26) = W := ⟨_, rfl⟩
 have a1 : Below w.heap.size w w1 := by rw [<- hW1]; exact belA (bel0 w) _
 have kV1 : Blk w1 w.heap.size 26 #[.int .i64 0, .slice none 0 0] := by rw [<- hW1]; exact Blk.new' _ _ _ _ rfl
 have C1 := h.below a1
 have G1 : w.grownBy w1 (some g) := gb_below (grown_refl _ _) a1
 have HW1 := Lib.hid hW1
 clear hW1 h a1
 have v_1 := kV1.get 1 rfl
 have hlt2 := C1.lt
 go_enter Tryz.func46, Tryz.ntmps46
 have Z1 : Hid (w.heap.size + 1 = w1.heap.size) := Lib.hid (by rw [<- HW1.out]; simp)
 go_wp2_with fail
 rw [HW1.out, Z1.out]
 clear HW1
 refine (l1Pick_any g A n cp bs hn (some ⟨w1.heap.size, 0, none⟩) 10 10 pths (by omega) (by omega) _ (C1.alloc _) (show Reads _ _ 1 _ _ _ from reads_lit w1 _ _ _ rfl) (fun ad e => by injection e with e; rw [<- e]; simp only; omega)).mono ?_
 rintro e wn ⟨s, rfl, hs, Cn, gn⟩
 have hs25 := pths_sz s hs
 go_wp2
 go_ret
 exact ⟨_, rfl, by omega, Cn, G1.trans (gb_al gn)⟩

def dots : List ByteArray := [⟨#[]⟩, ⟨#[46]⟩, ⟨#[46, 46]⟩, ⟨#[120]⟩]
theorem dots_sz : ∀ t ∈ dots, t.size <= 2 := by
 have h : dots.all (fun t => decide (t.size <= 2)) = true := by decide +kernel
 intro t ht
 exact of_decide_eq_true (List.all_eq_true.1 h t ht)
def szOf : Value -> Nat
 | .string s => s.size
 | _ => 0

theorem drawSplitPath_any (A : Option Addr) (n cp : Nat) (bs : List UInt8) (hn : n <= 9223372036854775000) (w : World) (hr : Reads w w.heap.size 1 A n (B8 bs)) :
  Calls Tryz.prog 24 #[.slice A n cp] w fun e w' => ∃ s : ByteArray, e = .returned (.string s) /\ s.size <= 2000 /\ Below w.heap.size w w' := by
 go_enter Tryz.func24, Tryz.ntmps24
 go_wp2_with fail
 refine (l1New_any A n cp bs (by omega) w hr).mono ?_
 rintro e w2 ⟨g, rfl, hg, C2, B2⟩
 clear hr
 go_wp2_with fail
 refine (l20Path_none g A n cp bs (by omega) w2 C2).mono ?_
 rintro e w3 ⟨s, rfl, hs, C3, g3⟩
 have B3 := belG B2 g3 hg
 clear C2 B2 g3
 go_wp2_with fail
 refine (l1Once_any g A n cp bs (by omega) 2 (by omega) w3 C3).mono ?_
 rintro e w4 ⟨b, rfl, C4, g4⟩
 have B4 := belG B3 g4 hg
 clear C3 B3 g4
 cases b
 ·skip
  go_wp2_with fail
  refine (l1Once_any g A n cp bs (by omega) 30 (by omega) w4 C4).mono ?_
  rintro e w8 ⟨b8, rfl, C8, g8⟩
  have B8 := belG B4 g8 hg
  clear C4 B4 g8 C8
  cases b8
  ·go_wp2
   go_ret
   exact ⟨_, rfl, by omega, B8⟩
  go_wp2
  go_loopw [4] (fun x wr => ∃ t : ByteArray, x = .string t /\ t.size <= 2000 /\ Below w8.heap.size w8 wr) (fun x _ => 3000 - szOf x)
  case atStart => exact ⟨_, rfl, by omega, Below.refl _ _⟩
  have Zz := Lib.hid (show (⟨#[47, 97]⟩ : ByteArray).size = 2 from rfl)
  case round =>
   obtain ⟨t, rfl, ht, hb⟩ := hrel
   by_cases hlt : (t.size : Int) < 200
   ·have u : ¬ 9223372036854775807 < t.size + 2 := by omega
    go_wp2
    go_roundw
    case rel => exact ⟨_, rfl, by rw [ByteArray.size_append, Zz.out]; omega, hb⟩
    case measure => show 3000 - (t ++ ⟨#[47, 97]⟩).size < 3000 - t.size; rw [ByteArray.size_append, Zz.out]; omega
   ·go_wp2
    go_ret
    exact ⟨_, rfl, ht, belN B8 hb⟩
 go_wp2_with fail
 refine (l4Name_any g A n cp bs (by omega) w4 C4).mono ?_
 rintro e w5 ⟨n1, rfl, hn1, C5, g5⟩
 have B5 := belG B4 g5 hg
 clear C4 B4 g5
 have u1 : ¬ 9223372036854775807 < 1 + n1.size := by omega
 have u2 : ¬ 9223372036854775807 < 1 + n1.size + 1 := by omega
 have hlt5 := C5.lt
 go_wp2_with fail
 refine (l1Pick_any g A n cp bs (by omega) (some ⟨w5.heap.size, 0, none⟩) 4 4 dots (by omega) (by omega) _ (C5.alloc _) (show Reads _ _ 1 _ _ _ from reads_lit w5 _ _ _ rfl) (fun ad e => by injection e with e; rw [<- e]; simp only; omega)).mono ?_
 rintro e w6 ⟨d, rfl, hd, C6, g6⟩
 have hd2 := dots_sz d hd
 have B6 := belG B5 (gb_al g6) hg
 clear C5 B5 g6 hd u1 u2
 have u3 : ¬ 9223372036854775807 < 1 + n1.size + 1 + d.size := by omega
 have u4 : ¬ 9223372036854775807 < 1 + n1.size + 1 + d.size + 1 := by omega
 go_wp2_with fail
 refine (l4Name_any g A n cp bs (by omega) w6 C6).mono ?_
 rintro e w7 ⟨n2, rfl, hn2, C7, g7⟩
 have B7 := belG B6 g7 hg
 clear C6 B6 g7 u3 u4
 have u5 : ¬ 9223372036854775807 < 1 + n1.size + 1 + d.size + 1 + n2.size := by omega
 have hz : (⟨#[47]⟩ ++ n1 ++ ⟨#[47]⟩ ++ d ++ ⟨#[47]⟩ ++ n2 : ByteArray).size <= 2000 := by
  have z1 : (⟨#[47]⟩ : ByteArray).size = 1 := rfl
  simp only [ByteArray.size_append, z1]
  omega
 go_wp2_with fail
 refine (l1Once_any g A n cp bs (by omega) 30 (by omega) w7 C7).mono ?_
 rintro e w8 ⟨b8, rfl, C8, g8⟩
 have B8 := belG B7 g8 hg
 clear C7 B7 g8 C8
 cases b8
 ·go_wp2
  go_ret
  exact ⟨_, rfl, hz, B8⟩
 go_wp2
 go_loopw [4] (fun x wr => ∃ t : ByteArray, x = .string t /\ t.size <= 2000 /\ Below w8.heap.size w8 wr) (fun x _ => 3000 - szOf x)
 case atStart => exact ⟨_, rfl, hz, Below.refl _ _⟩
 have Zz := Lib.hid (show (⟨#[47, 97]⟩ : ByteArray).size = 2 from rfl)
 case round =>
  obtain ⟨t, rfl, ht, hb⟩ := hrel
  by_cases hlt : (t.size : Int) < 200
  ·have u : ¬ 9223372036854775807 < t.size + 2 := by omega
   go_wp2
   go_roundw
   case rel => exact ⟨_, rfl, by rw [ByteArray.size_append, Zz.out]; omega, hb⟩
   case measure => show 3000 - (t ++ ⟨#[47, 97]⟩).size < 3000 - t.size; rw [ByteArray.size_append, Zz.out]; omega
  ·go_wp2
   go_ret
   exact ⟨_, rfl, ht, belN B8 hb⟩

end Go.Proofs.YtjjniapamdleoaaGreatDoor
