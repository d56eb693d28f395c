/- What is drawn: texts of a row, signs, rows of signs, names. -/
import Derived.Test.YtpnmmigoencbdaaDoorDraw2
import Derived.Test.YtpnmmigoencbdaaDoorSgn
namespace Go.Proofs.YtpnmmigoencbdaaDoor
open Go Go.RowKit

def nms1 : List ByteArray := [⟨#[97]⟩, ⟨#[65]⟩, ⟨#[98]⟩, ⟨#[195, 165]⟩, ⟨#[97, 204, 138]⟩, ⟨#[226, 132, 171]⟩, ⟨#[65, 204, 138]⟩, ⟨#[225, 186, 173]⟩, ⟨#[97, 204, 130, 204, 163]⟩, ⟨#[97, 204, 163, 204, 130]⟩, ⟨#[115, 115]⟩, ⟨#[195, 159]⟩, ⟨#[83, 83]⟩, ⟨#[207, 131]⟩, ⟨#[207, 130]⟩, ⟨#[206, 163]⟩, ⟨#[234, 176, 129]⟩, ⟨#[225, 132, 128, 225, 133, 161, 225, 134, 168]⟩, ⟨#[206, 172]⟩, ⟨#[206, 134]⟩, ⟨#[102, 105, 108, 101]⟩, ⟨#[70, 73, 76, 69]⟩, ⟨#[70, 105, 108, 101]⟩, ⟨#[120, 49]⟩, ⟨#[120, 50]⟩, ⟨#[120, 51]⟩, ⟨#[120, 52]⟩, ⟨#[120, 53]⟩, ⟨#[108, 111, 110, 103, 32, 110, 97, 109, 101]⟩]
def nms2 : List ByteArray := [⟨#[]⟩, ⟨#[46]⟩, ⟨#[46, 46]⟩, ⟨#[46, 46, 46]⟩, ⟨#[97, 47, 98]⟩, ⟨#[127]⟩, ⟨#[97, 98, 99, 100, 101, 102, 103, 104, 105, 106, 107, 108, 109, 110, 111, 112, 113, 114, 115, 116, 117, 118, 119, 120]⟩, ⟨#[97, 98, 99, 100, 101, 102, 103, 104, 105, 106, 107, 108, 109, 110, 111, 112, 113, 114, 115, 116, 117, 118, 119, 120, 121]⟩, ⟨#[255]⟩]
def sgs1 : List Int := [(97), (65), (98), (229), (197), (8491), (778), (803), (770), (807), (769), (7853), (7852), (7841), (470), (252), (115), (83), (223), (963), (962), (931), (940), (902), (8486), (1040), (1072), (44032), (44033), (4352), (4449), (4520), (231), (99), (55203), (255)]
def sgs2 : List Int := [(-1), (0), (31), (47), (127), (55204), (55296), (57343), (57344), (65535), (65536), (1114111), (1114112), (930), (256)]
theorem nms1_sz : ∀ t ∈ nms1, t.size ≤ 25 := by
  have h : nms1.all (fun t => decide (t.size ≤ 25)) = true := by decide +kernel
  intro t ht
  exact of_decide_eq_true (List.all_eq_true.1 h t ht)
theorem nms2_sz : ∀ t ∈ nms2, t.size ≤ 25 := by
  have h : nms2.all (fun t => decide (t.size ≤ 25)) = true := by decide +kernel
  intro t ht
  exact of_decide_eq_true (List.all_eq_true.1 h t ht)

theorem reads_lit (w : World) (cs : Array Value) (e : TypeId) (m : Nat) (hs : cs.size = m) : Reads (w.alloc (.cells cs e)) (w.alloc (.cells cs e)).heap.size 1 (some ⟨w.heap.size, 0, none⟩) m cs.toList := by
  have h := reads_new (w := w) cs e 1 m (by omega)
  exact h.more (by simp)

set_option maxHeartbeats 1000000 in
theorem l1Pick_any (g : Nat) (A : Option Addr) (n cp : Nat) (bs : List UInt8) (hn : n ≤ 9223372036854775806) (AL : Option Addr) (m cl : Nat) (xs : List ByteArray) (hm : 0 < m) (hm2 : m ≤ 1000000) (w : World) (h : Curs w g A n cp bs) (hl : Reads w w.heap.size 1 AL m (SS xs)) (hne : ∀ ad, AL = some ad → ad.block ≠ g) :
    Calls Tryd.prog 71 #[.pointer (some ⟨g, 0, none⟩), .slice AL m cl] w fun e w' => ∃ x : ByteArray, e = .returned (.string x) ∧ x ∈ xs ∧ Curs w' g A n cp bs ∧ w.grownBy w' (some g) := by
  have Hb := Lib.hid (fun W hW => l1Below_any g A n cp bs hn (m : Int) (by omega) W hW)
  have Hl := Lib.hid hl
  have Hne := Lib.hid hne
  clear hl hne
  go_enter Tryd.func71, Tryd.ntmps71
  go_wp2_with fail
  refine (Hb.out w h).mono ?_
  rintro e w1 ⟨x, rfl, _, hx, hc1, hg1⟩
  obtain ⟨hx0, hx1⟩ := hx (by omega)
  obtain ⟨k, rfl⟩ : ∃ k : Nat, x = (k : Int) := ⟨x.toNat, by omega⟩
  obtain ⟨hk', ad, rfl, hadb, hc⟩ := reads_str Hl.out (k := k) (by omega)
  have hz : w1.cell? (ad.add k) = some (.string xs[k]) := by
    rw [World.cell?_of_block (w := w) (hg1.block _ (by rw [add_blk]; exact hadb) (by rw [add_blk]; intro e; injection e with e; exact Hne.out ad rfl e))]
    exact hc
  go_wp2
  go_ret
  exact ⟨_, rfl, List.getElem_mem hk', hc1, hg1⟩

theorem gb_al {w w' : World} {g : Nat} {o : Obj} (h : (w.alloc o).grownBy w' (some g)) : w.grownBy w' (some g) := by
  refine ⟨h.os, h.tape, h.output, Nat.le_trans (by simp) h.size, fun i hi hn => (h.block i (by simp; omega) hn).trans (Below.heap_alloc w o i hi)⟩
set_option maxRecDepth 100000 in
set_option maxHeartbeats 2000000 in
theorem l3Some_any (g : Nat) (A : Option Addr) (n cp : Nat) (bs : List UInt8) (hn : n ≤ 9223372036854775806) (w : World) (h : Curs w g A n cp bs) :
    Calls Tryd.prog 84 #[.pointer (some ⟨g, 0, none⟩)] w fun e w' => ∃ x : Int, e = .returned (.int .i64 x) ∧ Curs w' g A n cp bs ∧ w.grownBy w' (some g) := by
  have Ho := Lib.hid (fun m hm W hW => l1Once_any g A n cp bs hn m hm W hW)
  have Hb := Lib.hid (fun m hm W hW => l1Below_any g A n cp bs hn m hm W hW)
  have hlt := h.lt
  go_enter Tryd.func84, Tryd.ntmps84
  go_wp2_with fail
  refine (l1PickInt_any g A n cp bs hn (some ⟨w.heap.size, 0, none⟩) 36 36 sgs1 (by omega) (by omega) _ (h.alloc _) (show Reads _ _ 1 _ _ _ from reads_lit w _ _ _ rfl) (fun ad e => by injection e with e; rw [← e]; simp only; omega)).mono ?_
  rintro e w1 ⟨x, rfl, _, hc1, hg1⟩
  have G1 := gb_al hg1
  go_wp2_with fail
  refine (Ho.out _ (by omega) w1 hc1).mono ?_
  rintro e w2 ⟨b, rfl, hc2, hg2⟩
  have G2 := G1.trans hg2
  cases b
  case true =>
    go_wp2_with fail
    refine (Hb.out _ (by omega) w2 hc2).mono ?_
    rintro e w3 ⟨y, rfl, _, hy, hc3, hg3⟩
    have hy2 := hy (by omega)
    go_wp2
    go_ret
    exact ⟨_, rfl, hc3, G2.trans hg3⟩
  case false =>
    go_wp2_with fail
    refine (Ho.out _ (by omega) w2 hc2).mono ?_
    rintro e w3 ⟨b, rfl, hc3, hg3⟩
    have G3 := G2.trans hg3
    have hlt3 := hc3.lt
    cases b
    case true =>
      go_wp2_with fail
      refine (l1PickInt_any g A n cp bs hn (some ⟨w3.heap.size, 0, none⟩) 15 15 sgs2 (by omega) (by omega) _ (hc3.alloc _) (show Reads _ _ 1 _ _ _ from reads_lit w3 _ _ _ rfl) (fun ad e => by injection e with e; rw [← e]; simp only; omega)).mono ?_
      rintro e w4 ⟨y, rfl, _, hc4, hg4⟩
      go_wp2
      go_ret
      exact ⟨_, rfl, hc4, G3.trans (gb_al hg4)⟩
    case false =>
      go_wp2
      go_ret
      exact ⟨_, rfl, hc3, G3⟩

end Go.Proofs.YtpnmmigoencbdaaDoor
