/- Bytes put into a block: the walks of both sides. -/
import Derived.Test.YtajgenjfhcapjaaFwCp
namespace Go.Proofs.Ytajgenjfhcapjaa
open Go Go.RowKit

/-- A block with bytes from a place on. -/
def intoB (t : ByteArray) (a : Nat) (d : ByteArray) : ByteArray := t.extract 0 a ++ d ++ t.extract (a + d.size) t.size
theorem intoB_size {t d : ByteArray} {a : Nat} (h : a + d.size ≤ t.size) : (intoB t a d).size = t.size := by
  unfold intoB
  rw [ByteArray.size_append, ByteArray.size_append, ByteArray.size_extract, ByteArray.size_extract]
  omega

set_option maxRecDepth 100000 in
set_option maxHeartbeats 1000000 in
theorem into_spec (t d : ByteArray) (a : Nat) (ht : t.size = 4) (ha : a + d.size ≤ 4) (w : World) :
    Calls Try.prog 26 #[.string t, .int .i64 a, .string d] w fun e w' => e = .returned (.string (intoB t a d)) ∧ Below w.heap.size w w' := by
  have p0 : (0 : Int) ≤ (a : Int) := by omega
  have p1 : (a : Int) ≤ (t.size : Int) := by omega
  have p1n : a ≤ t.size := by omega
  have wz : IntKind.i64.wrap ((a : Int) + (d.size : Int)) = (a : Int) + (d.size : Int) := by rw [IntKind.wrap_i64]; omega
  have p2 : (0 : Int) ≤ (a : Int) + (d.size : Int) := by omega
  have p3 : (a : Int) + (d.size : Int) ≤ (t.size : Int) := by omega
  have p4 : ((a : Int) + (d.size : Int)).toNat = a + d.size := by omega
  have p5 : a + d.size ≤ t.size := by omega
  have z1 : (t.extract 0 a).size = a := by rw [ByteArray.size_extract]; omega
  have z2 : (t.extract 0 a ++ d).size = a + d.size := by rw [ByteArray.size_append, z1]
  have z3 : (t.extract (a + d.size) t.size).size = t.size - (a + d.size) := by rw [ByteArray.size_extract]; omega
  have Ht := Lib.hid ht
  have tle : t.size ≤ 4 := by omega
  clear ht
  go_enter Try.func26, Try.ntmps26
  go_wp2_with fail
  go_quiet (fail)
  go_wp2
  go_ret
  exact ⟨by first | rfl | (unfold intoB; rfl), below_drewN (bel0 w) _⟩

theorem own_cellS {w : World} {base n g c : Nat} {ds : List ByteArray} (h : w.ownsRow base 9 1 (.slice (some ⟨g, 0, none⟩) n c) n (SS ds)) {b : Nat} (hb : b < ds.length) : w.cell? ⟨g, b, none⟩ = some (.string ds[b]) := by
  have hl : ds.length = n := by have := h.1; rw [SS_length] at this; omega
  rw [h.cellAt b (by omega)]; exact SS_get _ _ hb
theorem SS_put (l : List ByteArray) (k : Nat) (x : ByteArray) : (SS l).set k (.string x) = SS (l.set k x) := by unfold SS; rw [List.map_set]

set_option maxRecDepth 100000 in
set_option maxHeartbeats 1000000 in
theorem store_any (gO g2 c1 c2 : Nat) (A1 : Option Addr) (n1 : Nat) (ds : List ByteArray) (b a base : Nat) (d : ByteArray) (hl : ds.length = 24) (hb : b < 24) (ht : (ds[b]'(by omega)).size = 4) (ha : a + d.size ≤ 4) (w : World)
    (hO : Blk w gO 31 #[.slice A1 n1 c1, .slice (some ⟨g2, 0, none⟩) 24 c2]) (hown : w.ownsRow base 9 1 (.slice (some ⟨g2, 0, none⟩) 24 c2) 24 (SS ds)) :
    Calls Try.prog 38 #[.pointer (some ⟨gO, 0, none⟩), .int .i64 b, .int .i64 a, .string d] w fun e w' => e = .returned (.tuple #[]) ∧ w'.ownsRow base 9 1 (.slice (some ⟨g2, 0, none⟩) 24 c2) 24 (SS (ds.set b (intoB (ds[b]'(by omega)) a d))) ∧ w.grownBy w' (some g2) := by
  have hbl : b < ds.length := by omega
  obtain ⟨t, hte⟩ : ∃ t, ds[b]'hbl = t := ⟨_, rfl⟩
  have cb := own_cellS hown hbl
  simp only [hte] at ht cb ⊢
  have p0 : (0 : Int) ≤ (a : Int) := by omega
  have p1 : (a : Int) ≤ (t.size : Int) := by omega
  have p1n : a ≤ t.size := by omega
  have wz : IntKind.i64.wrap ((a : Int) + (d.size : Int)) = (a : Int) + (d.size : Int) := by rw [IntKind.wrap_i64]; omega
  have p2 : (0 : Int) ≤ (a : Int) + (d.size : Int) := by omega
  have p3 : (a : Int) + (d.size : Int) ≤ (t.size : Int) := by omega
  have p4 : ((a : Int) + (d.size : Int)).toNat = a + d.size := by omega
  have p5 : a + d.size ≤ t.size := by omega
  have z1 : (t.extract 0 a).size = a := by rw [ByteArray.size_extract]; omega
  have z2 : (t.extract 0 a ++ d).size = a + d.size := by rw [ByteArray.size_append, z1]
  have z3 : (t.extract (a + d.size) t.size).size = t.size - (a + d.size) := by rw [ByteArray.size_extract]; omega
  have tle : t.size ≤ 4 := by omega
  have n1' : ¬ (9223372036854775807 < a + d.size) := by omega
  have n2' : ¬ (9223372036854775807 < t.size) := by omega
  have b0 : (0 : Int) ≤ (b : Int) := by omega
  have b1 : (b : Int) < 24 := by omega
  have x1 := hO.get (x := .slice (some ⟨g2, 0, none⟩) 24 c2) 1 rfl
  have lO := hO.lt
  have fb := own_frozen hown b
  have lg := (own_ltX hown).2
  have own2 := own_set hown b (.string (intoB t a d))
  rw [SS_put] at own2
  have Own2 := Lib.hid (show (w.setCell ⟨g2, b, none⟩ (.string (t.extract 0 a ++ d ++ t.extract (a + d.size) t.size))).ownsRow base 9 1 (.slice (some ⟨g2, 0, none⟩) 24 c2) 24 (SS (ds.set b (intoB t a d))) from own2)
  have HG := Lib.hid (only_sc (only_drew (grown_refl w (some g2))) b (.string (t.extract 0 a ++ d ++ t.extract (a + d.size) t.size)))
  have Ht := Lib.hid ht
  clear own2 hown hO ht hte
  go_enter Try.func38, Try.ntmps38
  go_wp2_with fail
  go_still_tail 17, (by kernel_rfl)
  change wpList _ _ _ _ _ w.drew
  go_wp2
  refine bodyPost_end (v := .tuple #[]) (by simp [results, Try.results38, go_sem]) rfl ⟨rfl, ?_, ?_⟩
  · exact Own2.out
  · exact HG.out

end Go.Proofs.Ytajgenjfhcapjaa
