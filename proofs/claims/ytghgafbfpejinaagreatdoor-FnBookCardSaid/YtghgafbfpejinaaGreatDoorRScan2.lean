/- The reader's methods many and piece, and l7Take. -/
import Derived.Test.YtghgafbfpejinaaGreatDoorRBase
namespace Go.Proofs.YtghgafbfpejinaaGreatDoor
open Go Go.RowKit

/-- Reading a count that is not too great. -/
def scM (R : ByteArray) (b : Bool) (m : Int) : Int × ByteArray × Bool :=
 if (scN R b).2.2 = true ∨ m < (scN R b).1 then (0, (scN R b).2.1, true) else ((scN R b).1, (scN R b).2.1, false)
/-- Reading a piece. -/
def scP (R : ByteArray) (b : Bool) : ByteArray × ByteArray × Bool := scC (scN R b).2.1 (scN R b).2.2 (scN R b).1
theorem scN_small (R : ByteArray) (b : Bool) : (scN R b).2.1.size ≤ R.size ∧ 0 ≤ (scN R b).1 ∧ (scN R b).1 < 562949953421312 ∧ ((scN R b).2.2 = true → (scN R b).1 = 0) := by
 have hle := rvB_le R
 unfold scN
 split
 ·simp
 ·simp only [dropB_size]
  refine ⟨by omega, by omega, by omega, fun h => by simp at h⟩
theorem scC_small (R : ByteArray) (b : Bool) (n : Int) : (scC R b n).2.1.size ≤ R.size ∧ (scC R b n).1.size ≤ R.size := by
 unfold scC
 split
 ·simp [str_size]
 ·exact ⟨by simp only [dropB_size]; omega, takeB_le _ _⟩

set_option maxRecDepth 100000 in
set_option maxHeartbeats 1000000 in
theorem many_any (g : Nat) (R : ByteArray) (b : Bool) (m : Int) (hm : 0 ≤ m) (hR : R.size ≤ 1000000000) (w : World) (hb : Blk w g 91 #[.string R, .bool b]) :
  Calls Tryz.prog 70 #[.pointer (some ⟨g, 0, none⟩), .int .i64 m] w fun e w' =>
   e = .returned (.int .i64 (scM R b m).1) ∧ Blk w' g 91 #[.string (scM R b m).2.1, .bool (scM R b m).2.2] ∧ w.grownBy w' (some g) := by
 have hsm := scN_small R b
 obtain ⟨n, R1, b1, h⟩ : ∃ n R1 b1, scN R b = (n, R1, b1) := ⟨_, _, _, rfl⟩
 have Hs := Lib.hid (show scM R b m = if b1 = true ∨ m < n then (0, R1, true) else (n, R1, false) by unfold scM; rw [h])
 have H := Lib.hid h
 rw [h] at hsm
 obtain ⟨_, hn0, _, hnb⟩ := hsm
 simp only at hn0 hnb
 clear h
 go_enter Tryz.func70, Tryz.ntmps70
 go_wp2_with fail
 refine (num_any g R b hR _ hb).mono ?_
 rw [H.out]
 rintro e w1 ⟨rfl, hB1, hg1⟩
 simp only at hB1 ⊢
 have c1 := hB1.c1
 have f1 := hB1.frozen 1
 by_cases hmn : m < n
 ·have Hmn := Lib.hid hmn
  go_wp2_with fail
  go_ret
  refine ⟨ret_int (by rw [Hs.out, if_pos (.inr Hmn.out)]), ?_, only_setCell hg1 (.inl rfl) _⟩
  rw [Hs.out, if_pos (.inr Hmn.out)]
  exact hB1.s1 _
 ·cases b1
  ·go_wp2_with fail
   go_ret
   refine ⟨ret_int (by rw [Hs.out, if_neg (by simp; omega)]), ?_, hg1⟩
   rw [Hs.out, if_neg (by simp; omega)]
   exact hB1
  ·go_wp2_with fail
   go_ret
   refine ⟨ret_int (by rw [Hs.out, if_pos (by simp)]), ?_, hg1⟩
   rw [Hs.out, if_pos (by simp)]
   exact hB1

set_option maxRecDepth 100000 in
set_option maxHeartbeats 1000000 in
theorem pieceR_any (g : Nat) (R : ByteArray) (b : Bool) (hR : R.size ≤ 1000000000) (w : World) (hb : Blk w g 91 #[.string R, .bool b]) :
  Calls Tryz.prog 71 #[.pointer (some ⟨g, 0, none⟩)] w fun e w' =>
   e = .returned (.string (scP R b).1) ∧ Blk w' g 91 #[.string (scP R b).2.1, .bool (scP R b).2.2] ∧ w.grownBy w' (some g) := by
 have hsm := scN_small R b
 obtain ⟨n, R1, b1, h⟩ : ∃ n R1 b1, scN R b = (n, R1, b1) := ⟨_, _, _, rfl⟩
 have Hs := Lib.hid (show scP R b = scC R1 b1 n by unfold scP; rw [h])
 have H := Lib.hid h
 rw [h] at hsm
 obtain ⟨_, hn0, _, hnb⟩ := hsm
 simp only at hn0 hnb
 clear h
 go_enter Tryz.func71, Tryz.ntmps71
 go_wp2_with fail
 refine (num_any g R b hR _ hb).mono ?_
 rw [H.out]
 rintro e w1 ⟨rfl, hB1, hg1⟩
 simp only at hB1 ⊢
 go_wp2_with fail
 refine (cut_any g R1 b1 n _ hB1).mono ?_
 rw [← Hs.out]
 rintro e w2 ⟨rfl, hB2, hg2⟩
 go_wp2_with fail
 go_ret
 exact ⟨rfl, hB2, gb_trans hg1 hg2⟩

/-- A piece at a place and where it ends. -/
def takeAt (s : ByteArray) (a : Int) : Option (ByteArray × Int) :=
 match varsAt s.data.toList 1 a with
 | some ([n], k) => if (n : Int) ≤ s.size - k then some (s.extract k.toNat (k.toNat + n), k + n) else none
 | _ => none
theorem own_cel1 {w : World} {base : Nat} {e : TypeId} {v : Value} {x : Nat} (h : w.ownsRow base e 1 v 1 (I64 [x])) : ∃ g c, v = .slice (some ⟨g, 0, none⟩) 1 c ∧ base ≤ g ∧ w.cell? ⟨g, 0, none⟩ = some (.int .i64 x) := by
 obtain ⟨g, c, rfl, hb, hl⟩ := h.form (by omega)
 exact ⟨g, c, rfl, hb, by have := h.cellAt 0 (by omega); simpa [I64] using this⟩
def TakePost (o : Option (ByteArray × Int)) (e : Ending) : Prop := (∃ t k, o = some (t, k) ∧ e = .returned (.tuple #[.string t, .int .i64 k])) ∨ (o = none ∧ e = .returned (.tuple #[.string ⟨#[]⟩, .int .i64 (-1)]))
theorem take_no {s : ByteArray} {a : Int} (h : takeAt s a = none) {v : Value} (hv : v = .tuple #[.string ⟨#[]⟩, .int .i64 (-1)]) : TakePost (takeAt s a) (.returned v) := .inr ⟨h, by rw [hv]⟩
theorem take_yes {s : ByteArray} {a : Int} {t : ByteArray} {k : Int} (h : takeAt s a = some (t, k)) {v : Value} (hv : v = .tuple #[.string t, .int .i64 k]) : TakePost (takeAt s a) (.returned v) := .inl ⟨t, k, h, by rw [hv]⟩

set_option maxRecDepth 100000 in
set_option maxHeartbeats 1000000 in
theorem l7Take_any (s : ByteArray) (a : Int) (hs : s.size ≤ 1000000000) (ha : -1 ≤ a) (ha' : a ≤ 1000000000) (w : World) :
  Calls Tryz.prog 92 #[.string s, .int .i64 a] w fun e w' => TakePost (takeAt s a) e ∧ Below w.heap.size w w' := by
 go_enter Tryz.func92, Tryz.ntmps92
 go_wp2_with fail
 refine (l7Vars_any s a 1 hs (by omega) ha ha' _).mono ?_
 rintro e w1 ⟨hb1, ⟨xs, p, v, ho, rfl, hown⟩ | ⟨v, ho, rfl⟩⟩
 ·obtain ⟨hlen, hbd, hq5, hqs⟩ := varsAt_bd _ _ _ _ _ ho
  obtain ⟨x, rfl⟩ : ∃ x, xs = [x] := by
   match xs, hlen with
   | [x], _ => exact ⟨x, rfl⟩
  have hx := hbd x (by simp)
  obtain ⟨g, c, rfl, hgb, hcell⟩ := own_cel1 hown
  obtain ⟨hp0, hps⟩ := hqs (by omega)
  rw [size_list] at hps
  have p0 : 0 ≤ p := by omega
  have Ht := Lib.hid (show takeAt s a = if (x : Int) ≤ s.size - p then some (s.extract p.toNat (p.toNat + x), p + x) else none by unfold takeAt; rw [ho])
  clear ho hlen hbd hqs hown
  by_cases hle : (x : Int) ≤ s.size - p
  ·have hT := Lib.hid (show takeAt s a = some (s.extract p.toNat (p + x).toNat, p + x) by rw [Ht.out, if_pos hle, show (p + (x : Int)).toNat = p.toNat + x by omega])
   have hle1 : p ≤ p + (x : Int) := by omega
   have hle2 : p + (x : Int) ≤ s.size := by omega
   have hgt : ¬ ((s.size : Int) - p < x) := by omega
   have hp9 : (0 : Int) ≤ p + (x : Int) := by omega
   have hwr : IntKind.i64.wrap (p + (x : Int)) = p + (x : Int) := IntWalk.i64_in _ (by omega)
   go_wp2_with fail
   go_region_held3 (fun w' => w'.cell? ⟨g, 0, none⟩ = some (.int .i64 x)) (go_keep) (fail)
   go_wp2
   refine bodyPost_ret (v := .tuple #[.string (s.extract p.toNat (p + x).toNat), .int .i64 (p + x)]) (by simp [results, Tryz.results92, go_sem]) rfl ⟨take_yes hT.out rfl, ?_⟩
   repeat (first | exact hb1 | apply Below.drew | refine belA ?_ _ | refine belC ?_ _ _ (by omega) _)
  ·have hT := Lib.hid (show takeAt s a = none by rw [Ht.out, if_neg hle])
   have hgt : (s.size : Int) - p < x := by omega
   go_wp2_with fail
   refine bodyPost_ret (v := .tuple #[.string ⟨#[]⟩, .int .i64 (-1)]) (by simp [results, Tryz.results92, go_sem]) rfl ⟨take_no hT.out rfl, ?_⟩
   exact hb1
 ·have hT := Lib.hid (show takeAt s a = none by unfold takeAt; rw [ho])
  clear ho
  go_wp2_with fail
  refine bodyPost_ret (v := .tuple #[.string ⟨#[]⟩, .int .i64 (-1)]) (by simp [results, Tryz.results92, go_sem]) rfl ⟨take_no hT.out rfl, ?_⟩
  exact hb1

end Go.Proofs.YtghgafbfpejinaaGreatDoor
