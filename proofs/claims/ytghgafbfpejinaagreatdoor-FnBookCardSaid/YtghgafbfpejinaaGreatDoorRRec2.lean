/- ReadRec, in both packages. -/
import Derived.Test.YtghgafbfpejinaaGreatDoorRBase
import Derived.Test.YtghgafbfpejinaaGreatDoorRLook
namespace Go.Proofs.YtghgafbfpejinaaGreatDoor
open Go Go.RowKit

/-- The record that a text is. -/
def recOf (s : ByteArray) : Option (Int × ByteArray) :=
 match varsAt s.data.toList 1 5 with
 | some ([q], p) => if showRecB q (dropB s p.toNat) = s then some ((q : Int), dropB s p.toNat) else none
 | _ => none
def recP (s : ByteArray) : Int × ByteArray × Bool := match recOf s with | some (q, t) => (q, t, true) | none => (0, str [], false)
/-- Behind five bytes and a number. -/
def scR (s : ByteArray) : Int × ByteArray × Bool := scN (scC s false 5).2.1 (scC s false 5).2.2
theorem scC_le (s : ByteArray) (b : Bool) (n : Int) : (scC s b n).2.1.size ≤ s.size := by
 unfold scC; split
 ·exact Nat.le_refl _
 ·simp only [dropB_size]; omega
theorem scR_yes (s : ByteArray) (h : (scR s).2.2 = false) : 5 ≤ s.size ∧ recOf s = if showRecB (scR s).1 (scR s).2.1 = s then some ((scR s).1, (scR s).2.1) else none := by
 by_cases h5 : inI 5 0 s.size = false
 ·exfalso
  have : (scR s).2.2 = true := by
   unfold scR scC; rw [if_pos (.inr h5)]
   unfold scN; rw [if_pos (.inl rfl)]
  rw [this] at h; cases h
 ·have h5' : inI 5 0 s.size = true := by cases hh : inI 5 0 s.size <;> simp_all
  obtain ⟨_, hle⟩ := inI_true.1 h5'
  have e1 : scC s false 5 = (takeB s 5, dropB s 5, false) := by unfold scC; rw [if_neg (by simp [h5'])]; rfl
  have hr : rvB (dropB s 5) = rv (s.data.toList.drop 5) := by rw [rvB, dropB_list]
  refine ⟨by omega, ?_⟩
  have hs : scR s = scN (dropB s 5) false := by unfold scR; rw [e1]
  by_cases hk : (rvB (dropB s 5)).2 = 0
  ·exfalso
   rw [hs] at h
   unfold scN at h; rw [if_pos (.inr hk)] at h; cases h
  ·have e2 : scN (dropB s 5) false = (((rvB (dropB s 5)).1 : Int), dropB (dropB s 5) (rvB (dropB s 5)).2, false) := by unfold scN; rw [if_neg (by simp [hk])]
   rw [hs, e2]
   unfold recOf
   rw [varsAt_succ, if_neg (by rw [size_list]; omega), show (5 : Int).toNat = 5 from rfl, ← hr, if_neg hk]
   simp only [varsAt, dropB_dropB]
   rw [show (5 + ((rvB (dropB s 5)).2 : Int)).toNat = 5 + (rvB (dropB s 5)).2 by omega]
theorem scR_no (s : ByteArray) (h : (scR s).2.2 = true) : recOf s = none := by
 by_cases h5 : inI 5 0 s.size = false
 ·have := inI_false.1 h5
  unfold recOf
  rw [varsAt_succ, if_pos (.inr (by rw [size_list]; omega))]
 ·have h5' : inI 5 0 s.size = true := by cases hh : inI 5 0 s.size <;> simp_all
  obtain ⟨_, hle⟩ := inI_true.1 h5'
  have e1 : scC s false 5 = (takeB s 5, dropB s 5, false) := by unfold scC; rw [if_neg (by simp [h5'])]; rfl
  have hr : rvB (dropB s 5) = rv (s.data.toList.drop 5) := by rw [rvB, dropB_list]
  have hs : scR s = scN (dropB s 5) false := by unfold scR; rw [e1]
  by_cases hk : (rvB (dropB s 5)).2 = 0
  ·unfold recOf
   rw [varsAt_succ, if_neg (by rw [size_list]; omega), show (5 : Int).toNat = 5 from rfl, ← hr, if_pos hk]
  ·exfalso
   rw [hs] at h
   unfold scN at h; rw [if_neg (by simp [hk])] at h; cases h
theorem recP_some (s : ByteArray) {q : Int} {t : ByteArray} (h : recOf s = some (q, t)) : recP s = (q, t, true) := by unfold recP; rw [h]
theorem recP_none (s : ByteArray) (h : recOf s = none) : recP s = (0, str [], false) := by unfold recP; rw [h]
/-- What ReadRec leaves. -/
theorem recP_end {v : Value} {s : ByteArray} {q : Int} {t : ByteArray} {b : Bool} (h : recP s = (q, t, b)) (hv : v = .tuple #[.agg #[.int .i64 q, .string t], .bool b]) :
  Ending.returned v = .returned (.tuple #[.agg #[.int .i64 (recP s).1, .string (recP s).2.1], .bool (recP s).2.2]) := by rw [hv, h]

set_option maxRecDepth 100000 in
set_option maxHeartbeats 2000000 in
theorem readRec_impl (s : ByteArray) (hs : s.size ≤ 1000000000) (w : World) :
  Calls Tryz.prog 73 #[.string s] w fun e w' => e = .returned (.tuple #[.agg #[.int .i64 (recP s).1, .string (recP s).2.1], .bool (recP s).2.2]) ∧ Below w.heap.size w w' := by
 have hl1 := scC_le s false 5
 have hl2 := scN_le (scC s false 5).2.1 (scC s false 5).2.2
 rcases hbad : (scR s).2.2 with _ | _
 ·obtain ⟨h5, hrec⟩ := scR_yes s hbad
  have hne := not_empty s (by omega)
  by_cases heq : showRecB (scR s).1 (scR s).2.1 = s
  ·have Hr := Lib.hid (recP_some s (by rw [hrec, if_pos heq]))
   have hq := seq_true heq
   clear hrec heq
   unfold scR at hbad hq
   go_enter Tryz.func73, Tryz.ntmps73
   go_wp2_with fail
   refine (cut_any (w.heap.size + 1) s false 5 _ (Blk.new' _ _ _ _)).mono ?_
   rintro e w1 ⟨rfl, hB1, hg1⟩
   have hR1 := ((Blk.new' w 60 #[.int .i64 0, .string ⟨#[]⟩] w.heap.size).alloc (.cells #[.string s, .bool false] 91)).grown hg1 (by simp)
   have b1 := belG (belA (belA (bel0 w) _) _) hg1 (by omega)
   go_wp2_with fail
   refine (num_any (w.heap.size + 1) _ _ (by omega) _ hB1).mono ?_
   rintro e w2 ⟨rfl, hB2, hg2⟩
   have b2 := belG b1 hg2 (by omega)
   have hR2 := hR1.grown hg2 (by simp)
   have c0 := hB2.c0
   have c1 := hB2.c1
   have hlt := hB2.lt
   have hlt2 := hR2.lt
   have r0 := hR2.c0
   have r1 := hR2.c1
   have r2 := hR2.frozen 0
   have r3 := hR2.frozen 1
   go_wp2_with fail
   refine (showRec_impl _ _ _ (by omega)).mono ?_
   rintro e w3 ⟨rfl, hb3⟩
   have r30 := keep1 hb3 (p := ⟨w.heap.size, 0, none⟩) (x := .int .i64 0) (by simp [go_sem, r0, hlt2])
   have r31 := keep1 hb3 (p := ⟨w.heap.size, 1, none⟩) (x := .string ⟨#[]⟩) (by simp [go_sem, r1, hlt2])
   have hBl3 := (((Blk.new' w2 60 #[.int .i64 (scN (scC s false 5).2.1 (scC s false 5).2.2).1, .string (scN (scC s false 5).2.1 (scC s false 5).2.2).2.1] w2.heap.size))).below hb3 (by simp)
   have hRl3 := (hR2.alloc (.cells #[.int .i64 (scN (scC s false 5).2.1 (scC s false 5).2.2).1, .string (scN (scC s false 5).2.1 (scC s false 5).2.2).2.1] 60)).below hb3 (by simp; omega)
   have k0 := hBl3.c0
   have k1 := hBl3.c1
   have k2 := hRl3.frozen 0
   have k3 := hRl3.frozen 1
   go_wp2
   refine bodyPost_ret (v := .tuple #[.agg #[.int .i64 (scN (scC s false 5).2.1 (scC s false 5).2.2).1, .string (scN (scC s false 5).2.1 (scC s false 5).2.2).2.1], .bool true]) (by simp [results, Tryz.results73, go_sem, r30, r31]) rfl ⟨recP_end Hr.out rfl, ?_⟩
   exact belC (belC (belN (belA b2 _) hb3) _ _ (Nat.le_refl _) _) _ _ (Nat.le_refl _) _
  ·have Hr := Lib.hid (recP_none s (by rw [hrec, if_neg heq]))
   have hq := seq_false heq
   clear hrec heq
   unfold scR at hbad hq
   go_enter Tryz.func73, Tryz.ntmps73
   go_wp2_with fail
   refine (cut_any (w.heap.size + 1) s false 5 _ (Blk.new' _ _ _ _)).mono ?_
   rintro e w1 ⟨rfl, hB1, hg1⟩
   have hR1 := ((Blk.new' w 60 #[.int .i64 0, .string ⟨#[]⟩] w.heap.size).alloc (.cells #[.string s, .bool false] 91)).grown hg1 (by simp)
   have b1 := belG (belA (belA (bel0 w) _) _) hg1 (by omega)
   go_wp2_with fail
   refine (num_any (w.heap.size + 1) _ _ (by omega) _ hB1).mono ?_
   rintro e w2 ⟨rfl, hB2, hg2⟩
   have b2 := belG b1 hg2 (by omega)
   have hR2 := hR1.grown hg2 (by simp)
   have c0 := hB2.c0
   have c1 := hB2.c1
   have hlt := hB2.lt
   have hlt2 := hR2.lt
   have r0 := hR2.c0
   have r1 := hR2.c1
   have r2 := hR2.frozen 0
   have r3 := hR2.frozen 1
   go_wp2_with fail
   refine (showRec_impl _ _ _ (by omega)).mono ?_
   rintro e w3 ⟨rfl, hb3⟩
   have r30 := keep1 hb3 (p := ⟨w.heap.size, 0, none⟩) (x := .int .i64 0) (by simp [go_sem, r0, hlt2])
   have r31 := keep1 hb3 (p := ⟨w.heap.size, 1, none⟩) (x := .string ⟨#[]⟩) (by simp [go_sem, r1, hlt2])
   have hBl3 := (((Blk.new' w2 60 #[.int .i64 (scN (scC s false 5).2.1 (scC s false 5).2.2).1, .string (scN (scC s false 5).2.1 (scC s false 5).2.2).2.1] w2.heap.size))).below hb3 (by simp)
   have hRl3 := (hR2.alloc (.cells #[.int .i64 (scN (scC s false 5).2.1 (scC s false 5).2.2).1, .string (scN (scC s false 5).2.1 (scC s false 5).2.2).2.1] 60)).below hb3 (by simp; omega)
   have k0 := hBl3.c0
   have k1 := hBl3.c1
   have k2 := hRl3.frozen 0
   have k3 := hRl3.frozen 1
   go_wp2
   refine bodyPost_ret (v := .tuple #[.agg #[.int .i64 0, .string ⟨#[]⟩], .bool false]) (by simp [results, Tryz.results73, go_sem, r30, r31]) rfl ⟨recP_end Hr.out rfl, ?_⟩
   exact belC (belC (belN (belA b2 _) hb3) _ _ (Nat.le_refl _) _) _ _ (Nat.le_refl _) _
 ·have Hr := Lib.hid (recP_none s (scR_no s hbad))
  unfold scR at hbad
  go_enter Tryz.func73, Tryz.ntmps73
  go_wp2_with fail
  refine (cut_any (w.heap.size + 1) s false 5 _ (Blk.new' _ _ _ _)).mono ?_
  rintro e w1 ⟨rfl, hB1, hg1⟩
  have hR1 := ((Blk.new' w 60 #[.int .i64 0, .string ⟨#[]⟩] w.heap.size).alloc (.cells #[.string s, .bool false] 91)).grown hg1 (by simp)
  have b1 := belG (belA (belA (bel0 w) _) _) hg1 (by omega)
  go_wp2_with fail
  refine (num_any (w.heap.size + 1) _ _ (by omega) _ hB1).mono ?_
  rintro e w2 ⟨rfl, hB2, hg2⟩
  have b2 := belG b1 hg2 (by omega)
  have hR2 := hR1.grown hg2 (by simp)
  have c0 := hB2.c0
  have c1 := hB2.c1
  have hlt := hB2.lt
  have hlt2 := hR2.lt
  have r0 := hR2.c0
  have r1 := hR2.c1
  have r2 := hR2.frozen 0
  have r3 := hR2.frozen 1
  go_wp2
  refine bodyPost_ret (v := .tuple #[.agg #[.int .i64 0, .string ⟨#[]⟩], .bool false]) (by simp [results, Tryz.results73, go_sem, r0, r1, hlt2]) rfl ⟨recP_end Hr.out rfl, ?_⟩
  exact belA (belC (belC b2 _ _ (Nat.le_refl _) _) _ _ (Nat.le_refl _) _) _

theorem own_cell {w : World} {base : Nat} {e : TypeId} {v : Value} {x : Nat} (h : w.ownsRow base e 1 v 1 (I64 [x])) : ∃ g c, v = .slice (some ⟨g, 0, none⟩) 1 c ∧ base ≤ g ∧ w.cell? ⟨g, 0, none⟩ = some (.int .i64 x) := by
 obtain ⟨g, c, rfl, hb, hl⟩ := h.form (by omega)
 exact ⟨g, c, rfl, hb, by have := h.cellAt 0 (by omega); simpa [I64] using this⟩

set_option maxRecDepth 100000 in
set_option maxHeartbeats 2000000 in
theorem readRec_spec (s : ByteArray) (hs : s.size ≤ 1000000000) (w : World) :
  Calls Tryz.prog 93 #[.string s] w fun e w' => e = .returned (.tuple #[.agg #[.int .i64 (recP s).1, .string (recP s).2.1], .bool (recP s).2.2]) ∧ Below w.heap.size w w' := by
 go_enter Tryz.func93, Tryz.ntmps93
 go_wp2_with fail
 refine (l7Vars_any s 5 1 hs (by omega) (by omega) (by omega) _).mono ?_
 rintro e w1 ⟨hb1, ⟨xs, p, v, ho, rfl, hown⟩ | ⟨v, ho, rfl⟩⟩
 ·obtain ⟨hlen, hbd, hq5, hqs⟩ := varsAt_bd _ _ _ _ _ ho
  obtain ⟨x, rfl⟩ : ∃ x, xs = [x] := by
   match xs, hlen with
   | [x], _ => exact ⟨x, rfl⟩
  obtain ⟨g, c, rfl, hgb, hcell⟩ := own_cell hown
  have hqs2 := (hqs (by omega)).2
  rw [size_list] at hqs2
  have hR := (Blk.new' w 60 #[.int .i64 0, .string ⟨#[]⟩] w.heap.size).below hb1 (by simp)
  have hrec : recOf s = if showRecB x (dropB s p.toNat) = s then some ((x : Int), dropB s p.toNat) else none := by unfold recOf; rw [ho]
  have b1 := belN (belA (bel0 w) _) hb1
  have hglt := World.block_lt_of_cell? _ _ hcell
  have hRlt := hR.lt
  have r0 := hR.c0
  have r1 := hR.c1
  have r2 := hR.frozen 0
  have r3 := hR.frozen 1
  have hdz := dropB_size s p.toNat
  have Hown := Lib.hid hown
  have Hlen := Lib.hid hlen
  have Hbd := Lib.hid hbd
  have Ho := Lib.hid ho
  clear hown hlen hbd ho hqs
  have p0 : 0 ≤ p := by omega
  have n1 := World.new_ne w1 _ hcell
  have n2 := World.new_ne w1 _ r0
  by_cases heq : showRecB x (dropB s p.toNat) = s
  ·have Hr := Lib.hid (recP_some s (by rw [hrec, if_pos heq]))
   have hq := seq_true heq
   unfold dropB at hq hdz
   clear hrec heq
   go_wp2_with fail
   go_region_held3 (fun w' => w'.cell? ⟨g, 0, none⟩ = some (.int .i64 x)) (go_keep) (fail)
   go_wp2_with fail
   refine (showRec_spec _ _ _ (by omega)).mono ?_
   rintro e w3 ⟨rfl, hb3⟩
   have hBl3 := ((Blk.new' w1 60 #[.int .i64 x, .string (s.extract p.toNat s.size)] w1.heap.size).drew).below hb3 (by simp)
   have hRl3 := ((hR.alloc (.cells #[.int .i64 x, .string (s.extract p.toNat s.size)] 60)).drew).below hb3 (by simp; omega)
   have k0 := hBl3.c0
   have k1 := hBl3.c1
   have k2 := hRl3.frozen 0
   have k3 := hRl3.frozen 1
   have r30 := hRl3.c0
   have r31 := hRl3.c1
   clear r0 r1 r2 r3 hcell n1 n2
   go_wp2
   refine bodyPost_ret (v := .tuple #[.agg #[.int .i64 x, .string (s.extract p.toNat s.size)], .bool true]) (by simp [results, Tryz.results93, go_sem, r30, r31]) rfl ⟨recP_end Hr.out rfl, ?_⟩
   exact belC (belC (belN (belA b1 _).drew hb3) _ _ (Nat.le_refl _) _) _ _ (Nat.le_refl _) _
  ·have Hr := Lib.hid (recP_none s (by rw [hrec, if_neg heq]))
   have hq := seq_false heq
   unfold dropB at hq hdz
   clear hrec heq
   go_wp2_with fail
   go_region_held3 (fun w' => w'.cell? ⟨g, 0, none⟩ = some (.int .i64 x)) (go_keep) (fail)
   go_wp2_with fail
   refine (showRec_spec _ _ _ (by omega)).mono ?_
   rintro e w3 ⟨rfl, hb3⟩
   have hBl3 := ((Blk.new' w1 60 #[.int .i64 x, .string (s.extract p.toNat s.size)] w1.heap.size).drew).below hb3 (by simp)
   have hRl3 := ((hR.alloc (.cells #[.int .i64 x, .string (s.extract p.toNat s.size)] 60)).drew).below hb3 (by simp; omega)
   have k0 := hBl3.c0
   have k1 := hBl3.c1
   have k2 := hRl3.frozen 0
   have k3 := hRl3.frozen 1
   have r30 := hRl3.c0
   have r31 := hRl3.c1
   clear r0 r1 r2 r3 hcell n1 n2
   go_wp2
   refine bodyPost_ret (v := .tuple #[.agg #[.int .i64 0, .string ⟨#[]⟩], .bool false]) (by simp [results, Tryz.results93, go_sem, r30, r31]) rfl ⟨recP_end Hr.out rfl, ?_⟩
   exact belC (belC (belN (belA b1 _).drew hb3) _ _ (Nat.le_refl _) _) _ _ (Nat.le_refl _) _
 ·have Hr := Lib.hid (recP_none s (show recOf s = none by unfold recOf; rw [ho]))
  have hR := (Blk.new' w 60 #[.int .i64 0, .string ⟨#[]⟩] w.heap.size).below hb1 (by simp)
  have b1 := belN (belA (bel0 w) _) hb1
  have r0 := hR.c0
  have r1 := hR.c1
  have r2 := hR.frozen 0
  have r3 := hR.frozen 1
  clear ho
  go_wp2
  refine bodyPost_ret (v := .tuple #[.agg #[.int .i64 0, .string ⟨#[]⟩], .bool false]) (by simp [results, Tryz.results93, go_sem, r0, r1]) rfl ⟨recP_end Hr.out rfl, ?_⟩
  exact belC (belC b1 _ _ (Nat.le_refl _) _) _ _ (Nat.le_refl _) _

end Go.Proofs.YtghgafbfpejinaaGreatDoor
