/- A change read from its text, in both packages. -/
import Derived.Test.YtghgafbfpejinaaGreatDoorROp2
namespace Go.Proofs.YtghgafbfpejinaaGreatDoor
open Go Go.RowKit

/-- The change that a text is. -/
def opOf (s : ByteArray) : Option (Int × ByteArray × Int) :=
 match varsAt s.data.toList 2 0 with
 | some ([k, i], p) => if opOkB k (dropB s p.toNat) i = true ∧ showOpB k (dropB s p.toNat) i = s then some ((k : Int), dropB s p.toNat, (i : Int)) else none
 | _ => none
def opP (s : ByteArray) : (Int × ByteArray × Int) × Bool := match opOf s with | some x => (x, true) | none => ((0, str [], 0), false)
theorem opP_some (s : ByteArray) {x : Int × ByteArray × Int} (h : opOf s = some x) : opP s = (x, true) := by unfold opP; rw [h]
theorem opP_none (s : ByteArray) (h : opOf s = none) : opP s = ((0, str [], 0), false) := by unfold opP; rw [h]
/-- Behind one number, behind two. -/
def sc1 (s : ByteArray) : Int × ByteArray × Bool := scN s false
def sc2 (s : ByteArray) : Int × ByteArray × Bool := scN (sc1 s).2.1 (sc1 s).2.2
theorem scN_bad (s : ByteArray) : (scN s true) = (0, s, true) := by unfold scN; rw [if_pos (.inl rfl)]
theorem scN_zero (s : ByteArray) (b : Bool) (h : (rvB s).2 = 0) : (scN s b) = (0, s, true) := by unfold scN; rw [if_pos (.inr h)]
theorem scN_go (s : ByteArray) (h : (rvB s).2 ≠ 0) : (scN s false) = (((rvB s).1 : Int), dropB s (rvB s).2, false) := by unfold scN; rw [if_neg (by simp [h])]
theorem rvB_drop (s : ByteArray) (k : Nat) : rvB (dropB s k) = rv (s.data.toList.drop k) := by rw [rvB, dropB_list]
theorem sc2_yes (s : ByteArray) (h : (sc2 s).2.2 = false) : 0 < s.size ∧ varsAt s.data.toList 2 0 = some ([(sc1 s).1.toNat, (sc2 s).1.toNat], (s.size - (sc2 s).2.1.size : Int)) ∧ 0 ≤ (sc1 s).1 ∧ 0 ≤ (sc2 s).1 ∧ (sc2 s).2.1 = dropB s (s.size - (sc2 s).2.1.size : Int).toNat := by
 by_cases h1 : (rvB s).2 = 0
 ·exfalso
  have : sc2 s = (0, s, true) := by unfold sc2 sc1; rw [scN_zero s false h1]; exact scN_bad s
  rw [this] at h; cases h
 ·have e1 : sc1 s = (((rvB s).1 : Int), dropB s (rvB s).2, false) := scN_go s h1
  by_cases h2 : (rvB (dropB s (rvB s).2)).2 = 0
  ·exfalso
   have : sc2 s = (0, dropB s (rvB s).2, true) := by unfold sc2; rw [e1]; exact scN_zero _ false h2
   rw [this] at h; cases h
  ·have e2 : sc2 s = (((rvB (dropB s (rvB s).2)).1 : Int), dropB (dropB s (rvB s).2) (rvB (dropB s (rvB s).2)).2, false) := by unfold sc2; rw [e1]; exact scN_go _ h2
   have hl1 := rvB_le s
   have hl2 := rvB_le (dropB s (rvB s).2)
   rw [dropB_size] at hl2
   have hsz : (sc2 s).2.1.size = s.size - ((rvB s).2 + (rvB (dropB s (rvB s).2)).2) := by rw [e2, dropB_dropB, dropB_size]
   have hp : (s.size - (sc2 s).2.1.size : Int) = ((rvB s).2 : Int) + (rvB (dropB s (rvB s).2)).2 := by rw [hsz]; omega
   refine ⟨by omega, ?_, by rw [e1]; simp, by rw [e2]; simp, ?_⟩
   rotate_left
   ·rw [hp, e2]
    show dropB (dropB s _) _ = _
    rw [dropB_dropB]
    exact congrArg (dropB s) (by omega)
   rw [hp, varsAt_succ, if_neg (by omega), show (0 : Int).toNat = 0 from rfl, List.drop_zero, ← rvB, if_neg h1, varsAt_succ, if_neg (by rw [size_list]; omega)]
   rw [show ((0 : Int) + ((rvB s).2 : Int)).toNat = (rvB s).2 by omega, ← rvB_drop, if_neg h2]
   simp only [varsAt, e1, e2, Int.toNat_natCast, Int.zero_add]
theorem sc2_no (s : ByteArray) (h : (sc2 s).2.2 = true) : varsAt s.data.toList 2 0 = none := by
 rw [varsAt_succ, if_neg (by rw [size_list]; omega), show (0 : Int).toNat = 0 from rfl, List.drop_zero, ← rvB]
 by_cases h1 : (rvB s).2 = 0
 ·rw [if_pos h1]
 ·rw [if_neg h1]
  have e1 : sc1 s = (((rvB s).1 : Int), dropB s (rvB s).2, false) := scN_go s h1
  have hl1 := rvB_le s
  by_cases h2 : (rvB (dropB s (rvB s).2)).2 = 0
  ·rw [varsAt_succ, if_neg (by rw [size_list]; omega), show ((0 : Int) + ((rvB s).2 : Int)).toNat = (rvB s).2 by omega, ← rvB_drop, if_pos h2]
  ·exfalso
   have e2 : sc2 s = (((rvB (dropB s (rvB s).2)).1 : Int), dropB (dropB s (rvB s).2) (rvB (dropB s (rvB s).2)).2, false) := by unfold sc2; rw [e1]; exact scN_go _ h2
   rw [e2] at h; cases h
theorem opOf_yes (s : ByteArray) (h : (sc2 s).2.2 = false) : opOf s = if opOkB (sc1 s).1 (sc2 s).2.1 (sc2 s).1 = true ∧ showOpB (sc1 s).1 (sc2 s).2.1 (sc2 s).1 = s then some ((sc1 s).1, (sc2 s).2.1, (sc2 s).1) else none := by
 obtain ⟨_, h2, h3, h4, h5⟩ := sc2_yes s h
 unfold opOf
 rw [h2]
 simp only
 rw [← h5, Int.toNat_of_nonneg h3, Int.toNat_of_nonneg h4]
theorem opOf_no (s : ByteArray) (h : (sc2 s).2.2 = true) : opOf s = none := by unfold opOf; rw [sc2_no s h]
theorem showOp_ok {k i : Int} {s t : ByteArray} (h : showOpB k s i = t) (ht : 0 < t.size) : opOkB k s i = true := by
 cases ho : opOkB k s i with
 | true => rfl
 | false => unfold showOpB at h; rw [ho] at h; rw [← h] at ht; simp [str_size] at ht
theorem opP_end {v : Value} {s : ByteArray} {k i : Int} {t : ByteArray} {b : Bool} (h : opP s = ((k, t, i), b)) (hv : v = .tuple #[.agg #[.int .i64 k, .string t, .int .i64 i], .bool b]) :
  Ending.returned v = .returned (.tuple #[.agg #[.int .i64 (opP s).1.1, .string (opP s).1.2.1, .int .i64 (opP s).1.2.2], .bool (opP s).2]) := by rw [hv, h]

set_option maxRecDepth 100000 in
set_option maxHeartbeats 4000000 in
theorem readOp_impl (s : ByteArray) (hs : s.size ≤ 2000000) (w : World) (hT : Tab w) :
  Calls Tryz.prog 33 #[.string s] w fun e w' => e = .returned (.tuple #[.agg #[.int .i64 (opP s).1.1, .string (opP s).1.2.1, .int .i64 (opP s).1.2.2], .bool (opP s).2]) ∧ Below w.heap.size w w' := by
 have HT := Lib.hid hT
 clear hT
 have hl1 := scN_le s false
 have hl2 := scN_le (scN s false).2.1 (scN s false).2.2
 have tok : True := trivial
 go_enter Tryz.func33, Tryz.ntmps33
 go_wp2_with fail
 refine (num_any (w.heap.size + 1) s false (by omega) _ (Blk.new' _ _ _ _)).mono ?_
 rintro e w1 ⟨rfl, hB1, hg1⟩
 have hR1 := ((Blk.new' w 32 #[.int .i64 0, .string ⟨#[]⟩, .int .i64 0] w.heap.size).alloc (.cells #[.string s, .bool false] 91)).grown hg1 (by simp)
 have b1 := belG (belA (belA (bel0 w) _) _) hg1 (by omega)
 have hlt1 := hB1.lt
 have hltR1 := hR1.lt
 obtain ⟨q1, hq1⟩ : ∃ q, scN s false = q := ⟨_, rfl⟩
 rw [hq1] at hB1 hl1 hl2 ⊢
 obtain ⟨k, R1, bad1⟩ := q1
 simp only at hB1 hl1 hl2 ⊢
 go_wp2_with fail
 have hB1' := hB1.alloc (.cells #[.int .i64 k, .string ⟨#[]⟩, .int .i64 0] 32)
 refine (num_any (w.heap.size + 1) R1 bad1 (by omega) _ hB1').mono ?_
 rintro e w2 ⟨rfl, hB2, hg2⟩
 have hR2 := (hR1.alloc (.cells #[.int .i64 k, .string ⟨#[]⟩, .int .i64 0] 32)).grown hg2 (by simp)
 have hO2 := (Blk.new' w1 32 #[.int .i64 k, .string ⟨#[]⟩, .int .i64 0] w1.heap.size).grown hg2 (by simp; omega)
 have b2 := belG (belA b1 _) hg2 (by omega)
 have hTn := HT.out.below b2 HT.out.pos
 obtain ⟨q2, hq2⟩ : ∃ q, scN R1 bad1 = q := ⟨_, rfl⟩
 rw [hq2] at hB2 hl2 ⊢
 obtain ⟨i, R2, bad2⟩ := q2
 simp only at hB2 hl2 ⊢
 have hs2 : sc2 s = (i, R2, bad2) := by unfold sc2 sc1; rw [hq1]; exact hq2
 have hs1 : sc1 s = (k, R1, bad1) := hq1
 have Hs1 := Lib.hid hs1
 have Hs2 := Lib.hid hs2
 clear hq1 hq2 hs1 hs2 hB1 hB1' hR1 hg1 hg2
 have c0 := hB2.c0
 have c1 := hB2.c1
 obtain ⟨o0, o1, o2⟩ := hO2.g3
 have f1 := hO2.frozen 1
 have f2 := hO2.frozen 2
 obtain ⟨r0, r1, r2⟩ := hR2.g3
 obtain ⟨fr0, fr1, fr2⟩ := hR2.f3
 have l1 := hO2.lt
 have l2 := hR2.lt
 have l3 := hB2.lt
 have ne1 : w.heap.size ≠ w1.heap.size := by omega
 have ne2 : w.heap.size + 1 ≠ w1.heap.size := by omega
 have ne3 : w1.heap.size ≠ w.heap.size := by omega
 have ne4 : w1.heap.size ≠ w.heap.size + 1 := by omega
 rcases bad2 with _ | _
 ·have hbd : (sc2 s).2.2 = false := by rw [Hs2.out]
  have hpos := (sc2_yes s hbd).1
  have hne := not_empty s hpos
  have hrec := opOf_yes s hbd
  rw [Hs1.out, Hs2.out] at hrec
  simp only at hrec
  have b3 := belC (belC b2 w1.heap.size 2 (by omega) (.int .i64 i)) w1.heap.size 1 (by omega) (.string R2)
  have hT3 := Lib.hid (HT.out.below b3 HT.out.pos)
  have HO3 := Lib.hid ((hO2.put 2 (.int .i64 i) #[.int .i64 k, .string ⟨#[]⟩, .int .i64 i] rfl).put 1 (.string R2) #[.int .i64 k, .string R2, .int .i64 i] rfl)
  have HR3 := Lib.hid ((hR2.far (p := ⟨w1.heap.size, 2, none⟩) ne1 (.int .i64 i)).far (p := ⟨w1.heap.size, 1, none⟩) ne1 (.string R2))
  by_cases heq : showOpB k R2 i = s
  ·have Hr := Lib.hid (opP_some s (by rw [hrec, if_pos ⟨showOp_ok heq hpos, heq⟩]))
   have hq := seq_true heq
   clear hrec heq hbd hpos
   go_wp2_with fail
   refine (showOp_impl _ _ _ (by omega) _ hT3.out).mono ?_
   rintro e w3 ⟨rfl, hb3⟩
   have hO3 := HO3.out.below hb3 HO3.out.lt
   have hR3 := HR3.out.below hb3 HR3.out.lt
   clear c0 c1 o0 o1 o2 f1 f2 r0 r1 r2 fr0 fr1 fr2 hB2 hO2 hR2
   obtain ⟨o0, o1, o2⟩ := hO3.g3
   obtain ⟨r0, r1, r2⟩ := hR3.g3
   obtain ⟨fr0, fr1, fr2⟩ := hR3.f3
   go_wp2
   refine bodyPost_ret (v := .tuple #[.agg #[.int .i64 k, .string R2, .int .i64 i], .bool true]) (by simp [results, Tryz.results33, go_sem, r0, r1, r2]) rfl ⟨opP_end Hr.out rfl, ?_⟩
   exact belC (belC (belC (belN b3 hb3) _ _ (Nat.le_refl _) _) _ _ (Nat.le_refl _) _) _ _ (Nat.le_refl _) _
  ·have Hr := Lib.hid (opP_none s (by rw [hrec, if_neg (fun h => heq h.2)]))
   have hq := seq_false heq
   clear hrec heq hbd hpos
   go_wp2_with fail
   refine (showOp_impl _ _ _ (by omega) _ hT3.out).mono ?_
   rintro e w3 ⟨rfl, hb3⟩
   have hR3 := HR3.out.below hb3 HR3.out.lt
   clear c0 c1 o0 o1 o2 f1 f2 r0 r1 r2 fr0 fr1 fr2 hB2 hO2 hR2
   obtain ⟨r0, r1, r2⟩ := hR3.g3
   obtain ⟨fr0, fr1, fr2⟩ := hR3.f3
   go_wp2
   refine bodyPost_ret (v := .tuple #[.agg #[.int .i64 0, .string ⟨#[]⟩, .int .i64 0], .bool false]) (by simp [results, Tryz.results33, go_sem, r0, r1, r2]) rfl ⟨opP_end Hr.out rfl, ?_⟩
   exact belC (belC (belC (belN b3 hb3) _ _ (Nat.le_refl _) _) _ _ (Nat.le_refl _) _) _ _ (Nat.le_refl _) _
 ·have Hr := Lib.hid (opP_none s (opOf_no s (by rw [Hs2.out])))
  go_wp2_with fail
  refine bodyPost_ret (v := .tuple #[.agg #[.int .i64 0, .string ⟨#[]⟩, .int .i64 0], .bool false]) (by simp [results, Tryz.results33, go_sem, r0, r1, r2]) rfl ⟨opP_end Hr.out rfl, ?_⟩
  exact belC (belC (belC (belC (belC b2 _ _ (by omega) _) _ _ (by omega) _) _ _ (Nat.le_refl _) _) _ _ (Nat.le_refl _) _) _ _ (Nat.le_refl _) _

theorem own_cells2o {w : World} {base : Nat} {e : TypeId} {v : Value} {x y : Nat} (h : w.ownsRow base e 1 v 2 (I64 [x, y])) : ∃ g c, v = .slice (some ⟨g, 0, none⟩) 2 c ∧ base ≤ g ∧ w.cell? ⟨g, 0, none⟩ = some (.int .i64 x) ∧ w.cell? ⟨g, 1, none⟩ = some (.int .i64 y) := by
 obtain ⟨g, c, rfl, hb, hl⟩ := h.form (by omega)
 exact ⟨g, c, rfl, hb, by have := h.cellAt 0 (by omega); simpa [I64] using this, by have := h.cellAt 1 (by omega); simpa [I64] using this⟩

set_option maxRecDepth 100000 in
set_option maxHeartbeats 4000000 in
theorem readOp_spec (s : ByteArray) (hs : s.size ≤ 2000000) (w : World) :
  Calls Tryz.prog 54 #[.string s] w fun e w' => e = .returned (.tuple #[.agg #[.int .i64 (opP s).1.1, .string (opP s).1.2.1, .int .i64 (opP s).1.2.2], .bool (opP s).2]) ∧ Below w.heap.size w w' := by
 go_enter Tryz.func54, Tryz.ntmps54
 go_wp2_with fail
 refine (l7Vars_any s 0 2 (by omega) (by omega) (by omega) (by omega) _).mono ?_
 rintro e w1 ⟨hb1, ⟨xs, p, v, ho, rfl, hown⟩ | ⟨v, ho, rfl⟩⟩
 ·obtain ⟨hlen, hbd, hq5, hqs⟩ := varsAt_bd _ _ _ _ _ ho
  obtain ⟨x, y, rfl⟩ : ∃ x y, xs = [x, y] := by
   match xs, hlen with
   | [x, y], _ => exact ⟨x, y, rfl⟩
  obtain ⟨g, c, rfl, hgb, hcell, hcell2⟩ := own_cells2o hown
  have hqs2 := (hqs (by omega)).2
  rw [size_list] at hqs2
  have hR := (Blk.new' w 32 #[.int .i64 0, .string ⟨#[]⟩, .int .i64 0] w.heap.size).below hb1 (by simp)
  have hrec : opOf s = if opOkB x (dropB s p.toNat) y = true ∧ showOpB x (dropB s p.toNat) y = s then some ((x : Int), dropB s p.toNat, (y : Int)) else none := by unfold opOf; rw [ho]
  have b1 := belN (belA (bel0 w) _) hb1
  have hglt := World.block_lt_of_cell? _ _ hcell
  have hRlt := hR.lt
  have hdz := dropB_size s p.toNat
  have p0 : 0 ≤ p := by omega
  have n1 := World.new_ne w1 _ hcell
  have n2 := World.new_ne w1 _ hcell2
  clear hown hlen hbd ho hqs
  obtain ⟨r0, r1, r2⟩ := hR.g3
  obtain ⟨fr0, fr1, fr2⟩ := hR.f3
  have Hrec := Lib.hid hrec
  obtain ⟨R2, hR2⟩ : ∃ R2, dropB s p.toNat = R2 := ⟨_, rfl⟩
  rw [hR2] at hdz Hrec
  have hR2' : s.extract p.toNat s.size = R2 := hR2
  clear hrec hR2
  go_wp2_with fail
  go_region_held3 (fun w' => w'.cell? ⟨g, 0, none⟩ = some (.int .i64 x) ∧ w'.cell? ⟨g, 1, none⟩ = some (.int .i64 y)) (go_keep) (fail)
  have HR2 := Lib.hid hR2'
  clear hR2' n1 n2
  go_wp2_with fail
  refine (opOk_spec _ _ _ (by omega) _).mono ?_
  rintro e w2 ⟨rfl, hb2⟩
  have hO2 := ((Blk.new' w1 32 #[.int .i64 x, .string R2, .int .i64 y] w1.heap.size).drew).below hb2 (by simp)
  have hRr2 := ((hR.alloc (.cells #[.int .i64 x, .string R2, .int .i64 y] 32)).drew).below hb2 (by simp; omega)
  have b2 := belN (belA b1 _).drew hb2
  clear r0 r1 r2 fr0 fr1 fr2 hcell hcell2
  obtain ⟨o0, o1, o2⟩ := hO2.g3
  obtain ⟨r0, r1, r2⟩ := hRr2.g3
  obtain ⟨fr0, fr1, fr2⟩ := hRr2.f3
  rcases hok : opOkB x R2 y with _ | _
  ·have Hr := Lib.hid (opP_none s (by rw [Hrec.out, if_neg (by simp [hok])]))
   go_wp2
   refine bodyPost_ret (v := .tuple #[.agg #[.int .i64 0, .string ⟨#[]⟩, .int .i64 0], .bool false]) (by simp [results, Tryz.results54, go_sem, r0, r1, r2]) rfl ⟨opP_end Hr.out rfl, ?_⟩
   exact belC (belC (belC b2 _ _ (Nat.le_refl _) _) _ _ (Nat.le_refl _) _) _ _ (Nat.le_refl _) _
  ·by_cases heq : showOpB x R2 y = s
   ·have Hr := Lib.hid (opP_some s (by rw [Hrec.out, if_pos ⟨hok, heq⟩]))
    have hq := seq_true heq
    clear heq
    go_wp2_with fail
    refine (showOp_spec _ _ _ (by omega) _).mono ?_
    rintro e w3 ⟨rfl, hb3⟩
    have hO3 := hO2.below hb3 hO2.lt
    have hR3 := hRr2.below hb3 hRr2.lt
    clear o0 o1 o2 r0 r1 r2 fr0 fr1 fr2
    obtain ⟨o0, o1, o2⟩ := hO3.g3
    obtain ⟨r0, r1, r2⟩ := hR3.g3
    obtain ⟨fr0, fr1, fr2⟩ := hR3.f3
    go_wp2
    refine bodyPost_ret (v := .tuple #[.agg #[.int .i64 x, .string R2, .int .i64 y], .bool true]) (by simp [results, Tryz.results54, go_sem, r0, r1, r2]) rfl ⟨opP_end Hr.out rfl, ?_⟩
    exact belC (belC (belC (belN b2 hb3) _ _ (Nat.le_refl _) _) _ _ (Nat.le_refl _) _) _ _ (Nat.le_refl _) _
   ·have Hr := Lib.hid (opP_none s (by rw [Hrec.out, if_neg (fun h => heq h.2)]))
    have hq := seq_false heq
    clear heq
    go_wp2_with fail
    refine (showOp_spec _ _ _ (by omega) _).mono ?_
    rintro e w3 ⟨rfl, hb3⟩
    have hR3 := hRr2.below hb3 hRr2.lt
    clear o0 o1 o2 r0 r1 r2 fr0 fr1 fr2
    obtain ⟨r0, r1, r2⟩ := hR3.g3
    obtain ⟨fr0, fr1, fr2⟩ := hR3.f3
    go_wp2
    refine bodyPost_ret (v := .tuple #[.agg #[.int .i64 0, .string ⟨#[]⟩, .int .i64 0], .bool false]) (by simp [results, Tryz.results54, go_sem, r0, r1, r2]) rfl ⟨opP_end Hr.out rfl, ?_⟩
    exact belC (belC (belC (belN b2 hb3) _ _ (Nat.le_refl _) _) _ _ (Nat.le_refl _) _) _ _ (Nat.le_refl _) _
 ·have Hr := Lib.hid (opP_none s (show opOf s = none by unfold opOf; rw [ho]))
  have hR := (Blk.new' w 32 #[.int .i64 0, .string ⟨#[]⟩, .int .i64 0] w.heap.size).below hb1 (by simp)
  have b1 := belN (belA (bel0 w) _) hb1
  obtain ⟨r0, r1, r2⟩ := hR.g3
  obtain ⟨fr0, fr1, fr2⟩ := hR.f3
  clear ho
  go_wp2
  refine bodyPost_ret (v := .tuple #[.agg #[.int .i64 0, .string ⟨#[]⟩, .int .i64 0], .bool false]) (by simp [results, Tryz.results54, go_sem, r0, r1, r2]) rfl ⟨opP_end Hr.out rfl, ?_⟩
  exact belC (belC (belC b1 _ _ (Nat.le_refl _) _) _ _ (Nat.le_refl _) _) _ _ (Nat.le_refl _) _

end Go.Proofs.YtghgafbfpejinaaGreatDoor
