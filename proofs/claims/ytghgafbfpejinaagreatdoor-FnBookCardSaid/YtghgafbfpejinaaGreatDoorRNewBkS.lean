/- The reference's new book. -/
import Derived.Test.YtghgafbfpejinaaGreatDoorRNewBk
namespace Go.Proofs.YtghgafbfpejinaaGreatDoor
open Go Go.RowKit

set_option maxRecDepth 100000 in
set_option maxHeartbeats 40000000 in
theorem newBook_spec (w : World) :
  Calls Tryz.prog 63 #[] w fun e w' => ∃ v lo up, e = .returned v ∧ w.heap.size ≤ lo ∧ InAt (OwnBk lo v newB) lo up w' ∧ Below w.heap.size w w' := by
 obtain ⟨S, hS⟩ : ∃ S, showHomeB 0 [] = S := ⟨_, rfl⟩
 have HS := Lib.hid hS
 clear hS
 go_enter Tryz.func63, Tryz.ntmps63
 have hmk : ∀ W : World, (Instr.makeSlice 24 (.int .i64 6) (.int .i64 6)).run Tryz.prog W = .ok (.slice (some ⟨W.heap.size, 0, none⟩) 6 6) (W.alloc (.cells #[.string ⟨#[]⟩, .string ⟨#[]⟩, .string ⟨#[]⟩, .string ⟨#[]⟩, .string ⟨#[]⟩, .string ⟨#[]⟩] 9)) :=
  fun W => by
   have h := make_any (P := Tryz.prog) 24 9 (.string ⟨#[]⟩) 1 16 Tryz.underlying24 (by kernel_rfl) 6 (by omega) (by omega) W
   rw [show madeCells (Value.string ⟨#[]⟩).cells (6 * 1) = #[.string ⟨#[]⟩, .string ⟨#[]⟩, .string ⟨#[]⟩, .string ⟨#[]⟩, .string ⟨#[]⟩, .string ⟨#[]⟩] by kernel_rfl] at h
   exact h
 obtain ⟨W1, hW1⟩ : ∃ W1, w.alloc (.cells zB_ 28) = W1 := ⟨_, rfl⟩
 have B1 : Below w.heap.size w W1 := by rw [← hW1]; exact belA (bel0 w) _
 have S1 : W1.heap.size = w.heap.size + 1 := by rw [← hW1]; simp
 have hV : Blk W1 w.heap.size 28 zB_ := by rw [← hW1]; exact Blk.new' _ _ _ _ rfl
 have HW1 := Lib.hid hW1
 have HV := Lib.hid hV
 clear hW1 hV
 go_wp2_with fail
 rw [HW1.out]
 have HC0 := Lib.hid (show Calls Tryz.prog 49 #[.int .i64 0, .slice (some ⟨w.heap.size + 1 + 1, 0, none⟩) 0 0] ((W1.alloc (.cells #[.string ⟨#[]⟩, .string ⟨#[]⟩, .string ⟨#[]⟩, .string ⟨#[]⟩, .string ⟨#[]⟩, .string ⟨#[]⟩] 9)).alloc (.cells #[] 66)).drew fun e w' => e = .returned (.string S) ∧ Below (((W1.alloc (.cells #[.string ⟨#[]⟩, .string ⟨#[]⟩, .string ⟨#[]⟩, .string ⟨#[]⟩, .string ⟨#[]⟩, .string ⟨#[]⟩] 9)).alloc (.cells #[] 66)).drew).heap.size ((W1.alloc (.cells #[.string ⟨#[]⟩, .string ⟨#[]⟩, .string ⟨#[]⟩, .string ⟨#[]⟩, .string ⟨#[]⟩, .string ⟨#[]⟩] 9)).alloc (.cells #[] 66)).drew w' from by have h := showHome_spec 0 (.slice (some ⟨w.heap.size + 1 + 1, 0, none⟩) 0 0) [] (by decide) ((W1.alloc (.cells #[.string ⟨#[]⟩, .string ⟨#[]⟩, .string ⟨#[]⟩, .string ⟨#[]⟩, .string ⟨#[]⟩, .string ⟨#[]⟩] 9)).alloc (.cells #[] 66)).drew ⟨_, _, rfl, ⟨by simp [ES], fun h => (Nat.not_lt_zero _ h).elim⟩⟩; rw [HS.out] at h; exact h)
 have HC1 := Lib.hid (show Calls Tryz.prog 49 #[.int .i64 0, .slice (some ⟨w.heap.size + 1, 0, none⟩) 0 0] ((W1.alloc (.cells #[] 66)).alloc (.cells #[.string ⟨#[]⟩, .string ⟨#[]⟩, .string ⟨#[]⟩, .string ⟨#[]⟩, .string ⟨#[]⟩, .string ⟨#[]⟩] 9)).drew fun e w' => e = .returned (.string S) ∧ Below (((W1.alloc (.cells #[] 66)).alloc (.cells #[.string ⟨#[]⟩, .string ⟨#[]⟩, .string ⟨#[]⟩, .string ⟨#[]⟩, .string ⟨#[]⟩, .string ⟨#[]⟩] 9)).drew).heap.size ((W1.alloc (.cells #[] 66)).alloc (.cells #[.string ⟨#[]⟩, .string ⟨#[]⟩, .string ⟨#[]⟩, .string ⟨#[]⟩, .string ⟨#[]⟩, .string ⟨#[]⟩] 9)).drew w' from by have h := showHome_spec 0 (.slice (some ⟨w.heap.size + 1, 0, none⟩) 0 0) [] (by decide) ((W1.alloc (.cells #[] 66)).alloc (.cells #[.string ⟨#[]⟩, .string ⟨#[]⟩, .string ⟨#[]⟩, .string ⟨#[]⟩, .string ⟨#[]⟩, .string ⟨#[]⟩] 9)).drew ⟨_, _, rfl, ⟨by simp [ES], fun h => (Nat.not_lt_zero _ h).elim⟩⟩; rw [HS.out] at h; exact h)
 have HC2 := Lib.hid (show Calls Tryz.prog 49 #[.int .i64 0, .slice (some ⟨w.heap.size + 1, 0, none⟩) 0 0] (W1.alloc (.cells #[] 66)).drew fun e w' => e = .returned (.string S) ∧ Below ((W1.alloc (.cells #[] 66)).drew).heap.size (W1.alloc (.cells #[] 66)).drew w' from by have h := showHome_spec 0 (.slice (some ⟨w.heap.size + 1, 0, none⟩) 0 0) [] (by decide) (W1.alloc (.cells #[] 66)).drew ⟨_, _, rfl, ⟨by simp [ES], fun h => (Nat.not_lt_zero _ h).elim⟩⟩; rw [HS.out] at h; exact h)
 go_region_with (go_at_call 49
                 first
                  | (with_reducible refine (HC0.out).mono ?_
                     rintro e w7 ⟨rfl, hb7⟩
                     have hU := ((HV.out.alloc (.cells #[.string ⟨#[]⟩, .string ⟨#[]⟩, .string ⟨#[]⟩, .string ⟨#[]⟩, .string ⟨#[]⟩, .string ⟨#[]⟩] 9)).alloc (.cells #[] 66)).drew.below hb7 (by simp; omega)
                     have hz : W1.heap.size + 2 ≤ w7.heap.size := by have := hb7.size; simp at this; omega
                     have hB := (B1.trans ((belA (belA (bel0 W1) (.cells #[.string ⟨#[]⟩, .string ⟨#[]⟩, .string ⟨#[]⟩, .string ⟨#[]⟩, .string ⟨#[]⟩, .string ⟨#[]⟩] 9)) (.cells #[] 66)).drew.mono B1.size)).trans (hb7.mono (by simp; omega))
                     have x0 := World.ownsRow_lit (e := 9) (size := 1) W1 #[.string ⟨#[]⟩, .string ⟨#[]⟩, .string ⟨#[]⟩, .string ⟨#[]⟩, .string ⟨#[]⟩, .string ⟨#[]⟩] 6 (Nat.le_refl _) (by unfold maxLen; omega) rfl
                     have x1 := own_below x0 (belA (bel0 _) (.cells #[] 66)) (Nat.le_refl _)
                     have hA := own_below (w := ((W1.alloc (.cells #[.string ⟨#[]⟩, .string ⟨#[]⟩, .string ⟨#[]⟩, .string ⟨#[]⟩, .string ⟨#[]⟩, .string ⟨#[]⟩] 9)).alloc (.cells #[] 66)).drew) x1 hb7 (Nat.le_refl _)
                     simp only [S1] at hA
                     have HA := Lib.hid hA
                     clear hA x0 x1)
                  | (with_reducible refine (HC1.out).mono ?_
                     rintro e w7 ⟨rfl, hb7⟩
                     have hU := ((HV.out.alloc (.cells #[] 66)).alloc (.cells #[.string ⟨#[]⟩, .string ⟨#[]⟩, .string ⟨#[]⟩, .string ⟨#[]⟩, .string ⟨#[]⟩, .string ⟨#[]⟩] 9)).drew.below hb7 (by simp; omega)
                     have hz : W1.heap.size + 2 ≤ w7.heap.size := by have := hb7.size; simp at this; omega
                     have hB := (B1.trans ((belA (belA (bel0 W1) (.cells #[] 66)) (.cells #[.string ⟨#[]⟩, .string ⟨#[]⟩, .string ⟨#[]⟩, .string ⟨#[]⟩, .string ⟨#[]⟩, .string ⟨#[]⟩] 9)).drew.mono B1.size)).trans (hb7.mono (by simp; omega))
                     have x0 := World.ownsRow_lit (e := 9) (size := 1) (W1.alloc (.cells #[] 66)) #[.string ⟨#[]⟩, .string ⟨#[]⟩, .string ⟨#[]⟩, .string ⟨#[]⟩, .string ⟨#[]⟩, .string ⟨#[]⟩] 6 (Nat.le_refl _) (by unfold maxLen; omega) rfl
                     have hA := own_below (w := ((W1.alloc (.cells #[] 66)).alloc (.cells #[.string ⟨#[]⟩, .string ⟨#[]⟩, .string ⟨#[]⟩, .string ⟨#[]⟩, .string ⟨#[]⟩, .string ⟨#[]⟩] 9)).drew) x0 hb7 (Nat.le_refl _)
                     simp only [sz_al, S1] at hA
                     have HA := Lib.hid hA
                     clear hA x0)
                  | (with_reducible refine (HC2.out).mono ?_
                     rintro e w7 ⟨rfl, hb7⟩
                     have hU := (HV.out.alloc (.cells #[] 66)).drew.below hb7 (by simp; omega)
                     have hz : W1.heap.size + 1 ≤ w7.heap.size := by have := hb7.size; simp at this; omega
                     have hB := (B1.trans ((belA (bel0 W1) (.cells #[] 66)).drew.mono B1.size)).trans (hb7.mono (by simp; omega)))
                 have z7 := hb7.size
                 obtain ⟨c0, c1, c2, c3, c4, c5, c6, c7, c8⟩ := hU.g9
                 obtain ⟨f0, f1, f2, f3, f4, f5, f6, f7, f8⟩ := hU.f9
                 have lU := hU.lt)
 ·obtain ⟨w9, h9, hO, s9, hbl, hoth⟩ := nb_put w7 w.heap.size (.slice (some ⟨w.heap.size + 1, 0, none⟩) 6 6) (.slice (some ⟨w7.heap.size, 0, none⟩) 2 2) hU
  have b9 : Below w.heap.size w w9 := hbl _ _ (Nat.le_refl _) hB
  have o1 := Lib.hid (own_same HA.out (hoth _ (by omega)))
  rw [h9]
  clear h9 hoth hbl c0 c1 c2 c3 c4 c5 c6 c7 c8 f0 f1 f2 f3 f4 f5 f6 f7 f8 hU hb7
  obtain ⟨r0, r1, r2, r3, r4, r5, r6, r7, r8⟩ := hO.g9
  have lO := hO.lt
  have HE := Lib.hid (hO.alloc (.cells #[.string S, .string ⟨#[]⟩] 9))
  clear hO
  go_wp2
  obtain ⟨q0, q1, q2, q3, q4, q5, q6, q7, q8⟩ := HE.out.g9
  have e9 := bel0 w9
  have p1 := own_more (own_below (o1.out) (belA (bel0 _) (.cells #[.string S, .string ⟨#[]⟩] 9)) (Nat.le_refl _)) (show w.heap.size + 1 ≤ _ by first | omega | (simp; omega))
  have p2 := own_more (World.ownsRow_lit (e := 9) (size := 1) w9 #[.string S, .string ⟨#[]⟩] 2 (Nat.le_refl _) (by unfold maxLen; omega) rfl) (show w.heap.size + 1 ≤ _ by first | omega | (simp; omega))
  simp only [s9] at p1 p2
  refine bodyPost_ret (v := .agg #[.slice (some ⟨w.heap.size + 1, 0, none⟩) 6 6, .slice (some ⟨w7.heap.size, 0, none⟩) 2 2, .slice none 0 0, .slice none 0 0, .int .i64 0, .int .i64 0, .int .i64 0, .int .i64 0, .int .i64 0]) (by simp [results, Tryz.results63, go_sem, q0, q1, q2, q3, q4, q5, q6, q7, q8]) rfl ⟨_, w.heap.size + 1, _, rfl, by omega, BkH.inAt ⟨_, _, _, _, ⟨_, _, _, _, _, _, _, _, rfl, rfl, rfl, rfl, rfl⟩, own_in (xs := SS newB.rg) ?_, own_in (xs := SS newB.hm) ?_, own_in (own_nil0 _ _ _ _), own_in (own_nil0 _ _ _ _), ?_, ?_, ?_, ?_, ?_, ?_⟩, ?_⟩
  ·exact p1
  ·show World.ownsRow _ _ _ _ _ _ [.string (showHomeB 0 []), .string ⟨#[]⟩]; rw [HS.out]; exact p2
  ·exact .inr (.inr (by simp [Value.ownBlock] <;> omega))
  ·exact .inr (.inl rfl)
  ·exact .inr (.inl rfl)
  ·exact .inr (.inl rfl)
  ·exact .inr (.inl rfl)
  ·exact .inr (.inl rfl)
  ·exact (belA b9 (.cells #[.string S, .string ⟨#[]⟩] 9))
 ·obtain ⟨w9, h9, hO, s9, hbl, hoth⟩ := nb_put w7 w.heap.size (.slice (some ⟨w.heap.size + 1 + 1, 0, none⟩) 6 6) (.slice (some ⟨w7.heap.size, 0, none⟩) 2 2) hU
  have b9 : Below w.heap.size w w9 := hbl _ _ (Nat.le_refl _) hB
  have o1 := Lib.hid (own_same HA.out (hoth _ (by omega)))
  rw [h9]
  clear h9 hoth hbl c0 c1 c2 c3 c4 c5 c6 c7 c8 f0 f1 f2 f3 f4 f5 f6 f7 f8 hU hb7
  obtain ⟨r0, r1, r2, r3, r4, r5, r6, r7, r8⟩ := hO.g9
  have lO := hO.lt
  have HE := Lib.hid (hO.alloc (.cells #[.string S, .string ⟨#[]⟩] 9))
  clear hO
  go_wp2
  obtain ⟨q0, q1, q2, q3, q4, q5, q6, q7, q8⟩ := HE.out.g9
  have e9 := bel0 w9
  have p1 := own_more (own_below (o1.out) (belA (bel0 _) (.cells #[.string S, .string ⟨#[]⟩] 9)) (Nat.le_refl _)) (show w.heap.size + 1 ≤ _ by first | omega | (simp; omega))
  have p2 := own_more (World.ownsRow_lit (e := 9) (size := 1) w9 #[.string S, .string ⟨#[]⟩] 2 (Nat.le_refl _) (by unfold maxLen; omega) rfl) (show w.heap.size + 1 ≤ _ by first | omega | (simp; omega))
  simp only [s9] at p1 p2
  refine bodyPost_ret (v := .agg #[.slice (some ⟨w.heap.size + 1 + 1, 0, none⟩) 6 6, .slice (some ⟨w7.heap.size, 0, none⟩) 2 2, .slice none 0 0, .slice none 0 0, .int .i64 0, .int .i64 0, .int .i64 0, .int .i64 0, .int .i64 0]) (by simp [results, Tryz.results63, go_sem, q0, q1, q2, q3, q4, q5, q6, q7, q8]) rfl ⟨_, w.heap.size + 1, _, rfl, by omega, BkH.inAt ⟨_, _, _, _, ⟨_, _, _, _, _, _, _, _, rfl, rfl, rfl, rfl, rfl⟩, own_in (xs := SS newB.rg) ?_, own_in (xs := SS newB.hm) ?_, own_in (own_nil0 _ _ _ _), own_in (own_nil0 _ _ _ _), ?_, ?_, ?_, ?_, ?_, ?_⟩, ?_⟩
  ·exact p1
  ·show World.ownsRow _ _ _ _ _ _ [.string (showHomeB 0 []), .string ⟨#[]⟩]; rw [HS.out]; exact p2
  ·exact .inr (.inr (by simp [Value.ownBlock] <;> omega))
  ·exact .inr (.inl rfl)
  ·exact .inr (.inl rfl)
  ·exact .inr (.inl rfl)
  ·exact .inr (.inl rfl)
  ·exact .inr (.inl rfl)
  ·exact (belA b9 (.cells #[.string S, .string ⟨#[]⟩] 9))
 ·obtain ⟨w9, h9, hO, s9, hbl, hoth⟩ := nb_put w7 w.heap.size (.slice (some ⟨w7.heap.size, 0, none⟩) 6 6) (.slice (some ⟨w7.heap.size + 1, 0, none⟩) 2 2) hU
  have b9 : Below w.heap.size w w9 := hbl _ _ (Nat.le_refl _) hB
  rw [h9]
  clear h9 hoth hbl c0 c1 c2 c3 c4 c5 c6 c7 c8 f0 f1 f2 f3 f4 f5 f6 f7 f8 hU hb7
  obtain ⟨r0, r1, r2, r3, r4, r5, r6, r7, r8⟩ := hO.g9
  have lO := hO.lt
  have HE := Lib.hid ((hO.alloc (.cells #[.string ⟨#[]⟩, .string ⟨#[]⟩, .string ⟨#[]⟩, .string ⟨#[]⟩, .string ⟨#[]⟩, .string ⟨#[]⟩] 9)).alloc (.cells #[.string S, .string ⟨#[]⟩] 9))
  clear hO
  go_wp2
  obtain ⟨q0, q1, q2, q3, q4, q5, q6, q7, q8⟩ := HE.out.g9
  have e9 := bel0 w9
  have p1 := own_more (own_below (World.ownsRow_lit (e := 9) (size := 1) w9 #[.string ⟨#[]⟩, .string ⟨#[]⟩, .string ⟨#[]⟩, .string ⟨#[]⟩, .string ⟨#[]⟩, .string ⟨#[]⟩] 6 (Nat.le_refl _) (by unfold maxLen; omega) rfl) (belA (bel0 _) (.cells #[.string S, .string ⟨#[]⟩] 9)) (Nat.le_refl _)) (show w.heap.size + 1 ≤ _ by first | omega | (simp; omega))
  have p2 := own_more (World.ownsRow_lit (e := 9) (size := 1) (w9.alloc (.cells #[.string ⟨#[]⟩, .string ⟨#[]⟩, .string ⟨#[]⟩, .string ⟨#[]⟩, .string ⟨#[]⟩, .string ⟨#[]⟩] 9)) #[.string S, .string ⟨#[]⟩] 2 (Nat.le_refl _) (by unfold maxLen; omega) rfl) (show w.heap.size + 1 ≤ _ by first | omega | (simp; omega))
  simp only [sz_al, s9] at p1 p2
  refine bodyPost_ret (v := .agg #[.slice (some ⟨w7.heap.size, 0, none⟩) 6 6, .slice (some ⟨w7.heap.size + 1, 0, none⟩) 2 2, .slice none 0 0, .slice none 0 0, .int .i64 0, .int .i64 0, .int .i64 0, .int .i64 0, .int .i64 0]) (by simp [results, Tryz.results63, go_sem, q0, q1, q2, q3, q4, q5, q6, q7, q8]) rfl ⟨_, w.heap.size + 1, _, rfl, by omega, BkH.inAt ⟨_, _, _, _, ⟨_, _, _, _, _, _, _, _, rfl, rfl, rfl, rfl, rfl⟩, own_in (xs := SS newB.rg) ?_, own_in (xs := SS newB.hm) ?_, own_in (own_nil0 _ _ _ _), own_in (own_nil0 _ _ _ _), ?_, ?_, ?_, ?_, ?_, ?_⟩, ?_⟩
  ·exact p1
  ·show World.ownsRow _ _ _ _ _ _ [.string (showHomeB 0 []), .string ⟨#[]⟩]; rw [HS.out]; exact p2
  ·exact .inr (.inr (by simp [Value.ownBlock] <;> omega))
  ·exact .inr (.inl rfl)
  ·exact .inr (.inl rfl)
  ·exact .inr (.inl rfl)
  ·exact .inr (.inl rfl)
  ·exact .inr (.inl rfl)
  ·exact (belA (belA b9 (.cells #[.string ⟨#[]⟩, .string ⟨#[]⟩, .string ⟨#[]⟩, .string ⟨#[]⟩, .string ⟨#[]⟩, .string ⟨#[]⟩] 9)) (.cells #[.string S, .string ⟨#[]⟩] 9))
 ·obtain ⟨w9, h9, hO, s9, hbl, hoth⟩ := nb_put w7 w.heap.size (.slice (some ⟨w7.heap.size + 1, 0, none⟩) 6 6) (.slice (some ⟨w7.heap.size, 0, none⟩) 2 2) hU
  have b9 : Below w.heap.size w w9 := hbl _ _ (Nat.le_refl _) hB
  rw [h9]
  clear h9 hoth hbl c0 c1 c2 c3 c4 c5 c6 c7 c8 f0 f1 f2 f3 f4 f5 f6 f7 f8 hU hb7
  obtain ⟨r0, r1, r2, r3, r4, r5, r6, r7, r8⟩ := hO.g9
  have lO := hO.lt
  have HE := Lib.hid ((hO.alloc (.cells #[.string S, .string ⟨#[]⟩] 9)).alloc (.cells #[.string ⟨#[]⟩, .string ⟨#[]⟩, .string ⟨#[]⟩, .string ⟨#[]⟩, .string ⟨#[]⟩, .string ⟨#[]⟩] 9))
  clear hO
  go_wp2
  obtain ⟨q0, q1, q2, q3, q4, q5, q6, q7, q8⟩ := HE.out.g9
  have e9 := bel0 w9
  have p1 := own_more (World.ownsRow_lit (e := 9) (size := 1) (w9.alloc (.cells #[.string S, .string ⟨#[]⟩] 9)) #[.string ⟨#[]⟩, .string ⟨#[]⟩, .string ⟨#[]⟩, .string ⟨#[]⟩, .string ⟨#[]⟩, .string ⟨#[]⟩] 6 (Nat.le_refl _) (by unfold maxLen; omega) rfl) (show w.heap.size + 1 ≤ _ by first | omega | (simp; omega))
  have p2 := own_more (own_below (World.ownsRow_lit (e := 9) (size := 1) w9 #[.string S, .string ⟨#[]⟩] 2 (Nat.le_refl _) (by unfold maxLen; omega) rfl) (belA (bel0 _) (.cells #[.string ⟨#[]⟩, .string ⟨#[]⟩, .string ⟨#[]⟩, .string ⟨#[]⟩, .string ⟨#[]⟩, .string ⟨#[]⟩] 9)) (Nat.le_refl _)) (show w.heap.size + 1 ≤ _ by first | omega | (simp; omega))
  simp only [sz_al, s9] at p1 p2
  refine bodyPost_ret (v := .agg #[.slice (some ⟨w7.heap.size + 1, 0, none⟩) 6 6, .slice (some ⟨w7.heap.size, 0, none⟩) 2 2, .slice none 0 0, .slice none 0 0, .int .i64 0, .int .i64 0, .int .i64 0, .int .i64 0, .int .i64 0]) (by simp [results, Tryz.results63, go_sem, q0, q1, q2, q3, q4, q5, q6, q7, q8]) rfl ⟨_, w.heap.size + 1, _, rfl, by omega, BkH.inAt ⟨_, _, _, _, ⟨_, _, _, _, _, _, _, _, rfl, rfl, rfl, rfl, rfl⟩, own_in (xs := SS newB.rg) ?_, own_in (xs := SS newB.hm) ?_, own_in (own_nil0 _ _ _ _), own_in (own_nil0 _ _ _ _), ?_, ?_, ?_, ?_, ?_, ?_⟩, ?_⟩
  ·exact p1
  ·show World.ownsRow _ _ _ _ _ _ [.string (showHomeB 0 []), .string ⟨#[]⟩]; rw [HS.out]; exact p2
  ·exact .inr (.inr (by simp [Value.ownBlock] <;> omega))
  ·exact .inr (.inl rfl)
  ·exact .inr (.inl rfl)
  ·exact .inr (.inl rfl)
  ·exact .inr (.inl rfl)
  ·exact .inr (.inl rfl)
  ·exact (belA (belA b9 (.cells #[.string S, .string ⟨#[]⟩] 9)) (.cells #[.string ⟨#[]⟩, .string ⟨#[]⟩, .string ⟨#[]⟩, .string ⟨#[]⟩, .string ⟨#[]⟩, .string ⟨#[]⟩] 9))

end Go.Proofs.YtghgafbfpejinaaGreatDoor
