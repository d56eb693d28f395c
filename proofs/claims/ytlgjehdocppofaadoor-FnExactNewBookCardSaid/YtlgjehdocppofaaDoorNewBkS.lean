/- The reference's new book. -/
import Derived.Test.YtlgjehdocppofaaDoorNewBk
namespace Go.Proofs.YtlgjehdocppofaaDoor
open Go Go.RowKit

set_option maxRecDepth 100000 in
set_option maxHeartbeats 40000000 in
theorem newBook_spec (w : World) :
    Calls Tryd.prog 8 #[] w fun e w' => ∃ v lo up, e = .returned v ∧ w.heap.size ≤ lo ∧ InAt (OwnBk lo v newB) lo up w' ∧ Below w.heap.size w w' := by
  obtain ⟨S, hS⟩ : ∃ S, showHomeB 0 [] = S := ⟨_, rfl⟩
  have HS := Lib.hid hS
  clear hS
  go_enter Tryd.func8, Tryd.ntmps8
  have hmk : ∀ W : World, (Instr.makeSlice 22 (.int .i64 6) (.int .i64 6)).run Tryd.prog W = .ok (.slice (some ⟨W.heap.size, 0, none⟩) 6 6) (W.alloc (.cells #[.string ⟨#[]⟩, .string ⟨#[]⟩, .string ⟨#[]⟩, .string ⟨#[]⟩, .string ⟨#[]⟩, .string ⟨#[]⟩] 9)) :=
    fun W => by
      have h := make_any (P := Tryd.prog) 22 9 (.string ⟨#[]⟩) 1 16 Tryd.underlying22 (by kernel_rfl) 6 (by omega) (by omega) W
      rw [show madeCells (Value.string ⟨#[]⟩).cells (6 * 1) = #[.string ⟨#[]⟩, .string ⟨#[]⟩, .string ⟨#[]⟩, .string ⟨#[]⟩, .string ⟨#[]⟩, .string ⟨#[]⟩] by kernel_rfl] at h
      exact h
  obtain ⟨W1, hW1⟩ : ∃ W1, w.alloc (.cells #[.slice none 0 0, .slice none 0 0, .slice none 0 0, .slice none 0 0, .int .i64 0, .int .i64 0, .int .i64 0, .int .i64 0, .int .i64 0] 26) = W1 := ⟨_, rfl⟩
  have B1 : Below w.heap.size w W1 := by rw [← hW1]; exact belA (bel0 w) _
  have S1 : W1.heap.size = w.heap.size + 1 := by rw [← hW1]; simp
  have hV : Blk W1 w.heap.size 26 #[.slice none 0 0, .slice none 0 0, .slice none 0 0, .slice none 0 0, .int .i64 0, .int .i64 0, .int .i64 0, .int .i64 0, .int .i64 0] := by rw [← hW1]; exact Blk.new' _ _ _ _ rfl
  have HW1 := Lib.hid hW1
  have HV := Lib.hid hV
  clear hW1 hV
  go_wp2_with fail
  rw [HW1.out]
  have HC0 := Lib.hid (show Calls Tryd.prog 42 #[.int .i64 0, .slice (some ⟨w.heap.size + 1 + 1, 0, none⟩) 0 0] ((W1.alloc (.cells #[.string ⟨#[]⟩, .string ⟨#[]⟩, .string ⟨#[]⟩, .string ⟨#[]⟩, .string ⟨#[]⟩, .string ⟨#[]⟩] 9)).alloc (.cells #[] 93)).drew fun e w' => e = .returned (.string S) ∧ Below (((W1.alloc (.cells #[.string ⟨#[]⟩, .string ⟨#[]⟩, .string ⟨#[]⟩, .string ⟨#[]⟩, .string ⟨#[]⟩, .string ⟨#[]⟩] 9)).alloc (.cells #[] 93)).drew).heap.size ((W1.alloc (.cells #[.string ⟨#[]⟩, .string ⟨#[]⟩, .string ⟨#[]⟩, .string ⟨#[]⟩, .string ⟨#[]⟩, .string ⟨#[]⟩] 9)).alloc (.cells #[] 93)).drew w' from by have h := showHome_spec 0 (.slice (some ⟨w.heap.size + 1 + 1, 0, none⟩) 0 0) [] (by decide) ((W1.alloc (.cells #[.string ⟨#[]⟩, .string ⟨#[]⟩, .string ⟨#[]⟩, .string ⟨#[]⟩, .string ⟨#[]⟩, .string ⟨#[]⟩] 9)).alloc (.cells #[] 93)).drew ⟨_, _, rfl, ⟨by simp [ES], fun h => (Nat.not_lt_zero _ h).elim⟩⟩; rw [HS.out] at h; exact h)
  have HC1 := Lib.hid (show Calls Tryd.prog 42 #[.int .i64 0, .slice (some ⟨w.heap.size + 1, 0, none⟩) 0 0] ((W1.alloc (.cells #[] 93)).alloc (.cells #[.string ⟨#[]⟩, .string ⟨#[]⟩, .string ⟨#[]⟩, .string ⟨#[]⟩, .string ⟨#[]⟩, .string ⟨#[]⟩] 9)).drew fun e w' => e = .returned (.string S) ∧ Below (((W1.alloc (.cells #[] 93)).alloc (.cells #[.string ⟨#[]⟩, .string ⟨#[]⟩, .string ⟨#[]⟩, .string ⟨#[]⟩, .string ⟨#[]⟩, .string ⟨#[]⟩] 9)).drew).heap.size ((W1.alloc (.cells #[] 93)).alloc (.cells #[.string ⟨#[]⟩, .string ⟨#[]⟩, .string ⟨#[]⟩, .string ⟨#[]⟩, .string ⟨#[]⟩, .string ⟨#[]⟩] 9)).drew w' from by have h := showHome_spec 0 (.slice (some ⟨w.heap.size + 1, 0, none⟩) 0 0) [] (by decide) ((W1.alloc (.cells #[] 93)).alloc (.cells #[.string ⟨#[]⟩, .string ⟨#[]⟩, .string ⟨#[]⟩, .string ⟨#[]⟩, .string ⟨#[]⟩, .string ⟨#[]⟩] 9)).drew ⟨_, _, rfl, ⟨by simp [ES], fun h => (Nat.not_lt_zero _ h).elim⟩⟩; rw [HS.out] at h; exact h)
  have HC2 := Lib.hid (show Calls Tryd.prog 42 #[.int .i64 0, .slice (some ⟨w.heap.size + 1, 0, none⟩) 0 0] (W1.alloc (.cells #[] 93)).drew fun e w' => e = .returned (.string S) ∧ Below ((W1.alloc (.cells #[] 93)).drew).heap.size (W1.alloc (.cells #[] 93)).drew w' from by have h := showHome_spec 0 (.slice (some ⟨w.heap.size + 1, 0, none⟩) 0 0) [] (by decide) (W1.alloc (.cells #[] 93)).drew ⟨_, _, rfl, ⟨by simp [ES], fun h => (Nat.not_lt_zero _ h).elim⟩⟩; rw [HS.out] at h; exact h)
  go_region_with (go_at_call 42
                  first
                    | (with_reducible refine (HC0.out).mono ?_
                       rintro e w7 ⟨rfl, hb7⟩
                       have hU := ((HV.out.alloc (.cells #[.string ⟨#[]⟩, .string ⟨#[]⟩, .string ⟨#[]⟩, .string ⟨#[]⟩, .string ⟨#[]⟩, .string ⟨#[]⟩] 9)).alloc (.cells #[] 93)).drew.below hb7 (by simp; omega)
                       have hz : W1.heap.size + 2 ≤ w7.heap.size := by have := hb7.size; simp at this; omega
                       have hB := (B1.trans ((belA (belA (bel0 W1) (.cells #[.string ⟨#[]⟩, .string ⟨#[]⟩, .string ⟨#[]⟩, .string ⟨#[]⟩, .string ⟨#[]⟩, .string ⟨#[]⟩] 9)) (.cells #[] 93)).drew.mono B1.size)).trans (hb7.mono (by simp; omega))
                       have x0 := World.ownsRow_lit (e := 9) (size := 1) W1 #[.string ⟨#[]⟩, .string ⟨#[]⟩, .string ⟨#[]⟩, .string ⟨#[]⟩, .string ⟨#[]⟩, .string ⟨#[]⟩] 6 (Nat.le_refl _) (by unfold maxLen; omega) rfl
                       have x1 := own_below x0 (belA (bel0 _) (.cells #[] 93)) (Nat.le_refl _)
                       have hA := own_below (w := ((W1.alloc (.cells #[.string ⟨#[]⟩, .string ⟨#[]⟩, .string ⟨#[]⟩, .string ⟨#[]⟩, .string ⟨#[]⟩, .string ⟨#[]⟩] 9)).alloc (.cells #[] 93)).drew) x1 hb7 (Nat.le_refl _)
                       simp only [S1] at hA
                       have HA := Lib.hid hA
                       clear hA x0 x1)
                    | (with_reducible refine (HC1.out).mono ?_
                       rintro e w7 ⟨rfl, hb7⟩
                       have hU := ((HV.out.alloc (.cells #[] 93)).alloc (.cells #[.string ⟨#[]⟩, .string ⟨#[]⟩, .string ⟨#[]⟩, .string ⟨#[]⟩, .string ⟨#[]⟩, .string ⟨#[]⟩] 9)).drew.below hb7 (by simp; omega)
                       have hz : W1.heap.size + 2 ≤ w7.heap.size := by have := hb7.size; simp at this; omega
                       have hB := (B1.trans ((belA (belA (bel0 W1) (.cells #[] 93)) (.cells #[.string ⟨#[]⟩, .string ⟨#[]⟩, .string ⟨#[]⟩, .string ⟨#[]⟩, .string ⟨#[]⟩, .string ⟨#[]⟩] 9)).drew.mono B1.size)).trans (hb7.mono (by simp; omega))
                       have x0 := World.ownsRow_lit (e := 9) (size := 1) (W1.alloc (.cells #[] 93)) #[.string ⟨#[]⟩, .string ⟨#[]⟩, .string ⟨#[]⟩, .string ⟨#[]⟩, .string ⟨#[]⟩, .string ⟨#[]⟩] 6 (Nat.le_refl _) (by unfold maxLen; omega) rfl
                       have hA := own_below (w := ((W1.alloc (.cells #[] 93)).alloc (.cells #[.string ⟨#[]⟩, .string ⟨#[]⟩, .string ⟨#[]⟩, .string ⟨#[]⟩, .string ⟨#[]⟩, .string ⟨#[]⟩] 9)).drew) x0 hb7 (Nat.le_refl _)
                       simp only [sz_al, S1] at hA
                       have HA := Lib.hid hA
                       clear hA x0)
                    | (with_reducible refine (HC2.out).mono ?_
                       rintro e w7 ⟨rfl, hb7⟩
                       have hU := (HV.out.alloc (.cells #[] 93)).drew.below hb7 (by simp; omega)
                       have hz : W1.heap.size + 1 ≤ w7.heap.size := by have := hb7.size; simp at this; omega
                       have hB := (B1.trans ((belA (bel0 W1) (.cells #[] 93)).drew.mono B1.size)).trans (hb7.mono (by simp; omega)))
                  have z7 := hb7.size
                  have c0 := hU.get 0 rfl
                  have c1 := hU.get 1 rfl
                  have c2 := hU.get 2 rfl
                  have c3 := hU.get 3 rfl
                  have c4 := hU.get 4 rfl
                  have c5 := hU.get 5 rfl
                  have c6 := hU.get 6 rfl
                  have c7 := hU.get 7 rfl
                  have c8 := hU.get 8 rfl
                  have f0 := hU.frozen 0
                  have f1 := hU.frozen 1
                  have f2 := hU.frozen 2
                  have f3 := hU.frozen 3
                  have f4 := hU.frozen 4
                  have f5 := hU.frozen 5
                  have f6 := hU.frozen 6
                  have f7 := hU.frozen 7
                  have f8 := hU.frozen 8
                  have lU := hU.lt)
  · obtain ⟨w9, h9, hO, s9, hbl, hoth⟩ := nb_put w7 w.heap.size (.slice (some ⟨w.heap.size + 1, 0, none⟩) 6 6) (.slice (some ⟨w7.heap.size, 0, none⟩) 2 2) hU
    have b9 : Below w.heap.size w w9 := hbl _ _ (Nat.le_refl _) hB
    have o1 := Lib.hid (own_same HA.out (hoth _ (by omega)))
    rw [h9]
    clear h9 hoth hbl c0 c1 c2 c3 c4 c5 c6 c7 c8 f0 f1 f2 f3 f4 f5 f6 f7 f8 hU hb7
    have r0 := hO.get 0 rfl
    have r1 := hO.get 1 rfl
    have r2 := hO.get 2 rfl
    have r3 := hO.get 3 rfl
    have r4 := hO.get 4 rfl
    have r5 := hO.get 5 rfl
    have r6 := hO.get 6 rfl
    have r7 := hO.get 7 rfl
    have r8 := hO.get 8 rfl
    have lO := hO.lt
    have HE := Lib.hid (hO.alloc (.cells #[.string S, .string ⟨#[]⟩] 9))
    clear hO
    go_wp2
    have q0 := HE.out.get 0 rfl
    have q1 := HE.out.get 1 rfl
    have q2 := HE.out.get 2 rfl
    have q3 := HE.out.get 3 rfl
    have q4 := HE.out.get 4 rfl
    have q5 := HE.out.get 5 rfl
    have q6 := HE.out.get 6 rfl
    have q7 := HE.out.get 7 rfl
    have q8 := HE.out.get 8 rfl
    have e9 := bel0 w9
    have p1 := own_more (own_below (o1.out) (belA (bel0 _) (.cells #[.string S, .string ⟨#[]⟩] 9)) (Nat.le_refl _)) (show w.heap.size + 1 ≤ _ by first | omega | (simp; omega))
    have p2 := own_more (World.ownsRow_lit (e := 9) (size := 1) w9 #[.string S, .string ⟨#[]⟩] 2 (Nat.le_refl _) (by unfold maxLen; omega) rfl) (show w.heap.size + 1 ≤ _ by first | omega | (simp; omega))
    simp only [s9] at p1 p2
    refine bodyPost_ret (v := .agg #[.slice (some ⟨w.heap.size + 1, 0, none⟩) 6 6, .slice (some ⟨w7.heap.size, 0, none⟩) 2 2, .slice none 0 0, .slice none 0 0, .int .i64 0, .int .i64 0, .int .i64 0, .int .i64 0, .int .i64 0]) (by simp [results, Tryd.results8, go_sem, q0, q1, q2, q3, q4, q5, q6, q7, q8]) rfl ⟨_, w.heap.size + 1, _, rfl, by omega, BkH.inAt ⟨_, _, _, _, ⟨_, _, _, _, _, _, _, _, rfl, rfl, rfl, rfl, rfl⟩, own_in (xs := SS newB.rg) ?_, own_in (xs := SS newB.hm) ?_, own_in (own_nil0 _ _ _ _), own_in (own_nil0 _ _ _ _), ?_, ?_, ?_, ?_, ?_, ?_⟩, ?_⟩
    · exact p1
    · show World.ownsRow _ _ _ _ _ _ [.string (showHomeB 0 []), .string ⟨#[]⟩]; rw [HS.out]; exact p2
    · exact .inr (.inr (by simp [Value.ownBlock] <;> omega))
    · exact .inr (.inl rfl)
    · exact .inr (.inl rfl)
    · exact .inr (.inl rfl)
    · exact .inr (.inl rfl)
    · exact .inr (.inl rfl)
    · exact (belA b9 (.cells #[.string S, .string ⟨#[]⟩] 9))
  · obtain ⟨w9, h9, hO, s9, hbl, hoth⟩ := nb_put w7 w.heap.size (.slice (some ⟨w.heap.size + 1 + 1, 0, none⟩) 6 6) (.slice (some ⟨w7.heap.size, 0, none⟩) 2 2) hU
    have b9 : Below w.heap.size w w9 := hbl _ _ (Nat.le_refl _) hB
    have o1 := Lib.hid (own_same HA.out (hoth _ (by omega)))
    rw [h9]
    clear h9 hoth hbl c0 c1 c2 c3 c4 c5 c6 c7 c8 f0 f1 f2 f3 f4 f5 f6 f7 f8 hU hb7
    have r0 := hO.get 0 rfl
    have r1 := hO.get 1 rfl
    have r2 := hO.get 2 rfl
    have r3 := hO.get 3 rfl
    have r4 := hO.get 4 rfl
    have r5 := hO.get 5 rfl
    have r6 := hO.get 6 rfl
    have r7 := hO.get 7 rfl
    have r8 := hO.get 8 rfl
    have lO := hO.lt
    have HE := Lib.hid (hO.alloc (.cells #[.string S, .string ⟨#[]⟩] 9))
    clear hO
    go_wp2
    have q0 := HE.out.get 0 rfl
    have q1 := HE.out.get 1 rfl
    have q2 := HE.out.get 2 rfl
    have q3 := HE.out.get 3 rfl
    have q4 := HE.out.get 4 rfl
    have q5 := HE.out.get 5 rfl
    have q6 := HE.out.get 6 rfl
    have q7 := HE.out.get 7 rfl
    have q8 := HE.out.get 8 rfl
    have e9 := bel0 w9
    have p1 := own_more (own_below (o1.out) (belA (bel0 _) (.cells #[.string S, .string ⟨#[]⟩] 9)) (Nat.le_refl _)) (show w.heap.size + 1 ≤ _ by first | omega | (simp; omega))
    have p2 := own_more (World.ownsRow_lit (e := 9) (size := 1) w9 #[.string S, .string ⟨#[]⟩] 2 (Nat.le_refl _) (by unfold maxLen; omega) rfl) (show w.heap.size + 1 ≤ _ by first | omega | (simp; omega))
    simp only [s9] at p1 p2
    refine bodyPost_ret (v := .agg #[.slice (some ⟨w.heap.size + 1 + 1, 0, none⟩) 6 6, .slice (some ⟨w7.heap.size, 0, none⟩) 2 2, .slice none 0 0, .slice none 0 0, .int .i64 0, .int .i64 0, .int .i64 0, .int .i64 0, .int .i64 0]) (by simp [results, Tryd.results8, go_sem, q0, q1, q2, q3, q4, q5, q6, q7, q8]) rfl ⟨_, w.heap.size + 1, _, rfl, by omega, BkH.inAt ⟨_, _, _, _, ⟨_, _, _, _, _, _, _, _, rfl, rfl, rfl, rfl, rfl⟩, own_in (xs := SS newB.rg) ?_, own_in (xs := SS newB.hm) ?_, own_in (own_nil0 _ _ _ _), own_in (own_nil0 _ _ _ _), ?_, ?_, ?_, ?_, ?_, ?_⟩, ?_⟩
    · exact p1
    · show World.ownsRow _ _ _ _ _ _ [.string (showHomeB 0 []), .string ⟨#[]⟩]; rw [HS.out]; exact p2
    · exact .inr (.inr (by simp [Value.ownBlock] <;> omega))
    · exact .inr (.inl rfl)
    · exact .inr (.inl rfl)
    · exact .inr (.inl rfl)
    · exact .inr (.inl rfl)
    · exact .inr (.inl rfl)
    · exact (belA b9 (.cells #[.string S, .string ⟨#[]⟩] 9))
  · obtain ⟨w9, h9, hO, s9, hbl, hoth⟩ := nb_put w7 w.heap.size (.slice (some ⟨w7.heap.size, 0, none⟩) 6 6) (.slice (some ⟨w7.heap.size + 1, 0, none⟩) 2 2) hU
    have b9 : Below w.heap.size w w9 := hbl _ _ (Nat.le_refl _) hB
    rw [h9]
    clear h9 hoth hbl c0 c1 c2 c3 c4 c5 c6 c7 c8 f0 f1 f2 f3 f4 f5 f6 f7 f8 hU hb7
    have r0 := hO.get 0 rfl
    have r1 := hO.get 1 rfl
    have r2 := hO.get 2 rfl
    have r3 := hO.get 3 rfl
    have r4 := hO.get 4 rfl
    have r5 := hO.get 5 rfl
    have r6 := hO.get 6 rfl
    have r7 := hO.get 7 rfl
    have r8 := hO.get 8 rfl
    have lO := hO.lt
    have HE := Lib.hid ((hO.alloc (.cells #[.string ⟨#[]⟩, .string ⟨#[]⟩, .string ⟨#[]⟩, .string ⟨#[]⟩, .string ⟨#[]⟩, .string ⟨#[]⟩] 9)).alloc (.cells #[.string S, .string ⟨#[]⟩] 9))
    clear hO
    go_wp2
    have q0 := HE.out.get 0 rfl
    have q1 := HE.out.get 1 rfl
    have q2 := HE.out.get 2 rfl
    have q3 := HE.out.get 3 rfl
    have q4 := HE.out.get 4 rfl
    have q5 := HE.out.get 5 rfl
    have q6 := HE.out.get 6 rfl
    have q7 := HE.out.get 7 rfl
    have q8 := HE.out.get 8 rfl
    have e9 := bel0 w9
    have p1 := own_more (own_below (World.ownsRow_lit (e := 9) (size := 1) w9 #[.string ⟨#[]⟩, .string ⟨#[]⟩, .string ⟨#[]⟩, .string ⟨#[]⟩, .string ⟨#[]⟩, .string ⟨#[]⟩] 6 (Nat.le_refl _) (by unfold maxLen; omega) rfl) (belA (bel0 _) (.cells #[.string S, .string ⟨#[]⟩] 9)) (Nat.le_refl _)) (show w.heap.size + 1 ≤ _ by first | omega | (simp; omega))
    have p2 := own_more (World.ownsRow_lit (e := 9) (size := 1) (w9.alloc (.cells #[.string ⟨#[]⟩, .string ⟨#[]⟩, .string ⟨#[]⟩, .string ⟨#[]⟩, .string ⟨#[]⟩, .string ⟨#[]⟩] 9)) #[.string S, .string ⟨#[]⟩] 2 (Nat.le_refl _) (by unfold maxLen; omega) rfl) (show w.heap.size + 1 ≤ _ by first | omega | (simp; omega))
    simp only [sz_al, s9] at p1 p2
    refine bodyPost_ret (v := .agg #[.slice (some ⟨w7.heap.size, 0, none⟩) 6 6, .slice (some ⟨w7.heap.size + 1, 0, none⟩) 2 2, .slice none 0 0, .slice none 0 0, .int .i64 0, .int .i64 0, .int .i64 0, .int .i64 0, .int .i64 0]) (by simp [results, Tryd.results8, go_sem, q0, q1, q2, q3, q4, q5, q6, q7, q8]) rfl ⟨_, w.heap.size + 1, _, rfl, by omega, BkH.inAt ⟨_, _, _, _, ⟨_, _, _, _, _, _, _, _, rfl, rfl, rfl, rfl, rfl⟩, own_in (xs := SS newB.rg) ?_, own_in (xs := SS newB.hm) ?_, own_in (own_nil0 _ _ _ _), own_in (own_nil0 _ _ _ _), ?_, ?_, ?_, ?_, ?_, ?_⟩, ?_⟩
    · exact p1
    · show World.ownsRow _ _ _ _ _ _ [.string (showHomeB 0 []), .string ⟨#[]⟩]; rw [HS.out]; exact p2
    · exact .inr (.inr (by simp [Value.ownBlock] <;> omega))
    · exact .inr (.inl rfl)
    · exact .inr (.inl rfl)
    · exact .inr (.inl rfl)
    · exact .inr (.inl rfl)
    · exact .inr (.inl rfl)
    · exact (belA (belA b9 (.cells #[.string ⟨#[]⟩, .string ⟨#[]⟩, .string ⟨#[]⟩, .string ⟨#[]⟩, .string ⟨#[]⟩, .string ⟨#[]⟩] 9)) (.cells #[.string S, .string ⟨#[]⟩] 9))
  · obtain ⟨w9, h9, hO, s9, hbl, hoth⟩ := nb_put w7 w.heap.size (.slice (some ⟨w7.heap.size + 1, 0, none⟩) 6 6) (.slice (some ⟨w7.heap.size, 0, none⟩) 2 2) hU
    have b9 : Below w.heap.size w w9 := hbl _ _ (Nat.le_refl _) hB
    rw [h9]
    clear h9 hoth hbl c0 c1 c2 c3 c4 c5 c6 c7 c8 f0 f1 f2 f3 f4 f5 f6 f7 f8 hU hb7
    have r0 := hO.get 0 rfl
    have r1 := hO.get 1 rfl
    have r2 := hO.get 2 rfl
    have r3 := hO.get 3 rfl
    have r4 := hO.get 4 rfl
    have r5 := hO.get 5 rfl
    have r6 := hO.get 6 rfl
    have r7 := hO.get 7 rfl
    have r8 := hO.get 8 rfl
    have lO := hO.lt
    have HE := Lib.hid ((hO.alloc (.cells #[.string S, .string ⟨#[]⟩] 9)).alloc (.cells #[.string ⟨#[]⟩, .string ⟨#[]⟩, .string ⟨#[]⟩, .string ⟨#[]⟩, .string ⟨#[]⟩, .string ⟨#[]⟩] 9))
    clear hO
    go_wp2
    have q0 := HE.out.get 0 rfl
    have q1 := HE.out.get 1 rfl
    have q2 := HE.out.get 2 rfl
    have q3 := HE.out.get 3 rfl
    have q4 := HE.out.get 4 rfl
    have q5 := HE.out.get 5 rfl
    have q6 := HE.out.get 6 rfl
    have q7 := HE.out.get 7 rfl
    have q8 := HE.out.get 8 rfl
    have e9 := bel0 w9
    have p1 := own_more (World.ownsRow_lit (e := 9) (size := 1) (w9.alloc (.cells #[.string S, .string ⟨#[]⟩] 9)) #[.string ⟨#[]⟩, .string ⟨#[]⟩, .string ⟨#[]⟩, .string ⟨#[]⟩, .string ⟨#[]⟩, .string ⟨#[]⟩] 6 (Nat.le_refl _) (by unfold maxLen; omega) rfl) (show w.heap.size + 1 ≤ _ by first | omega | (simp; omega))
    have p2 := own_more (own_below (World.ownsRow_lit (e := 9) (size := 1) w9 #[.string S, .string ⟨#[]⟩] 2 (Nat.le_refl _) (by unfold maxLen; omega) rfl) (belA (bel0 _) (.cells #[.string ⟨#[]⟩, .string ⟨#[]⟩, .string ⟨#[]⟩, .string ⟨#[]⟩, .string ⟨#[]⟩, .string ⟨#[]⟩] 9)) (Nat.le_refl _)) (show w.heap.size + 1 ≤ _ by first | omega | (simp; omega))
    simp only [sz_al, s9] at p1 p2
    refine bodyPost_ret (v := .agg #[.slice (some ⟨w7.heap.size + 1, 0, none⟩) 6 6, .slice (some ⟨w7.heap.size, 0, none⟩) 2 2, .slice none 0 0, .slice none 0 0, .int .i64 0, .int .i64 0, .int .i64 0, .int .i64 0, .int .i64 0]) (by simp [results, Tryd.results8, go_sem, q0, q1, q2, q3, q4, q5, q6, q7, q8]) rfl ⟨_, w.heap.size + 1, _, rfl, by omega, BkH.inAt ⟨_, _, _, _, ⟨_, _, _, _, _, _, _, _, rfl, rfl, rfl, rfl, rfl⟩, own_in (xs := SS newB.rg) ?_, own_in (xs := SS newB.hm) ?_, own_in (own_nil0 _ _ _ _), own_in (own_nil0 _ _ _ _), ?_, ?_, ?_, ?_, ?_, ?_⟩, ?_⟩
    · exact p1
    · show World.ownsRow _ _ _ _ _ _ [.string (showHomeB 0 []), .string ⟨#[]⟩]; rw [HS.out]; exact p2
    · exact .inr (.inr (by simp [Value.ownBlock] <;> omega))
    · exact .inr (.inl rfl)
    · exact .inr (.inl rfl)
    · exact .inr (.inl rfl)
    · exact .inr (.inl rfl)
    · exact .inr (.inl rfl)
    · exact (belA (belA b9 (.cells #[.string S, .string ⟨#[]⟩] 9)) (.cells #[.string ⟨#[]⟩, .string ⟨#[]⟩, .string ⟨#[]⟩, .string ⟨#[]⟩, .string ⟨#[]⟩, .string ⟨#[]⟩] 9))

end Go.Proofs.YtlgjehdocppofaaDoor
