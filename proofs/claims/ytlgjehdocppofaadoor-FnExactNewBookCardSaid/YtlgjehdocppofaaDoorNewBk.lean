/- A new book. -/
import Derived.Test.YtlgjehdocppofaaDoorBkHeld
import Derived.Test.YtlgjehdocppofaaDoorHome
namespace Go.Proofs.YtlgjehdocppofaaDoor
open Go Go.RowKit

set_option maxRecDepth 100000 in
set_option maxHeartbeats 4000000 in
theorem heldBk_in (v : Value) (B : BookD) (hn : BkSmall B) (k : Int) (hk0 : 0 ≤ k) (hk : k ≤ 1000000) (w : World) (h : IsBook w v (markBk k B)) :
    Calls Tryd.prog 12 #[v, .int .i64 k] w fun e w' => e = .returned (.int .i64 (k + cntBk B)) ∧ Below w.heap.size w w' := by
  obtain ⟨A1, c1, A2, c2, A3, c3, A4, c4, rfl, h⟩ := h
  obtain ⟨n1, n2, n3, n4⟩ := hn
  obtain ⟨rg, hm, pd, dr, sq, bs, sf, at_, df⟩ := B
  simp only at n1 n2 n3 n4
  obtain ⟨h1, h2, h3, h4⟩ := h
  simp only [markBk, marks_len, marksR_len, marksD_len] at h1 h2 h3 h4 ⊢
  obtain ⟨W1, hW1⟩ : ∃ W1, w.alloc (.cells #[.slice A1 rg.length c1, .slice A2 hm.length c2, .slice A3 pd.length c3, .slice A4 dr.length c4, .int .i64 sq, .int .i64 bs, .int .i64 sf, .int .i64 at_, .int .i64 df] 26) = W1 := ⟨_, rfl⟩
  have B1 : Below w.heap.size w W1 := by rw [← hW1]; exact belA (bel0 w) _
  have hV : Blk W1 w.heap.size 26 #[.slice A1 rg.length c1, .slice A2 hm.length c2, .slice A3 pd.length c3, .slice A4 dr.length c4, .int .i64 sq, .int .i64 bs, .int .i64 sf, .int .i64 at_, .int .i64 df] := by rw [← hW1]; exact Blk.new' _ _ _ _ rfl
  have H1 := Lib.hid h1
  have H2 := Lib.hid h2
  have H3 := Lib.hid h3
  have H4 := Lib.hid h4
  have HW1 := Lib.hid hW1
  have x0 := hV.get 0 rfl
  have HV := Lib.hid hV
  clear hW1 hV h1 h2 h3 h4
  go_enter Tryd.func12, Tryd.ntmps12
  go_wp2_with fail
  rw [HW1.out]
  refine (heldStringS_any A1 rg.length c1 k hk0 (by omega) (by omega) W1 ((H1.out.below B1).more B1.size)).mono ?_
  rintro e w2 ⟨rfl, hb⟩
  have b2 := belN B1 hb
  have HV2 := Lib.hid (HV.out.below hb HV.out.lt)
  clear hb HV x0
  have q1 : ¬ k + (rg.length : Int) < 0 := by omega
  have x1 := HV2.out.get 1 rfl
  go_wp2_with fail
  refine (heldStringS_any A2 hm.length c2 (k + rg.length) (by omega) (by omega) (by omega) w2 ((H2.out.below b2).more b2.size)).mono ?_
  rintro e w3 ⟨rfl, hb⟩
  have b3 := belN b2 hb
  have HV3 := Lib.hid (HV2.out.below hb HV2.out.lt)
  clear hb HV2 x1
  have q2 : ¬ k + (rg.length : Int) + hm.length < 0 := by omega
  have x2 := HV3.out.get 2 rfl
  go_wp2_with fail
  refine (heldWriteS_any A3 pd.length c3 (k + rg.length + hm.length) (by omega) (by omega) (by omega) w3 ((H3.out.below b3).more b3.size)).mono ?_
  rintro e w4 ⟨rfl, hb⟩
  have b4 := belN b3 hb
  have HV4 := Lib.hid (HV3.out.below hb HV3.out.lt)
  clear hb HV3 x2
  have q3 : ¬ k + (rg.length : Int) + hm.length + 2 * (pd.length : Int) < 0 := by omega
  have x3 := HV4.out.get 3 rfl
  go_wp2_with fail
  refine (heldEntS_any A4 dr.length c4 (k + rg.length + hm.length + 2 * (pd.length : Int)) (by omega) (by omega) (by omega) w4 ((H4.out.below b4).more b4.size)).mono ?_
  rintro e w5 ⟨rfl, hb⟩
  have b5 := belN b4 hb
  have q4 : ¬ k + (rg.length : Int) + hm.length + 2 * (pd.length : Int) + 4 * (dr.length : Int) < 0 := by omega
  clear hb HV4 x3
  go_wp2
  go_ret
  exact ⟨ret_int (by unfold cntBk; simp only; omega), b5⟩

theorem sz_al (w : World) (o : Obj) : (w.alloc o).heap.size = w.heap.size + 1 := by simp
noncomputable def newB : BookD := ⟨[str [], str [], str [], str [], str [], str []], [showHomeB 0 [], str []], [], [], 0, 0, 0, 0, 0⟩

theorem own_nil0 (w : World) (base size : Nat) (e : TypeId) : w.ownsRow base e size (.slice none 0 0) 0 [] := ⟨by simp, .inl ⟨rfl, rfl⟩⟩
theorem nb_put (w7 : World) (b : Nat) (v1 v2 : Value) (hU : Blk w7 b 26 #[.slice none 0 0, .slice none 0 0, .slice none 0 0, .slice none 0 0, .int .i64 0, .int .i64 0, .int .i64 0, .int .i64 0, .int .i64 0]) :
    ∃ w9, (((((((((w7.setCell ⟨b, 0, none⟩ (v1)).setCell ⟨b, 1, none⟩ (v2)).setCell ⟨b, 2, none⟩ (.slice none 0 0)).setCell ⟨b, 3, none⟩ (.slice none 0 0)).setCell ⟨b, 4, none⟩ (.int .i64 0)).setCell ⟨b, 5, none⟩ (.int .i64 0)).setCell ⟨b, 6, none⟩ (.int .i64 0)).setCell ⟨b, 7, none⟩ (.int .i64 0)).setCell ⟨b, 8, none⟩ (.int .i64 0)) = w9 ∧ Blk w9 b 26 #[v1, v2, .slice none 0 0, .slice none 0 0, .int .i64 0, .int .i64 0, .int .i64 0, .int .i64 0, .int .i64 0] ∧ w9.heap.size = w7.heap.size ∧
      (∀ (B : Nat) (a : World), B ≤ b → Below B a w7 → Below B a w9) ∧ (∀ i, i ≠ b → w9.heap[i]? = w7.heap[i]?) :=
  ⟨_, rfl, (((((((((hU.put 0 (v1) #[v1, .slice none 0 0, .slice none 0 0, .slice none 0 0, .int .i64 0, .int .i64 0, .int .i64 0, .int .i64 0, .int .i64 0] rfl).put 1 (v2) #[v1, v2, .slice none 0 0, .slice none 0 0, .int .i64 0, .int .i64 0, .int .i64 0, .int .i64 0, .int .i64 0] rfl).put 2 (.slice none 0 0) #[v1, v2, .slice none 0 0, .slice none 0 0, .int .i64 0, .int .i64 0, .int .i64 0, .int .i64 0, .int .i64 0] rfl).put 3 (.slice none 0 0) #[v1, v2, .slice none 0 0, .slice none 0 0, .int .i64 0, .int .i64 0, .int .i64 0, .int .i64 0, .int .i64 0] rfl).put 4 (.int .i64 0) #[v1, v2, .slice none 0 0, .slice none 0 0, .int .i64 0, .int .i64 0, .int .i64 0, .int .i64 0, .int .i64 0] rfl).put 5 (.int .i64 0) #[v1, v2, .slice none 0 0, .slice none 0 0, .int .i64 0, .int .i64 0, .int .i64 0, .int .i64 0, .int .i64 0] rfl).put 6 (.int .i64 0) #[v1, v2, .slice none 0 0, .slice none 0 0, .int .i64 0, .int .i64 0, .int .i64 0, .int .i64 0, .int .i64 0] rfl).put 7 (.int .i64 0) #[v1, v2, .slice none 0 0, .slice none 0 0, .int .i64 0, .int .i64 0, .int .i64 0, .int .i64 0, .int .i64 0] rfl).put 8 (.int .i64 0) #[v1, v2, .slice none 0 0, .slice none 0 0, .int .i64 0, .int .i64 0, .int .i64 0, .int .i64 0, .int .i64 0] rfl), by simp, fun B a hb h => (((((((((h.setCell (p := ⟨b, 0, none⟩) hb _).setCell (p := ⟨b, 1, none⟩) hb _).setCell (p := ⟨b, 2, none⟩) hb _).setCell (p := ⟨b, 3, none⟩) hb _).setCell (p := ⟨b, 4, none⟩) hb _).setCell (p := ⟨b, 5, none⟩) hb _).setCell (p := ⟨b, 6, none⟩) hb _).setCell (p := ⟨b, 7, none⟩) hb _).setCell (p := ⟨b, 8, none⟩) hb _), fun i hi => (Below.heap_setCell _ ⟨b, 8, none⟩ _ i hi).trans ((Below.heap_setCell _ ⟨b, 7, none⟩ _ i hi).trans ((Below.heap_setCell _ ⟨b, 6, none⟩ _ i hi).trans ((Below.heap_setCell _ ⟨b, 5, none⟩ _ i hi).trans ((Below.heap_setCell _ ⟨b, 4, none⟩ _ i hi).trans ((Below.heap_setCell _ ⟨b, 3, none⟩ _ i hi).trans ((Below.heap_setCell _ ⟨b, 2, none⟩ _ i hi).trans ((Below.heap_setCell _ ⟨b, 1, none⟩ _ i hi).trans ((Below.heap_setCell _ ⟨b, 0, none⟩ _ i hi).trans (rfl)))))))))⟩

set_option maxRecDepth 100000 in
set_option maxHeartbeats 40000000 in
theorem newBook_impl (w : World) (hT : Tab w) :
    Calls Tryd.prog 9 #[] w fun e w' => ∃ v lo up, e = .returned v ∧ w.heap.size ≤ lo ∧ InAt (OwnBk lo v newB) lo up w' ∧ Below w.heap.size w w' := by
  have HT := Lib.hid hT
  clear hT
  obtain ⟨S, hS⟩ : ∃ S, showHomeB 0 [] = S := ⟨_, rfl⟩
  have HS := Lib.hid hS
  clear hS
  go_enter Tryd.func9, Tryd.ntmps9
  have hmk : ∀ W : World, (Instr.makeSlice 22 (.int .i64 6) (.int .i64 6)).run Tryd.prog W = .ok (.slice (some ⟨W.heap.size, 0, none⟩) 6 6) (W.alloc (.cells #[.string ⟨#[]⟩, .string ⟨#[]⟩, .string ⟨#[]⟩, .string ⟨#[]⟩, .string ⟨#[]⟩, .string ⟨#[]⟩] 9)) :=
    fun W => by
      have h := make_any (P := Tryd.prog) 22 9 (.string ⟨#[]⟩) 1 16 Tryd.underlying22 (by kernel_rfl) 6 (by omega) (by omega) W
      rw [show madeCells (Value.string ⟨#[]⟩).cells (6 * 1) = #[.string ⟨#[]⟩, .string ⟨#[]⟩, .string ⟨#[]⟩, .string ⟨#[]⟩, .string ⟨#[]⟩, .string ⟨#[]⟩] by kernel_rfl] at h
      exact h
  obtain ⟨W1, hW1⟩ : ∃ W1, w.alloc (.cells #[.slice none 0 0, .slice none 0 0, .slice none 0 0, .slice none 0 0, .int .i64 0, .int .i64 0, .int .i64 0, .int .i64 0, .int .i64 0] 26) = W1 := ⟨_, rfl⟩
  have B1 : Below w.heap.size w W1 := by rw [← hW1]; exact belA (bel0 w) _
  have S1 : W1.heap.size = w.heap.size + 1 := by rw [← hW1]; simp
  have hV : Blk W1 w.heap.size 26 #[.slice none 0 0, .slice none 0 0, .slice none 0 0, .slice none 0 0, .int .i64 0, .int .i64 0, .int .i64 0, .int .i64 0, .int .i64 0] := by rw [← hW1]; exact Blk.new' _ _ _ _ rfl
  have HT1 := Lib.hid (HT.out.bl B1)
  have HW1 := Lib.hid hW1
  have HV := Lib.hid hV
  clear hW1 hV
  go_wp2_with fail
  rw [HW1.out]
  go_region_with (go_at_call 40
                  first
                    | (refine (showHome_impl 0 (.slice none 0 0) [] (by decide) _ (HT1.out.bl (belA (bel0 W1) (.cells #[.string ⟨#[]⟩, .string ⟨#[]⟩, .string ⟨#[]⟩, .string ⟨#[]⟩, .string ⟨#[]⟩, .string ⟨#[]⟩] 9)).drew) ⟨none, 0, rfl, by simp [Reads, ES]⟩).mono ?_
                       rintro e w7 ⟨rfl, hb7⟩
                       have hU := (HV.out.alloc (.cells #[.string ⟨#[]⟩, .string ⟨#[]⟩, .string ⟨#[]⟩, .string ⟨#[]⟩, .string ⟨#[]⟩, .string ⟨#[]⟩] 9)).drew.below hb7 (by simp; omega)
                       have hz : W1.heap.size + 1 ≤ w7.heap.size := by have := hb7.size; simp at this; omega
                       have hB := (B1.trans ((belA (bel0 W1) (.cells #[.string ⟨#[]⟩, .string ⟨#[]⟩, .string ⟨#[]⟩, .string ⟨#[]⟩, .string ⟨#[]⟩, .string ⟨#[]⟩] 9)).drew.mono B1.size)).trans (hb7.mono (by simp; omega))
                       have hA := own_below (w := (W1.alloc (.cells #[.string ⟨#[]⟩, .string ⟨#[]⟩, .string ⟨#[]⟩, .string ⟨#[]⟩, .string ⟨#[]⟩, .string ⟨#[]⟩] 9)).drew) (World.ownsRow_lit (e := 9) (size := 1) W1 #[.string ⟨#[]⟩, .string ⟨#[]⟩, .string ⟨#[]⟩, .string ⟨#[]⟩, .string ⟨#[]⟩, .string ⟨#[]⟩] 6 (Nat.le_refl _) (by unfold maxLen; omega) rfl) hb7 (Nat.le_refl _)
                       simp only [S1] at hA
                       have HA := Lib.hid hA
                       clear hA)
                    | (refine (showHome_impl 0 (.slice none 0 0) [] (by decide) _ (HT1.out.bl (bel0 W1).drew) ⟨none, 0, rfl, by simp [Reads, ES]⟩).mono ?_
                       rintro e w7 ⟨rfl, hb7⟩
                       have hU := HV.out.drew.below hb7 (by simp; omega)
                       have hz : W1.heap.size + 0 ≤ w7.heap.size := by have := hb7.size; simp at this; omega
                       have hB := (B1.trans ((bel0 W1).drew.mono B1.size)).trans (hb7.mono (by simp; omega)))
                  rw [HS.out]
                  have z7 := hb7.size
                  have c0 := hU.get 0 rfl
                  have c1 := hU.get 1 rfl
                  have c2 := hU.get 2 rfl
                  have c3 := hU.get 3 rfl
                  have c4 := hU.get 4 rfl
                  have c5 := hU.get 5 rfl
                  have c6 := hU.get 6 rfl
                  have c7 := hU.get 7 rfl
                  have c8 := hU.get 8 rfl
                  have f0 := hU.frozen 0
                  have f1 := hU.frozen 1
                  have f2 := hU.frozen 2
                  have f3 := hU.frozen 3
                  have f4 := hU.frozen 4
                  have f5 := hU.frozen 5
                  have f6 := hU.frozen 6
                  have f7 := hU.frozen 7
                  have f8 := hU.frozen 8
                  have lU := hU.lt)
  · obtain ⟨w9, h9, hO, s9, hbl, hoth⟩ := nb_put w7 w.heap.size (.slice (some ⟨w.heap.size + 1, 0, none⟩) 6 6) (.slice (some ⟨w7.heap.size, 0, none⟩) 2 2) hU
    have b9 : Below w.heap.size w w9 := hbl _ _ (Nat.le_refl _) hB
    have o1 := Lib.hid (own_same HA.out (hoth _ (by omega)))
    rw [h9]
    clear h9 hoth hbl c0 c1 c2 c3 c4 c5 c6 c7 c8 f0 f1 f2 f3 f4 f5 f6 f7 f8 hU hb7
    have r0 := hO.get 0 rfl
    have r1 := hO.get 1 rfl
    have r2 := hO.get 2 rfl
    have r3 := hO.get 3 rfl
    have r4 := hO.get 4 rfl
    have r5 := hO.get 5 rfl
    have r6 := hO.get 6 rfl
    have r7 := hO.get 7 rfl
    have r8 := hO.get 8 rfl
    have lO := hO.lt
    have HE := Lib.hid (hO.alloc (.cells #[.string S, .string ⟨#[]⟩] 9))
    clear hO
    go_wp2
    have q0 := HE.out.get 0 rfl
    have q1 := HE.out.get 1 rfl
    have q2 := HE.out.get 2 rfl
    have q3 := HE.out.get 3 rfl
    have q4 := HE.out.get 4 rfl
    have q5 := HE.out.get 5 rfl
    have q6 := HE.out.get 6 rfl
    have q7 := HE.out.get 7 rfl
    have q8 := HE.out.get 8 rfl
    have e9 := bel0 w9
    have p1 := own_more (own_below (o1.out) (belA (bel0 _) (.cells #[.string S, .string ⟨#[]⟩] 9)) (Nat.le_refl _)) (show w.heap.size + 1 ≤ _ by first | omega | (simp; omega))
    have p2 := own_more (World.ownsRow_lit (e := 9) (size := 1) w9 #[.string S, .string ⟨#[]⟩] 2 (Nat.le_refl _) (by unfold maxLen; omega) rfl) (show w.heap.size + 1 ≤ _ by first | omega | (simp; omega))
    simp only [s9] at p1 p2
    refine bodyPost_ret (v := .agg #[.slice (some ⟨w.heap.size + 1, 0, none⟩) 6 6, .slice (some ⟨w7.heap.size, 0, none⟩) 2 2, .slice none 0 0, .slice none 0 0, .int .i64 0, .int .i64 0, .int .i64 0, .int .i64 0, .int .i64 0]) (by simp [results, Tryd.results9, go_sem, q0, q1, q2, q3, q4, q5, q6, q7, q8]) rfl ⟨_, w.heap.size + 1, _, rfl, by omega, BkH.inAt ⟨_, _, _, _, ⟨_, _, _, _, _, _, _, _, rfl, rfl, rfl, rfl, rfl⟩, own_in (xs := SS newB.rg) ?_, own_in (xs := SS newB.hm) ?_, own_in (own_nil0 _ _ _ _), own_in (own_nil0 _ _ _ _), ?_, ?_, ?_, ?_, ?_, ?_⟩, ?_⟩
    · exact p1
    · show World.ownsRow _ _ _ _ _ _ [.string (showHomeB 0 []), .string ⟨#[]⟩]; rw [HS.out]; exact p2
    · exact .inr (.inr (by simp [Value.ownBlock] <;> omega))
    · exact .inr (.inl rfl)
    · exact .inr (.inl rfl)
    · exact .inr (.inl rfl)
    · exact .inr (.inl rfl)
    · exact .inr (.inl rfl)
    · exact (belA b9 (.cells #[.string S, .string ⟨#[]⟩] 9))
  · obtain ⟨w9, h9, hO, s9, hbl, hoth⟩ := nb_put w7 w.heap.size (.slice (some ⟨w7.heap.size, 0, none⟩) 6 6) (.slice (some ⟨w7.heap.size + 1, 0, none⟩) 2 2) hU
    have b9 : Below w.heap.size w w9 := hbl _ _ (Nat.le_refl _) hB
    rw [h9]
    clear h9 hoth hbl c0 c1 c2 c3 c4 c5 c6 c7 c8 f0 f1 f2 f3 f4 f5 f6 f7 f8 hU hb7
    have r0 := hO.get 0 rfl
    have r1 := hO.get 1 rfl
    have r2 := hO.get 2 rfl
    have r3 := hO.get 3 rfl
    have r4 := hO.get 4 rfl
    have r5 := hO.get 5 rfl
    have r6 := hO.get 6 rfl
    have r7 := hO.get 7 rfl
    have r8 := hO.get 8 rfl
    have lO := hO.lt
    have HE := Lib.hid ((hO.alloc (.cells #[.string ⟨#[]⟩, .string ⟨#[]⟩, .string ⟨#[]⟩, .string ⟨#[]⟩, .string ⟨#[]⟩, .string ⟨#[]⟩] 9)).alloc (.cells #[.string S, .string ⟨#[]⟩] 9))
    clear hO
    go_wp2
    have q0 := HE.out.get 0 rfl
    have q1 := HE.out.get 1 rfl
    have q2 := HE.out.get 2 rfl
    have q3 := HE.out.get 3 rfl
    have q4 := HE.out.get 4 rfl
    have q5 := HE.out.get 5 rfl
    have q6 := HE.out.get 6 rfl
    have q7 := HE.out.get 7 rfl
    have q8 := HE.out.get 8 rfl
    have e9 := bel0 w9
    have p1 := own_more (own_below (World.ownsRow_lit (e := 9) (size := 1) w9 #[.string ⟨#[]⟩, .string ⟨#[]⟩, .string ⟨#[]⟩, .string ⟨#[]⟩, .string ⟨#[]⟩, .string ⟨#[]⟩] 6 (Nat.le_refl _) (by unfold maxLen; omega) rfl) (belA (bel0 _) (.cells #[.string S, .string ⟨#[]⟩] 9)) (Nat.le_refl _)) (show w.heap.size + 1 ≤ _ by first | omega | (simp; omega))
    have p2 := own_more (World.ownsRow_lit (e := 9) (size := 1) (w9.alloc (.cells #[.string ⟨#[]⟩, .string ⟨#[]⟩, .string ⟨#[]⟩, .string ⟨#[]⟩, .string ⟨#[]⟩, .string ⟨#[]⟩] 9)) #[.string S, .string ⟨#[]⟩] 2 (Nat.le_refl _) (by unfold maxLen; omega) rfl) (show w.heap.size + 1 ≤ _ by first | omega | (simp; omega))
    simp only [sz_al, s9] at p1 p2
    refine bodyPost_ret (v := .agg #[.slice (some ⟨w7.heap.size, 0, none⟩) 6 6, .slice (some ⟨w7.heap.size + 1, 0, none⟩) 2 2, .slice none 0 0, .slice none 0 0, .int .i64 0, .int .i64 0, .int .i64 0, .int .i64 0, .int .i64 0]) (by simp [results, Tryd.results9, go_sem, q0, q1, q2, q3, q4, q5, q6, q7, q8]) rfl ⟨_, w.heap.size + 1, _, rfl, by omega, BkH.inAt ⟨_, _, _, _, ⟨_, _, _, _, _, _, _, _, rfl, rfl, rfl, rfl, rfl⟩, own_in (xs := SS newB.rg) ?_, own_in (xs := SS newB.hm) ?_, own_in (own_nil0 _ _ _ _), own_in (own_nil0 _ _ _ _), ?_, ?_, ?_, ?_, ?_, ?_⟩, ?_⟩
    · exact p1
    · show World.ownsRow _ _ _ _ _ _ [.string (showHomeB 0 []), .string ⟨#[]⟩]; rw [HS.out]; exact p2
    · exact .inr (.inr (by simp [Value.ownBlock] <;> omega))
    · exact .inr (.inl rfl)
    · exact .inr (.inl rfl)
    · exact .inr (.inl rfl)
    · exact .inr (.inl rfl)
    · exact .inr (.inl rfl)
    · exact (belA (belA b9 (.cells #[.string ⟨#[]⟩, .string ⟨#[]⟩, .string ⟨#[]⟩, .string ⟨#[]⟩, .string ⟨#[]⟩, .string ⟨#[]⟩] 9)) (.cells #[.string S, .string ⟨#[]⟩] 9))
  · obtain ⟨w9, h9, hO, s9, hbl, hoth⟩ := nb_put w7 w.heap.size (.slice (some ⟨w7.heap.size + 1, 0, none⟩) 6 6) (.slice (some ⟨w7.heap.size, 0, none⟩) 2 2) hU
    have b9 : Below w.heap.size w w9 := hbl _ _ (Nat.le_refl _) hB
    rw [h9]
    clear h9 hoth hbl c0 c1 c2 c3 c4 c5 c6 c7 c8 f0 f1 f2 f3 f4 f5 f6 f7 f8 hU hb7
    have r0 := hO.get 0 rfl
    have r1 := hO.get 1 rfl
    have r2 := hO.get 2 rfl
    have r3 := hO.get 3 rfl
    have r4 := hO.get 4 rfl
    have r5 := hO.get 5 rfl
    have r6 := hO.get 6 rfl
    have r7 := hO.get 7 rfl
    have r8 := hO.get 8 rfl
    have lO := hO.lt
    have HE := Lib.hid ((hO.alloc (.cells #[.string S, .string ⟨#[]⟩] 9)).alloc (.cells #[.string ⟨#[]⟩, .string ⟨#[]⟩, .string ⟨#[]⟩, .string ⟨#[]⟩, .string ⟨#[]⟩, .string ⟨#[]⟩] 9))
    clear hO
    go_wp2
    have q0 := HE.out.get 0 rfl
    have q1 := HE.out.get 1 rfl
    have q2 := HE.out.get 2 rfl
    have q3 := HE.out.get 3 rfl
    have q4 := HE.out.get 4 rfl
    have q5 := HE.out.get 5 rfl
    have q6 := HE.out.get 6 rfl
    have q7 := HE.out.get 7 rfl
    have q8 := HE.out.get 8 rfl
    have e9 := bel0 w9
    have p1 := own_more (World.ownsRow_lit (e := 9) (size := 1) (w9.alloc (.cells #[.string S, .string ⟨#[]⟩] 9)) #[.string ⟨#[]⟩, .string ⟨#[]⟩, .string ⟨#[]⟩, .string ⟨#[]⟩, .string ⟨#[]⟩, .string ⟨#[]⟩] 6 (Nat.le_refl _) (by unfold maxLen; omega) rfl) (show w.heap.size + 1 ≤ _ by first | omega | (simp; omega))
    have p2 := own_more (own_below (World.ownsRow_lit (e := 9) (size := 1) w9 #[.string S, .string ⟨#[]⟩] 2 (Nat.le_refl _) (by unfold maxLen; omega) rfl) (belA (bel0 _) (.cells #[.string ⟨#[]⟩, .string ⟨#[]⟩, .string ⟨#[]⟩, .string ⟨#[]⟩, .string ⟨#[]⟩, .string ⟨#[]⟩] 9)) (Nat.le_refl _)) (show w.heap.size + 1 ≤ _ by first | omega | (simp; omega))
    simp only [sz_al, s9] at p1 p2
    refine bodyPost_ret (v := .agg #[.slice (some ⟨w7.heap.size + 1, 0, none⟩) 6 6, .slice (some ⟨w7.heap.size, 0, none⟩) 2 2, .slice none 0 0, .slice none 0 0, .int .i64 0, .int .i64 0, .int .i64 0, .int .i64 0, .int .i64 0]) (by simp [results, Tryd.results9, go_sem, q0, q1, q2, q3, q4, q5, q6, q7, q8]) rfl ⟨_, w.heap.size + 1, _, rfl, by omega, BkH.inAt ⟨_, _, _, _, ⟨_, _, _, _, _, _, _, _, rfl, rfl, rfl, rfl, rfl⟩, own_in (xs := SS newB.rg) ?_, own_in (xs := SS newB.hm) ?_, own_in (own_nil0 _ _ _ _), own_in (own_nil0 _ _ _ _), ?_, ?_, ?_, ?_, ?_, ?_⟩, ?_⟩
    · exact p1
    · show World.ownsRow _ _ _ _ _ _ [.string (showHomeB 0 []), .string ⟨#[]⟩]; rw [HS.out]; exact p2
    · exact .inr (.inr (by simp [Value.ownBlock] <;> omega))
    · exact .inr (.inl rfl)
    · exact .inr (.inl rfl)
    · exact .inr (.inl rfl)
    · exact .inr (.inl rfl)
    · exact .inr (.inl rfl)
    · exact (belA (belA b9 (.cells #[.string S, .string ⟨#[]⟩] 9)) (.cells #[.string ⟨#[]⟩, .string ⟨#[]⟩, .string ⟨#[]⟩, .string ⟨#[]⟩, .string ⟨#[]⟩, .string ⟨#[]⟩] 9))

end Go.Proofs.YtlgjehdocppofaaDoor
