/- What is drawn: rings and texts of records. -/
import Derived.Test.YtgbgfgkgkbnflaaRgRec
import Derived.Test.YtgbgfgkgkbnflaaRgP
namespace Go.Proofs.Ytgbgfgkgkbnflaa
open Go Go.RowKit

theorem own_scg {w : World} {base n size : Nat} {e : TypeId} {v : Value} {xs : List Value} (h : w.ownsRow base e size v n xs) {g : Nat} (o : Nat) (hg : g < base) (u : Value) : (w.setCell ⟨g, o, none⟩ u).ownsRow base e size v n xs := by
  refine ⟨h.1, ?_⟩
  rcases h.2 with h2 | ⟨g', cap, cur, hv, hb, hh, r⟩
  · exact .inl h2
  · exact .inr ⟨g', cap, cur, hv, hb, (Below.heap_setCell w ⟨g, o, none⟩ u g' (by simp only; omega)).trans hh, r⟩
theorem put6 {w w' : World} {L : List ByteArray} {q : Int} {t : ByteArray} {e : Ending} (h : PutPost w L q t e w') (hl : L.length = 6) :
    ∃ B c, e = .returned (.tuple #[.slice B 6 c, .bool (putB L q t)]) ∧ w'.ownsRow w.heap.size 9 1 (.slice B 6 c) 6 (SS (putL L q t)) ∧ Below w.heap.size w w' := by
  have h6 := putL_len L q t hl
  obtain ⟨B, c, h1, h2, h3⟩ := h
  rw [h6] at h1 h2
  exact ⟨B, c, h1, h2, h3⟩
theorem good_put {L : List ByteArray} {s : Nat} {t : ByteArray} (h : ∀ x ∈ L, goodT x) (h1 : 1 ≤ s) (h2 : s ≤ 18) (h3 : t.size ≤ 3) : ∀ x ∈ putL L (s : Int) t, goodT x := by
  intro x hx
  unfold putL at hx
  split at hx
  · split at hx
    · rcases List.mem_or_eq_of_mem_set hx with hx | rfl
      · exact h x hx
      · exact .inr ⟨s, t, h1, h2, h3, rfl⟩
    · exact h x hx
  · cases hx
theorem ring_set {L : List ByteArray} {j : Nat} {t : ByteArray} (h : ∀ x ∈ L, ringT x) (ht : ringT t) : ∀ x ∈ L.set j t, ringT x := by
  intro x hx
  rcases List.mem_or_eq_of_mem_set hx with hx | rfl
  · exact h x hx
  · exact ht

set_option maxRecDepth 100000 in
set_option maxHeartbeats 8000000 in
theorem l24Ring_any (g : Nat) (A : Option Addr) (n cp : Nat) (bs : List UInt8) (hn : n ≤ 9223372036854775806) (w : World) (h : Curs w g A n cp bs) :
    Calls Try.prog 16 #[.pointer (some ⟨g, 0, none⟩)] w fun e w' => ∃ (v : Value) (L : List ByteArray), e = .returned v ∧ L.length ≤ 6 ∧ (∀ x ∈ L, ringT x) ∧ w'.ownsRow w.heap.size 9 1 v L.length (SS L) ∧ Curs w' g A n cp bs ∧ w.grownBy w' (some g) := by
  have Hb := Lib.hid (fun m hm W hW => l1Below_any g A n cp bs hn m hm W hW)
  have Ho := Lib.hid (fun m hm W hW => l1Once_any g A n cp bs hn m hm W hW)
  have Ht := Lib.hid (fun W hW => l1Text_any g A n cp bs hn 3 (by omega) W hW)
  have hlt := h.lt
  have hmk : (Instr.makeSlice 24 (.int .i64 6) (.int .i64 6)).run Try.prog w = .ok (.slice (some ⟨w.heap.size, 0, none⟩) 6 6) (w.alloc (.cells #[.string ⟨#[]⟩, .string ⟨#[]⟩, .string ⟨#[]⟩, .string ⟨#[]⟩, .string ⟨#[]⟩, .string ⟨#[]⟩] 9)) := by
    have h := make_any (P := Try.prog) 24 9 (.string ⟨#[]⟩) 1 16 Try.underlying24 (by kernel_rfl) 6 (by omega) (by omega) w
    rw [show madeCells (Value.string ⟨#[]⟩).cells (6 * 1) = #[.string ⟨#[]⟩, .string ⟨#[]⟩, .string ⟨#[]⟩, .string ⟨#[]⟩, .string ⟨#[]⟩, .string ⟨#[]⟩] by kernel_rfl] at h
    exact h
  have own0 : (w.alloc (.cells #[.string ⟨#[]⟩, .string ⟨#[]⟩, .string ⟨#[]⟩, .string ⟨#[]⟩, .string ⟨#[]⟩, .string ⟨#[]⟩] 9)).ownsRow w.heap.size 9 1 (.slice (some ⟨w.heap.size, 0, none⟩) 6 6) 6 (SS (List.replicate 6 ⟨#[]⟩)) :=
    World.ownsRow_lit (e := 9) (size := 1) w _ 6 (Nat.le_refl _) (by unfold maxLen; omega) rfl
  go_enter Try.func16, Try.ntmps16
  go_wp2_with fail
  clear hmk
  refine (Hb.out 9 (by omega) _ (h.alloc _)).mono ?_
  rintro e w0 ⟨y, rfl, _, hy, hc0, hg0⟩
  obtain ⟨hy0, hy1⟩ := hy (by omega)
  obtain ⟨y, rfl⟩ : ∃ k : Nat, y = (k : Int) := ⟨y.toNat, by omega⟩
  have own1 := own_g own0 hg0 hlt
  have G0 := gb_al hg0
  clear hy own0 hg0
  go_wp2_with fail
  refine (Hb.out 10 (by omega) _ hc0).mono ?_
  rintro e w1 ⟨x, rfl, _, hx, hc1, hg1⟩
  obtain ⟨hx0, hx1⟩ := hx (by omega)
  obtain ⟨k, rfl⟩ : ∃ k : Nat, x = (k : Int) := ⟨x.toNat, by omega⟩
  have Own1 := Lib.hid (own_g own1 hg1 hlt)
  have G1 := G0.trans hg1
  clear own1 hx G0 hc0 hg1
  have wy : IntKind.i64.wrap (1 + (y : Int)) = ((1 + y : Nat) : Int) := by rw [IntKind.wrap_i64]; omega
  go_wp2
  go_loopw [3, 4, 5] (fun v q i wr => ∃ (L : List ByteArray) (s k : Nat), q = .int .i64 s ∧ i = .int .i64 k ∧ 1 ≤ s ∧ s + k ≤ 18 ∧ L.length = 6 ∧ (∀ x ∈ L, goodT x) ∧ Hid (wr.ownsRow w.heap.size 9 1 v 6 (SS L)) ∧ Curs wr g A n cp bs ∧ w.grownBy wr (some g))
    (fun _ _ i _ => (intOf i).toNat)
  case atStart => exact ⟨List.replicate 6 ⟨#[]⟩, 1 + y, k, by go_num, rfl, by omega, by omega, rfl, fun x hx => .inl (List.eq_of_mem_replicate hx), Own1.out, hc1, G1⟩
  case round =>
    clear Own1 hc1 G1 wy
    obtain ⟨L, s, k, rfl, rfl, hs1, hsk, hl, hgd, Own, hc, G⟩ := hrel
    obtain ⟨b, cc, rfl⟩ := own_form1 Own.out (by omega)
    by_cases h0 : k = 0
    · subst h0
      have hgr : ∀ x ∈ L, ringT x := fun x hx => good_ring (hgd x hx)
      go_wp2_with fail
      refine (Ho.out 3 (by omega) wr hc).mono ?_
      rintro e w1 ⟨o, rfl, hc1, hg1⟩
      have Own1 := Lib.hid (own_g Own.out hg1 hlt)
      have G1 := G.trans hg1
      clear Own hc G hg1
      cases o
      case' true =>
        go_wp2_with fail
        refine (Hb.out 6 (by omega) w1 hc1).mono ?_
        rintro e w2 ⟨x, rfl, _, hx, hc2, hg2⟩
        obtain ⟨hx0, hx1⟩ := hx (by omega)
        obtain ⟨j, rfl⟩ : ∃ j : Nat, x = (j : Int) := ⟨x.toNat, by omega⟩
        have Own2 := Lib.hid (own_g Own1.out hg2 hlt)
        have G2 := G1.trans hg2
        clear Own1 hc1 G1 hg2 hx
        have hj : j < L.length := by omega
        have j6 : (j : Int) < 6 := by omega
        obtain ⟨T, hT⟩ : ∃ T, L[j] = T := ⟨_, rfl⟩
        have gT : goodT T := by rw [← hT]; exact hgd _ (List.getElem_mem hj)
        have cj : w2.cell? ⟨b, j, none⟩ = some (.string T) := by rw [Own2.out.cellAt j (by omega), SS_get L j hj, hT]
        go_wp2_with fail
        refine (l1Spoil_any g A n cp bs hn T (by have := (good_ring gT).1; omega) w2 hc2).mono ?_
        rintro e w3 ⟨t, rfl, hsp, hc3, hg3⟩
        have rt := spoilt_ring gT hsp
        have Own3 := Lib.hid (own_g Own2.out hg3 hlt)
        have G3 := G2.trans hg3
        clear Own2 hc2 G2 hg3 cj
        obtain ⟨u, hu⟩ := own_cell1 Own3.out j (by omega)
        have hf := own_frozen Own3.out j
        have hgb := (own_some Own3.out).1
        have Own4 := Lib.hid (own_put Own3.out j t)
        have hbs : Below w.heap.size w3 (w3.setCell ⟨b, j, none⟩ (.string t)) := (Below.refl _ _).setCell (p := ⟨b, j, none⟩) hgb _
        have hc4 := hc3.bel hbs hlt
        have G4 := gb_bel0 G3 hbs
        go_wp2_with fail
        have hgr := ring_set (j := j) hgr rt
        have hl := (show (L.set j t).length = 6 by rw [List.length_set]; exact hl)
        generalize (w3.setCell ⟨b, j, none⟩ (.string t)) = w1 at *
        generalize L.set j t = L at *
        clear Own3 hc3 G3 hu hf hbs hsp rt gT hT
        have Own1 := Own4
        have hc1 := hc4
        have G1 := G4
        clear Own4 hc4 G4
      case' false =>
        go_wp2_with fail
      all_goals
        refine (Ho.out 4 (by omega) w1 hc1).mono ?_
        rintro e w2 ⟨o, rfl, hc2, hg2⟩
        have Own2 := Lib.hid (own_g Own1.out hg2 hlt)
        have G2 := G1.trans hg2
        clear Own1 hc1 G1 hg2
        cases o
      case' true.true | false.true =>
        go_wp2_with fail
        refine (Hb.out 6 (by omega) w2 hc2).mono ?_
        rintro e w3 ⟨x, rfl, _, hx, hc3, hg3⟩
        obtain ⟨hx0, hx1⟩ := hx (by omega)
        obtain ⟨j2, rfl⟩ : ∃ j : Nat, x = (j : Int) := ⟨x.toNat, by omega⟩
        have Own3 := Lib.hid (own_g Own2.out hg3 hlt)
        have G3 := G2.trans hg3
        clear Own2 hc2 G2 hg3 hx
        have j6 : (j2 : Int) < 6 := by omega
        obtain ⟨u, hu⟩ := own_cell1 Own3.out j2 (by omega)
        have hf := own_frozen Own3.out j2
        have hgb := (own_some Own3.out).1
        have Own4 := Lib.hid (own_put Own3.out j2 ⟨#[]⟩)
        have hbs : Below w.heap.size w3 (w3.setCell ⟨b, j2, none⟩ (.string ⟨#[]⟩)) := (Below.refl _ _).setCell (p := ⟨b, j2, none⟩) hgb _
        have hc4 := hc3.bel hbs hlt
        have G4 := gb_bel0 G3 hbs
        go_wp2_with fail
        have hgr := ring_set (j := j2) hgr ringT_nil
        have hl := (show (L.set j2 ⟨#[]⟩).length = 6 by rw [List.length_set]; exact hl)
        generalize (w3.setCell ⟨b, j2, none⟩ (.string ⟨#[]⟩)) = w2 at *
        generalize L.set j2 ⟨#[]⟩ = L at *
        clear Own3 hc3 G3 hu hf hbs
        have Own2 := Own4
        have hc2 := hc4
        have G2 := G4
        clear Own4 hc4 G4
      case' true.false | false.false =>
        go_wp2_with fail
      all_goals
        refine (Ho.out 15 (by omega) w2 hc2).mono ?_
        rintro e w3 ⟨o, rfl, hc3, hg3⟩
        have Own3 := Lib.hid (own_g Own2.out hg3 hlt)
        have G3 := G2.trans hg3
        have hcc := (own_some Own3.out).2
        obtain ⟨_, _, hcc, hcm, _⟩ := hcc
        clear Own2 hc2 G2 hg3
        cases o
      all_goals
        go_wp2
        go_ret
        first
          | exact ⟨_, L, rfl, by omega, hgr, by rw [hl]; exact Own3.out, hc3, G3⟩
          | exact ⟨_, L.take 5, rfl, by rw [List.length_take]; omega, fun x hx => hgr x (List.mem_of_mem_take hx), by rw [show (L.take 5).length = 5 by rw [List.length_take]; omega, show SS (L.take 5) = (SS L).take 5 by simp [SS]]; exact own_pre Own3.out 5 (by omega), hc3, G3⟩
    · have k0 : (k : Int) > 0 := by omega
      go_wp2_with fail
      refine (Ht.out wr hc).mono ?_
      rintro e w2 ⟨t, rfl, ht, hc2, hg2⟩
      have Own2 := Lib.hid (own_g Own.out hg2 hlt)
      have G2 := G.trans hg2
      clear Own hc G hg2
      obtain ⟨A5, c5, h5, _, _, hr5⟩ := own_vals Own2.out
      simp only [Value.slice.injEq, true_and] at h5
      obtain ⟨rfl, rfl⟩ := h5
      go_wp2_with fail
      refine (ringPut_spec _ 6 cc L (by omega) hl (s : Int) t (by omega) w2 hr5).mono ?_
      intro e w3 hp
      obtain ⟨B, c3, rfl, own3, hb3⟩ := put6 hp hl
      have Own3 := Lib.hid (own_more own3 G2.size)
      have G3 := gb_below G2 hb3
      have hc3 := hc2.below hb3
      clear hp own3 hr5 Own2
      have ws : IntKind.i64.wrap ((s : Int) + 1) = ((s + 1 : Nat) : Int) := by rw [IntKind.wrap_i64]; omega
      have wk : IntKind.i64.wrap ((k : Int) - 1) = ((k - 1 : Nat) : Int) := by rw [IntKind.wrap_i64]; omega
      go_wp2
      first
        | exact ⟨⟨putL L (s : Int) t, s + 1, k - 1, by go_num, by go_num, by omega, by omega, putL_len L _ t hl, good_put hgd hs1 (by omega) ht, Own3.out, hc3, G3⟩, by simp [intOf]; omega⟩
        | (go_roundw; case rel => exact ⟨putL L (s : Int) t, s + 1, k - 1, by go_num, by go_num, by omega, by omega, putL_len L _ t hl, good_put hgd hs1 (by omega) ht, Own3.out, hc3, G3⟩; case measure => (simp [intOf]; omega))

set_option maxRecDepth 100000 in
set_option maxHeartbeats 8000000 in
theorem drawReadRec_any (A : Option Addr) (n cp : Nat) (bs : List UInt8) (hn : n ≤ 9223372036854775000) (w : World) (hr : Reads w w.heap.size 1 A n (B8 bs)) :
    Calls Try.prog 8 #[.slice A n cp] w fun e w' => ∃ s : ByteArray, e = .returned (.string s) ∧ s.size ≤ 1000 ∧ Below w.heap.size w w' := by
  go_enter Try.func8, Try.ntmps8
  go_wp2_with fail
  refine (l1New_any A n cp bs (by omega) w hr).mono ?_
  rintro e w2 ⟨g, rfl, hg, hc, hb2⟩
  go_wp2_with fail
  refine (l24Rec_any g A n cp bs (by omega) w2 hc).mono ?_
  rintro e w5 ⟨q, u, rfl, hu, hc5, hg5⟩
  have B5 := belG hb2 hg5 hg
  go_wp2_with fail
  refine (showRec_spec q u w5 (by omega)).mono ?_
  rintro e w6 ⟨rfl, hb6⟩
  have B6 := belN B5 hb6
  have hc6 := hc5.below hb6
  have hsz := show_sz q u
  obtain ⟨T, hT⟩ : ∃ T, showRecB q u = T := ⟨_, rfl⟩
  rw [hT] at hsz
  rw [hT]
  clear hT
  go_wp2_with fail
  refine (l1Below_any g A n cp bs (by omega) 4 (by omega) w6 hc6).mono ?_
  rintro e w7 ⟨y, rfl, _, hy, hc7, hg7⟩
  obtain ⟨hy0, hy1⟩ := hy (by omega)
  have B7 := belG B6 hg7 hg
  by_cases y0 : y = 0
  · subst y0
    go_wp2_with fail
    refine (l1Spoil_any g A n cp bs (by omega) T (by omega) w7 hc7).mono ?_
    rintro e w8 ⟨t, rfl, hsp, hc8, hg8⟩
    have ht := spoilt_sz hsp
    go_wp2
    go_ret
    exact ⟨t, rfl, by omega, belG B7 hg8 hg⟩
  · by_cases y1 : y = 1
    · subst y1
      by_cases h4 : (T.size : Int) > 4
      · have q4 : (4 : Int) ≤ (T.size : Int) := by omega
        have e4 : (T.extract 4 T.size).size = T.size - 4 := by rw [ByteArray.size_extract]; omega
        obtain ⟨T4, hT4⟩ : ∃ S, T.extract 4 T.size = S := ⟨_, rfl⟩
        rw [hT4] at e4
        go_wp2_with fail
        try rw [hT4]
        refine (l1Spoil_any g A n cp bs (by omega) T4 (by omega) w7 hc7).mono ?_
        rintro e w8 ⟨t, rfl, hsp, hc8, hg8⟩
        have ht := spoilt_sz hsp
        have B8 := belG B7 hg8 hg
        go_wp2_with fail
        refine (crc_spec t (by omega) w8).mono ?_
        rintro e w9 ⟨rfl, rfl⟩
        have hcr := crcB_bd t
        have bb : ¬ (9223372036854775807 < 4 + t.size) := by omega
        go_wp2_with fail
        refine (fixed_spec (crcB t) (by omega) (by omega) w8).mono ?_
        rintro e w10 ⟨rfl, hb10⟩
        have hf := fix4_size (crcB t)
        go_wp2
        go_ret
        exact ⟨_, rfl, by rw [ByteArray.size_append, hf]; omega, belN B8 hb10⟩
      · go_wp2
        go_ret
        exact ⟨T, rfl, by omega, B7⟩
    · go_wp2
      go_ret
      exact ⟨T, rfl, by omega, B7⟩

set_option maxRecDepth 100000 in
set_option maxHeartbeats 8000000 in
theorem drawRingPut_any (A : Option Addr) (n cp : Nat) (bs : List UInt8) (hn : n ≤ 9223372036854775000) (w : World) (hr : Reads w w.heap.size 1 A n (B8 bs)) :
    Calls Try.prog 5 #[.slice A n cp] w fun e w' => ∃ (v : Value) (L : List ByteArray) (q : Int) (t : ByteArray), e = .returned (.tuple #[v, .agg #[.int .i64 q, .string t]]) ∧ t.size ≤ 81 ∧ L.length ≤ 6 ∧ (∀ x ∈ L, ringT x) ∧ w'.ownsRow w.heap.size 9 1 v L.length (SS L) ∧ Below w.heap.size w w' := by
  have Hr := Lib.hid hr
  clear hr
  obtain ⟨W1, hW1⟩ : ∃ W, w.alloc (.cells #[.int .i64 0, .string ⟨#[]⟩] 26) = W := ⟨_, rfl⟩
  have R1 : Blk W1 w.heap.size 26 #[.int .i64 0, .string ⟨#[]⟩] := by rw [← hW1]; exact Blk.new' _ _ _ _ rfl
  have B1 : Below w.heap.size w W1 := by rw [← hW1]; exact belA (bel0 _) _
  have HW1 := Lib.hid hW1
  clear hW1
  go_enter Try.func5, Try.ntmps5
  go_wp2_with fail
  rw [HW1.out]
  refine (l1New_any A n cp bs (by omega) W1 ((Hr.out.below B1).more B1.size)).mono ?_
  rintro e w2 ⟨g, rfl, hg, hc, hb2⟩
  have R2 := R1.below hb2 R1.lt
  have B2 := belN B1 hb2
  have gl : w.heap.size < g := by have := R1.lt; omega
  go_wp2_with fail
  refine (l24Rec_any g A n cp bs (by omega) w2 hc).mono ?_
  rintro e w3 ⟨q, t, rfl, ht, hc3, hg3⟩
  have R3 := blk_g R2 hg3 (by omega)
  have B3 := belG B2 hg3 (by omega)
  have l3 := R3.lt
  have gl3 := hc3.lt
  obtain ⟨W5, hW5⟩ : ∃ W, w3.alloc (.cells #[.int .i64 q, .string t] 26) = W := ⟨_, rfl⟩
  have O5 : Blk W5 w3.heap.size 26 #[.int .i64 q, .string t] := by rw [← hW5]; exact Blk.new' _ _ _ _ rfl
  have hc5 : Curs W5 g A n cp bs := by rw [← hW5]; exact hc3.alloc _
  have B5 : Below w.heap.size w W5 := by rw [← hW5]; exact belA B3 _
  have R5 : Blk W5 w.heap.size 26 #[.int .i64 0, .string ⟨#[]⟩] := by rw [← hW5]; exact R3.alloc _
  go_upto_region 3 with fail
  try rw [hW5]
  clear hW5 R1 R2 R3 B1 B2 B3 hc hc3 hg3 hb2
  have c0 := O5.get (x := .int .i64 q) 0 rfl
  have c1 := O5.get (x := .string t) 1 rfl
  have e0 := R5.get (x := .int .i64 0) 0 rfl
  have e1 := R5.get (x := .string ⟨#[]⟩) 1 rfl
  have f0 := R5.frozen 0
  have f1 := R5.frozen 1
  have l5 := hc5.lt
  have nw : w.heap.size ≠ w3.heap.size := by omega
  clear e0 e1 f0 f1
  go_region_held3 (fun w' => w'.cell? ⟨w3.heap.size, 0, none⟩ = some (.int .i64 q) ∧ w'.cell? ⟨w3.heap.size, 1, none⟩ = some (.string t))
    (first
      | exact ⟨c0, c1⟩
      | exact ⟨o0, o1⟩
      | (simp [*, World.cell?_setCell_far]; done))
    (first | (go_at_call 16; refine (l24Ring_any g A n cp bs (by omega) _ (by first | exact hc5 | exact hc5.drew)).mono ?_; rintro e w6 ⟨v, L, rfl, hL, hgd, own6, hc6, hg6⟩
              have R6 := blk_g R5.drew hg6 (by omega)
              have O6 := blk_g O5.drew hg6 (by omega)
              have o0 := O6.get (x := .int .i64 q) 0 rfl
              have o1 := O6.get (x := .string t) 1 rfl
              have e0 := R6.get (x := .int .i64 0) 0 rfl
              have e1 := R6.get (x := .string ⟨#[]⟩) 1 rfl
              have f0 := R6.frozen 0
              have f1 := R6.frozen 1))
  have hs5 : W5.drew.heap.size = W5.heap.size := rfl
  have l5' := R5.lt
  have HR := Lib.hid ((R6.put 0 (.int .i64 q) #[.int .i64 q, .string ⟨#[]⟩] rfl).put 1 (.string t) #[.int .i64 q, .string t] rfl)
  have Own := Lib.hid (own_more (own_scg (own_scg own6 0 (show w.heap.size < W5.drew.heap.size by omega) (.int .i64 q)) 1 (show w.heap.size < W5.drew.heap.size by omega) (.string t)) (show w.heap.size ≤ W5.drew.heap.size by omega))
  have hbz := Lib.hid (belC (belC (belG (show Below w.heap.size w W5.drew from B5.drew) hg6 (by omega)) w.heap.size 0 (Nat.le_refl _) (.int .i64 q)) w.heap.size 1 (Nat.le_refl _) (.string t))
  go_wp2
  have r0 := HR.out.get (x := .int .i64 q) 0 rfl
  have r1 := HR.out.get (x := .string t) 1 rfl
  refine bodyPost_ret (v := .tuple #[v, .agg #[.int .i64 q, .string t]]) (by simp [results, Try.results5, go_sem, r0, r1]) rfl ⟨v, L, q, t, rfl, ht, hL, hgd, Own.out, hbz.out⟩

end Go.Proofs.Ytgbgfgkgkbnflaa
