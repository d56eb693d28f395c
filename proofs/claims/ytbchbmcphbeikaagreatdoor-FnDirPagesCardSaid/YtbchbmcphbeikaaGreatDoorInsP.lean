/- One page is put into a row of pages, or taken out of it. -/
import Derived.Test.YtbchbmcphbeikaaGreatDoorInsG
namespace Go.Proofs.YtbchbmcphbeikaaGreatDoor
open Go Go.RowKit

theorem splice_ins1 {α : Type} (T zs x D : List α) (a : Nat) (hT : T.length = a) (hx : x.length = 1) (hz : zs.length = 1 + D.length) :
    ((T ++ zs).take a ++ x ++ (T ++ zs).drop (a + x.length)).take (a + 1) ++ D ++ ((T ++ zs).take a ++ x ++ (T ++ zs).drop (a + x.length)).drop (a + 1 + D.length) = T ++ x ++ D := by
  have e1 : (T ++ zs).take a = T := by subst hT; simp
  have e2 : (T ++ zs).drop (a + x.length) = zs.drop 1 := by subst hT; rw [hx, List.drop_append]; simp
  rw [e1, e2]
  have e3 : (T ++ x ++ zs.drop 1).take (a + 1) = T ++ x := List.take_left' (by simp; omega)
  have e4 : (T ++ x ++ zs.drop 1).drop (a + 1 + D.length) = [] := List.drop_eq_nil_of_le (by simp; omega)
  rw [e3, e4, List.append_nil]
theorem splice_shift1 {α : Type} (T js x D : List α) (a : Nat) (hT : T.length = a) (hx : x.length = 1) (hz : js.length = 1) :
    ((T ++ D ++ js).take (a + 1) ++ D ++ (T ++ D ++ js).drop (a + 1 + D.length)).take a ++ x ++ ((T ++ D ++ js).take (a + 1) ++ D ++ (T ++ D ++ js).drop (a + 1 + D.length)).drop (a + x.length) = T ++ x ++ D := by
  have e1 : (T ++ D ++ js).drop (a + 1 + D.length) = [] := List.drop_eq_nil_of_le (by simp; omega)
  rw [e1, List.append_nil]
  have hl : ((T ++ D ++ js).take (a + 1)).length = a + 1 := by simp; omega
  have e2 : ((T ++ D ++ js).take (a + 1) ++ D).take a = T := by
    rw [List.take_append_of_le_length (by omega), List.take_take, Nat.min_eq_left (by omega), List.append_assoc]
    subst hT; simp
  have e3 : ((T ++ D ++ js).take (a + 1) ++ D).drop (a + x.length) = D := by rw [hx]; exact List.drop_left' hl
  rw [e2, e3]

set_option maxRecDepth 100000 in
set_option maxHeartbeats 4000000 in
/-- slices.Insert of one entry. -/
theorem insP_any (base n i : Nat) (v : Value) (ds : List PgD) (x : PgD) (vb : Nat) (w : World) (hn : n ≤ 100000) (hi : i ≤ n) (hl : ds.length = n) (hbase : base ≤ w.heap.size) (hown : w.ownsRow base 30 1 v n (PV ds)) (hv : Blk w vb 30 #[x.val]) (hne : v.ownBlock ≠ some vb) :
    Calls Tryz.prog 59 #[v, .int .i64 i, .slice (some ⟨vb, 0, none⟩) 1 1] w fun e w' => ∃ v', e = .returned v' ∧ w'.ownsRow base 30 1 v' (n + 1) (PV (ds.take i ++ x :: ds.drop i)) ∧ Below base w w' ∧ w.grownBy w' v.ownBlock ∧ (v'.ownBlock = v.ownBlock ∨ ∃ k, v'.ownBlock = some k ∧ w.heap.size ≤ k) := by
  have hR := reads_blk hv 1 1 rfl
  have hxc : (#[x.val] : Array Value).toList = [x.val] := rfl
  rw [hxc] at hR
  have h1x : ∀ u ∈ [x.val], u.oneCell' = true := fun u hu => PV_cells [x] u (by simpa [PV] using hu)
  have hbig : (n + 1) * 24 ≤ 140737488355328 := by omega
  by_cases hin : i = n
  · subst hin
    have HE := Lib.hid (show PV ds ++ [x.val] = PV (ds.take i ++ x :: ds.drop i) by rw [List.take_of_length_le (by omega), List.drop_eq_nil_of_le (by omega), ← PV_mid]; simp [PV])
    have Hown := Lib.hid hown
    have HR := Lib.hid hR
    rcases hown.2 with ⟨rfl, h0⟩ | ⟨g, cap, cur, rfl, hb, hh, c1, c2, c3, c4⟩
    · subst h0
      clear hown hR hv
      go_enter Tryz.func59, Tryz.ntmps59
      go_wp2_with (at_builtin; refine wpList_app _ rfl _ _ _ rfl Tryz.el_pg Hown.out rfl HR.out rfl h1x (by unfold maxLen; omega) (by omega) hbase ?_; intro v8 w8 own8 hg8 ho8 hb8; have Own8 := Lib.hid own8; have Hg8 := Lib.hid hg8; have Ho8 := Lib.hid ho8; clear own8 hg8 ho8)
      all_goals
        go_ret
        exact ⟨_, rfl, by have := Own8.out; rw [HE.out] at this; exact this, hb8, Hg8.out, Ho8.out.elim .inl (fun h => .inr ⟨_, h, Nat.le_refl _⟩)⟩
    · unfold maxLen at c2
      clear hown hR hv hh c3 c4
      go_enter Tryz.func59, Tryz.ntmps59
      go_wp2_with (at_builtin; refine wpList_app _ rfl _ _ _ rfl Tryz.el_pg Hown.out rfl HR.out rfl h1x (by unfold maxLen; omega) (by omega) hbase ?_; intro v8 w8 own8 hg8 ho8 hb8; have Own8 := Lib.hid own8; have Hg8 := Lib.hid hg8; have Ho8 := Lib.hid ho8; clear own8 hg8 ho8)
      all_goals
        go_ret
        exact ⟨_, rfl, by have := Own8.out; rw [HE.out] at this; exact this, hb8, Hg8.out, Ho8.out.elim .inl (fun h => .inr ⟨_, h, Nat.le_refl _⟩)⟩
  · obtain ⟨g, c, rfl⟩ := own_form1 hown (by omega)
    have hne' : vb ≠ g := fun e => hne (by rw [e]; rfl)
    obtain ⟨cur, hb, hh, c1, c2, c3, c4⟩ := own_heap hown
    have hTl : (PV (ds.take i)).length = i := by rw [PV_length, List.length_take]; omega
    have hDl : (PV (ds.drop i)).length = (n - i) := by rw [PV_length, List.length_drop]; omega
    have hsplit : PV ds = PV (ds.take i) ++ PV (ds.drop i) := by rw [← PV_append, List.take_append_drop]
    have hDr : (PV ds).drop (i) = PV (ds.drop i) := PV_drop ds i
    have hTk : (PV ds).take (i) = PV (ds.take i) := PV_take ds i
    have h1D : ∀ u ∈ PV (ds.drop i), u.oneCell' = true := PV_cells _
    have hmid := PV_mid (ds.take i) (ds.drop i) x
    have hlt : i < n := by omega
    unfold maxLen at c2
    have hsz : (Tryz.prog.info? 30).map (·.size) = some 1 := by kernel_rfl
    have hci : ¬ (c = i) := by omega
    have hw1 : IntKind.i64.wrap ((i : Int) + 1) = (i : Int) + 1 := by rw [IntKind.wrap_i64]; omega
    have htn : ((i : Int) + 1).toNat = i + 1 := by omega
    have hb1 : (0 : Int) ≤ (i : Int) + 1 := by omega
    have hb3 : (i : Int) ≤ (n : Int) + 1 := by omega
    have hb4 : (i : Int) ≤ (n : Int) := by omega
    by_cases hroom : n + 1 ≤ c
    · obtain ⟨js, hjl, hw⟩ := own_wide hown 1 hroom
      have hgl := own_shape hw
      rw [Nat.mul_one] at hgl
      have hov : ∀ lb cb, (callFunc 83 #[.slice (some ⟨vb, 0, none⟩) 1 1, .slice (some ⟨g, (i + 1), none⟩) lb cb]).run Tryz.prog w = .ok (.value (.bool false)) w := fun lb cb => by
        rw [run_callFunc_extern Tryz.func83 (by kernel_rfl) (by kernel_rfl) (by kernel_rfl) (e := Extern.SlicesOverlaps.overlaps #[24, 24] #[4]) (by kernel_rfl),
          Lib.run_overlaps_apart w 24 4 30 Tryz.underlying24 1 (fun _ => rfl) ⟨vb, 0, none⟩ ⟨g, (i + 1), none⟩ 1 1 lb cb hne' 30 30 1 (c) (by unfold World.shape?; rw [show w.heap[vb]? = _ from hv]; rfl) hgl (by omega) (hv.frozen 0) (hv.frozen 1)]
        rfl
      have hb2 : ¬ (c = i + 1) := by omega
      obtain ⟨W2, hcp1, own2, g2⟩ := run_copy_own (P := Tryz.prog) (w := w.drew) 24 24 Tryz.underlying24 hsz hw (i + 1) (n - i) ⟨g, i, none⟩ (n + 1 - i) (PV (ds.drop i)) (n - i) (by simp only [Nat.min_def]; split <;> omega) (by rw [Nat.mul_one]; exact hDl)
        (fun j u hu => own_src hw (i) j u (by rw [List.drop_append_of_le_length (by rw [PV_length]; omega), hDr, List.getElem?_append_left (List.getElem?_eq_some_iff.1 hu).1]; exact hu)) (by omega) h1D
      have hv2 : Blk W2 vb 30 #[x.val] := hv.drew.grown g2 (by simp; omega)
      obtain ⟨W3, hcp2, own3, g3⟩ := run_copy_own (P := Tryz.prog) (w := W2) 24 24 Tryz.underlying24 hsz own2 (i) (n + 1 - i) ⟨vb, 0, none⟩ 1 [x.val] 1 (by simp only [Nat.min_def]; split <;> omega) rfl (blk_src hv2) (by simp only [List.length_cons, List.length_nil]; omega) h1x
      have Own3 := Lib.hid own3
      have Hg2 := Lib.hid g2
      have Hg3 := Lib.hid g3
      have Hjl := Lib.hid hjl
      clear hown hR hv hh c3 c4 hw hgl hjl own2 own3 g2 g3 hv2
      go_enter Tryz.func59, Tryz.ntmps59
      go_wp2_with (simp only [hov])
      go_region_law (refine step_copyR rfl _ _ 24 24 rfl _ _ (by simp [Act.eval, Act.put]) (by simp [Act.eval, Act.put]) (hcp1 _ _ _) ?_)
      go_wp2
      go_ret
      have hX := splice_shift1 (PV (ds.take i)) js [x.val] (PV (ds.drop i)) (i) hTl rfl (by have := Hjl.out; omega)
      rw [← hsplit, hmid] at hX
      refine ⟨_, rfl, ?_, ?_⟩
      · have h3 := Own3.out
        rw [hX] at h3
        exact h3
      · have b2 := (Below.refl base w).drew.grown Hg2.out (by simpa using hbase) (fun k hk => by cases hk; exact hb)
        exact ⟨b2.grown Hg3.out (Nat.le_trans hbase b2.size) (fun k hk => by cases hk; exact hb), gb_dro (Hg2.out.trans Hg3.out), .inl rfl⟩
    · have hgt : (c : Int) < (n : Int) + 1 := by omega
      obtain ⟨c', W1, zs, hap, hzl, own1, hc1, hc2, hb1'⟩ := run_app_zeros (P := Tryz.prog) 24 3 Tryz.el_pg Tryz.underlying3 hown i hi ((n : Int) + 1 - (i : Int)) (n + 1 - i) (n + 1) (by omega) (by omega) (by omega) (by omega) (by omega) hbig
      rw [Nat.mul_one, hTk] at own1
      obtain ⟨W2, hcp1, own2, g2⟩ := run_copy_own (P := Tryz.prog) (w := W1) 24 24 Tryz.underlying24 hsz own1 (i) (n + 1 - i) ⟨vb, 0, none⟩ 1 [x.val] 1 (by simp only [Nat.min_def]; split <;> omega) rfl (blk_src (hv.below hb1' hv.lt)) (by simp only [List.length_cons, List.length_nil]; omega) h1x
      have B2 := belG hb1' g2 (Nat.le_refl _)
      obtain ⟨W3, hcp2, own3, g3⟩ := run_copy_own (P := Tryz.prog) (w := W2.drew) 24 24 Tryz.underlying24 hsz own2 (i + 1) (n - i) ⟨g, i, none⟩ (n - i) (PV (ds.drop i)) (n - i) (by simp only [Nat.min_def]; split <;> omega) (by rw [Nat.mul_one]; exact hDl)
        (fun j u hu => own_src (own_below hown B2 (Nat.le_refl _)) (i) j u (by rw [hDr]; exact hu)) (by omega) h1D
      have B3 := Lib.hid (belG B2.drew g3 (Nat.le_refl _))
      have Own3 := Lib.hid own3
      have hci1 : ¬ (c' = i) := by omega
      have hci2 : ¬ (c' = i + 1) := by omega
      have hic' : i + 1 ≤ c' := by omega
      clear hown hR hv hh c3 c4 own1 own2 own3 g2 g3 B2 hb1'
      go_enter Tryz.func59, Tryz.ntmps59
      go_wp2_with (at_builtin; refine wpList_appR rfl _ _ _ _ rfl _ _ rfl rfl (hap _) ?_)
      go_region_law (refine step_copyR rfl _ _ 24 24 rfl _ _ (by simp [Act.eval, Act.put]) (by simp [Act.eval, Act.put]) (hcp2 _ _ _) ?_)
      go_wp2
      go_ret
      have hX := splice_ins1 (PV (ds.take i)) zs [x.val] (PV (ds.drop i)) (i) hTl rfl (by omega)
      rw [hmid] at hX
      refine ⟨_, rfl, ?_, B3.out.mono hbase, gb_new B3.out, .inr ⟨_, rfl, Nat.le_refl _⟩⟩
      have h3 := Own3.out
      rw [hX] at h3
      exact own_more h3 hbase

set_option maxRecDepth 100000 in
set_option maxHeartbeats 4000000 in
/-- slices.Delete of one entry. -/
theorem delP_any (base n i g c : Nat) (ds : List PgD) (w : World) (hn : n ≤ 100000) (hi : i < n) (hl : ds.length = n) (hbase : base ≤ w.heap.size) (hown : w.ownsRow base 30 1 (.slice (some ⟨g, 0, none⟩) n c) n (PV ds)) :
    Calls Tryz.prog 67 #[.slice (some ⟨g, 0, none⟩) n c, .int .i64 i, .int .i64 ((i : Int) + 1)] w fun e w' => e = .returned (.slice (some ⟨g, 0, none⟩) (n - 1) c) ∧ w'.ownsRow base 30 1 (.slice (some ⟨g, 0, none⟩) (n - 1) c) (n - 1) (PV (ds.take i ++ ds.drop (i + 1))) ∧ Below base w w' ∧ w.grownBy w' (some g) := by
  obtain ⟨cur, hb, hh, c1, c2, c3, c4⟩ := own_heap hown
  unfold maxLen at c2
  have hTl : (PV (ds.take i)).length = i := by rw [PV_length, List.length_take]; omega
  have hDl : (PV (ds.drop (i + 1))).length = (n - (i + 1)) := by rw [PV_length, List.length_drop]; omega
  have hDr : (PV ds).drop (i + 1) = PV (ds.drop (i + 1)) := PV_drop ds (i + 1)
  have hTk : (PV ds).take (i) = PV (ds.take i) := PV_take ds i
  have hxl : (PV ds).length = n := by have := hown.1; rwa [Nat.mul_one] at this
  have h1D : ∀ u ∈ PV (ds.drop (i + 1)), u.oneCell' = true := PV_cells _
  obtain ⟨i0, hi0, hz0, hz1, hz2⟩ := info_parts Tryz.el_pg.hi
  have hw1 : IntKind.i64.wrap ((i : Int) + 1) = (i : Int) + 1 := by rw [IntKind.wrap_i64]; omega
  have htn : ((i : Int) + 1).toNat = i + 1 := by omega
  have hne : ¬ ((i : Int) = (i : Int) + 1) := by omega
  have hic : i ≤ c := by omega
  have hjc : i + 1 ≤ c := by omega
  have hin : i + 1 ≤ n := by omega
  have hin2 : (i : Int) + 1 ≤ (n : Int) := by omega
  have hb1 : (0 : Int) ≤ (i : Int) + 1 := by omega
  have hci : ¬ (c = i) := by omega
  obtain ⟨A, hA, hsrc⟩ : ∃ A : Addr, (if c = i + 1 then (some ⟨g, 0, none⟩ : Option Addr) else some ⟨g, (i + 1), none⟩) = some A ∧ Hid (∀ j u, (PV (ds.drop (i + 1)))[j]? = some u → w.drew.cell? (A.add j) = some u) := by
    by_cases h : c = i + 1
    · refine ⟨⟨g, 0, none⟩, by rw [if_pos h], fun j u hu => ?_⟩
      have := (List.getElem?_eq_some_iff.1 hu).1
      omega
    · refine ⟨⟨g, (i + 1), none⟩, by rw [if_neg h], fun j u hu => own_src hown (i + 1) j u (by rw [hDr]; exact hu)⟩
  have hspare : Hid (∀ j, j < (PV (ds.drop (i + 1))).length → (w.drew.cell? ⟨g, 0 + i * 1 + j, none⟩).isSome = true ∧ w.drew.frozen? ⟨g, 0 + i * 1 + j, none⟩ = false) := fun j hj => by
    refine ⟨?_, own_frozen hown _⟩
    show (w.cell? ⟨g, 0 + i * 1 + j, none⟩).isSome = true
    rw [hown.cellAt _ (by omega), List.getElem?_eq_getElem (by omega)]; rfl
  obtain ⟨W1, hW1⟩ : ∃ W1, W1 = w.drew.setCells g (0 + i * 1) (PV (ds.drop (i + 1))) := ⟨_, rfl⟩
  obtain ⟨own1, g1⟩ := own_setCells (PV (ds.drop (i + 1))) (0 + i * 1) (w := w.drew) hown (by omega)
  rw [← hW1] at own1 g1
  have hzc : ∀ m, ∀ v ∈ (Builtin.zeroCells (Value.slice none 0 0).cells m).toList, v.oneCell' = true := by
    intro m v hv
    simp only [Builtin.zeroCells, Array.toList_map, List.mem_map] at hv
    obtain ⟨q, _, rfl⟩ := hv
    rw [show (Value.slice none 0 0).cells.size = 1 from rfl, Nat.mod_one]; rfl
  obtain ⟨W2, hcl, own2, g2⟩ := run_clear_own (P := Tryz.prog) (size := 1) 24 (Value.slice none 0 0) Tryz.underlying24 (fun _ => rfl) rfl hzc own1 (i + (n - (i + 1))) (n - (i + (n - (i + 1)))) (by omega) (by omega)
  rw [Nat.mul_one] at hcl own2
  have Own2 := Lib.hid own2
  have G1 := Lib.hid g1
  have Hg2 := Lib.hid g2
  have HW1 := Lib.hid hW1
  clear hown hh c3 c4 own1 g1 hW1 own2 g2 hzc
  go_enter Tryz.func67, Tryz.ntmps67
  go_wp2_with fail
  go_region_law (refine step_append_room rfl (.tmp 22) (.tmp 25) 24 rfl 30 i0 1 Tryz.underlying24 hi0 hz1 g 0 i c (by simp [Act.eval, Act.put]) A (n - (i + 1)) (c - (i + 1)) (PV (ds.drop (i + 1))) (by simp [Act.eval, Act.put]) (by rw [Nat.mul_one]; exact hDl) hsrc.out h1D (by omega) hspare.out ?_; rw [← HW1.out])
  go_wp2
  go_ret
  have b1 := (Below.refl base w).drew.grown G1.out (by simpa using hbase) (fun k hk => by cases hk; exact hb)
  have b2 := b1.grown Hg2.out (Nat.le_trans hbase b1.size) (fun k hk => by cases hk; exact hb)
  have he : i + (n - (i + 1)) = n - 1 := by omega
  refine ⟨by rw [he]; rfl, ?_, b2, gb_dro (G1.out.trans Hg2.out)⟩
  have h2 := Own2.out
  rw [Nat.zero_add, Nat.mul_one, hTk, List.take_left' (by rw [List.length_append]; omega), ← PV_append] at h2
  rw [he] at h2
  exact h2

end Go.Proofs.YtbchbmcphbeikaaGreatDoor
