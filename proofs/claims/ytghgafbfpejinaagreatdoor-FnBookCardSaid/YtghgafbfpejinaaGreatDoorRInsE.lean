/- Go's slices.Insert and slices.Delete on rows of entries of a call's own. -/
import Derived.Test.YtghgafbfpejinaaGreatDoorRRowOps
import Derived.Test.YtghgafbfpejinaaGreatDoorRPgOk
import Derived.Deep.RegionLaw
import Derived.Laws.Externs
namespace Go.Proofs.YtghgafbfpejinaaGreatDoor
open Go Go.RowKit

theorem ES_take : ∀ (l : List EntD) (k : Nat), (ES l).take (k * 4) = ES (l.take k)
 | [], k => by simp [ES]
 | e :: l, 0 => by simp [ES]
 | e :: l, k + 1 => by
  rw [ES_cons, show (k + 1) * 4 = k * 4 + 1 + 1 + 1 + 1 by omega, List.take_succ_cons, List.take_succ_cons, List.take_succ_cons, List.take_succ_cons, ES_take l k, List.take_succ_cons, ES_cons]
theorem ES_drop : ∀ (l : List EntD) (k : Nat), (ES l).drop (k * 4) = ES (l.drop k)
 | [], k => by simp [ES]
 | e :: l, 0 => by simp
 | e :: l, k + 1 => by
  rw [ES_cons, show (k + 1) * 4 = k * 4 + 1 + 1 + 1 + 1 by omega, List.drop_succ_cons, List.drop_succ_cons, List.drop_succ_cons, List.drop_succ_cons, ES_drop l k, List.drop_succ_cons]
theorem ES_mid (a b : List EntD) (x : EntD) : ES a ++ x.cells ++ ES b = ES (a ++ x :: b) := by
 rw [ES_append, ES_cons]; simp [EntD.cells]
theorem own_src {w : World} {base size g n c : Nat} {e : TypeId} {xs : List Value} (h : w.ownsRow base e size (.slice (some ⟨g, 0, none⟩) n c) n xs) (o : Nat) : ∀ j v, (xs.drop o)[j]? = some v → w.cell? ((⟨g, o, none⟩ : Addr).add j) = some v := fun j v hv => by
 have ha : (⟨g, o, none⟩ : Addr).add j = ⟨g, o + j, none⟩ := by unfold Addr.add; split <;> simp_all
 rw [List.getElem?_drop] at hv
 have hlt := (List.getElem?_eq_some_iff.1 hv).1
 rw [ha, h.cellAt (o + j) (by have := h.1; omega), hv]
theorem blk_src {w : World} {g : Nat} {t : TypeId} {cs : Array Value} (h : Blk w g t cs) : ∀ j v, cs.toList[j]? = some v → w.cell? ((⟨g, 0, none⟩ : Addr).add j) = some v := fun j v hv => by
 have ha : (⟨g, 0, none⟩ : Addr).add j = ⟨g, j, none⟩ := by unfold Addr.add; split <;> simp_all
 rw [ha, h.cell]
 simpa using hv
theorem splice_ins {α : Type} (T zs x D : List α) (a : Nat) (hT : T.length = a) (hx : x.length = 4) (hz : zs.length = 4 + D.length) :
  ((T ++ zs).take a ++ x ++ (T ++ zs).drop (a + x.length)).take (a + 4) ++ D ++ ((T ++ zs).take a ++ x ++ (T ++ zs).drop (a + x.length)).drop (a + 4 + D.length) = T ++ x ++ D := by
 have e1 : (T ++ zs).take a = T := by subst hT; simp
 have e2 : (T ++ zs).drop (a + x.length) = zs.drop 4 := by subst hT; rw [hx, List.drop_append]; simp
 rw [e1, e2]
 have e3 : (T ++ x ++ zs.drop 4).take (a + 4) = T ++ x := List.take_left' (by simp; omega)
 have e4 : (T ++ x ++ zs.drop 4).drop (a + 4 + D.length) = [] := List.drop_eq_nil_of_le (by simp; omega)
 rw [e3, e4, List.append_nil]
theorem splice_shift {α : Type} (T js x D : List α) (a : Nat) (hT : T.length = a) (hx : x.length = 4) (hz : js.length = 4) :
  ((T ++ D ++ js).take (a + 4) ++ D ++ (T ++ D ++ js).drop (a + 4 + D.length)).take a ++ x ++ ((T ++ D ++ js).take (a + 4) ++ D ++ (T ++ D ++ js).drop (a + 4 + D.length)).drop (a + x.length) = T ++ x ++ D := by
 have e1 : (T ++ D ++ js).drop (a + 4 + D.length) = [] := List.drop_eq_nil_of_le (by simp; omega)
 rw [e1, List.append_nil]
 have hl : ((T ++ D ++ js).take (a + 4)).length = a + 4 := by simp; omega
 have e2 : ((T ++ D ++ js).take (a + 4) ++ D).take a = T := by
  rw [List.take_append_of_le_length (by omega), List.take_take, Nat.min_eq_left (by omega), List.append_assoc]
  subst hT; simp
 have e3 : ((T ++ D ++ js).take (a + 4) ++ D).drop (a + x.length) = D := by rw [hx]; exact List.drop_left' hl
 rw [e2, e3]

set_option maxRecDepth 100000 in
set_option maxHeartbeats 4000000 in
/-- slices.Insert of one entry. -/
theorem insE_any (base n i : Nat) (v : Value) (ds : List EntD) (x : EntD) (vb : Nat) (w : World) (hn : n ≤ 100000) (hi : i ≤ n) (hl : ds.length = n) (hbase : base ≤ w.heap.size) (hown : w.ownsRow base 66 4 v n (ES ds)) (hv : Blk w vb 66 x.arr) (hne : v.ownBlock ≠ some vb) :
  Calls Tryz.prog 107 #[v, .int .i64 i, .slice (some ⟨vb, 0, none⟩) 1 1] w fun e w' => ∃ v', e = .returned v' ∧ w'.ownsRow base 66 4 v' (n + 1) (ES (ds.take i ++ x :: ds.drop i)) ∧ Below base w w' := by
 have hR := reads_blk hv 4 1 rfl
 have hxc : x.arr.toList = x.cells := rfl
 rw [hxc] at hR
 have h1x : ∀ u ∈ x.cells, u.oneCell' = true := fun u hu => ES_cells [x] u (by simpa [ES] using hu)
 have hbig : (n + 1) * 40 ≤ 140737488355328 := by omega
 by_cases hin : i = n
 ·subst hin
  have HE := Lib.hid (show ES ds ++ x.cells = ES (ds.take i ++ x :: ds.drop i) by rw [List.take_of_length_le (by omega), List.drop_eq_nil_of_le (by omega), ← ES_mid]; simp [ES])
  have Hown := Lib.hid hown
  have HR := Lib.hid hR
  rcases hown.2 with ⟨rfl, h0⟩ | ⟨g, cap, cur, rfl, hb, hh, c1, c2, c3, c4⟩
  ·subst h0
   clear hown hR hv
   go_enter Tryz.func107, Tryz.ntmps107
   go_wp2_with (at_builtin; refine wpList_app _ rfl _ _ _ rfl Tryz.el_ent Hown.out rfl HR.out rfl h1x (by unfold maxLen; omega) (by omega) hbase ?_; intro v8 w8 own8 _ _ hb8; have Own8 := Lib.hid own8; clear own8)
   all_goals
    go_ret
    exact ⟨_, rfl, by have := Own8.out; rw [HE.out] at this; exact this, hb8⟩
  ·unfold maxLen at c2
   clear hown hR hv hh c3 c4
   go_enter Tryz.func107, Tryz.ntmps107
   go_wp2_with (at_builtin; refine wpList_app _ rfl _ _ _ rfl Tryz.el_ent Hown.out rfl HR.out rfl h1x (by unfold maxLen; omega) (by omega) hbase ?_; intro v8 w8 own8 _ _ hb8; have Own8 := Lib.hid own8; clear own8)
   all_goals
    go_ret
    exact ⟨_, rfl, by have := Own8.out; rw [HE.out] at this; exact this, hb8⟩
 ·obtain ⟨g, c, rfl⟩ := own_form1 hown (by omega)
  have hne' : vb ≠ g := fun e => hne (by rw [e]; rfl)
  obtain ⟨cur, hb, hh, c1, c2, c3, c4⟩ := own_heap hown
  have hTl : (ES (ds.take i)).length = i * 4 := by rw [ES_length, List.length_take]; omega
  have hDl : (ES (ds.drop i)).length = (n - i) * 4 := by rw [ES_length, List.length_drop]; omega
  have hsplit : ES ds = ES (ds.take i) ++ ES (ds.drop i) := by rw [← ES_append, List.take_append_drop]
  have hDr : (ES ds).drop (i * 4) = ES (ds.drop i) := ES_drop ds i
  have hTk : (ES ds).take (i * 4) = ES (ds.take i) := ES_take ds i
  have h1D : ∀ u ∈ ES (ds.drop i), u.oneCell' = true := ES_cells _
  have hmid := ES_mid (ds.take i) (ds.drop i) x
  have hlt : i < n := by omega
  unfold maxLen at c2
  have hsz : (Tryz.prog.info? 66).map (·.size) = some 4 := by kernel_rfl
  have hci : ¬ (c = i) := by omega
  have hw1 : IntKind.i64.wrap ((i : Int) + 1) = (i : Int) + 1 := by rw [IntKind.wrap_i64]; omega
  have htn : ((i : Int) + 1).toNat = i + 1 := by omega
  have hb1 : (0 : Int) ≤ (i : Int) + 1 := by omega
  have hb3 : (i : Int) ≤ (n : Int) + 1 := by omega
  have hb4 : (i : Int) ≤ (n : Int) := by omega
  by_cases hroom : n + 1 ≤ c
  ·obtain ⟨js, hjl, hw⟩ := own_wide hown 1 hroom
   have hgl := own_shape hw
   have hov : ∀ lb cb, (callFunc 124 #[.slice (some ⟨vb, 0, none⟩) 1 1, .slice (some ⟨g, (i + 1) * 4, none⟩) lb cb]).run Tryz.prog w = .ok (.value (.bool false)) w := fun lb cb => by
    rw [run_callFunc_extern Tryz.func124 (by kernel_rfl) (by kernel_rfl) (by kernel_rfl) (e := Extern.SlicesOverlaps.overlaps #[26, 26] #[4]) (by kernel_rfl),
     Lib.run_overlaps_apart w 26 4 66 Tryz.underlying26 4 (fun _ => rfl) ⟨vb, 0, none⟩ ⟨g, (i + 1) * 4, none⟩ 1 1 lb cb hne' 66 66 4 (c * 4) (by unfold World.shape?; rw [show w.heap[vb]? = _ from hv]; rfl) hgl (by omega) (hv.frozen 0) (hv.frozen 4)]
    rfl
   have hb2 : ¬ (c = i + 1) := by omega
   obtain ⟨W2, hcp1, own2, g2⟩ := run_copy_own (P := Tryz.prog) (w := w.drew) 26 26 Tryz.underlying26 hsz hw ((i + 1) * 4) (n - i) ⟨g, i * 4, none⟩ (n + 1 - i) (ES (ds.drop i)) (n - i) (by simp only [Nat.min_def]; split <;> omega) hDl
    (fun j u hu => own_src hw (i * 4) j u (by rw [List.drop_append_of_le_length (by rw [ES_length]; omega), hDr, List.getElem?_append_left (List.getElem?_eq_some_iff.1 hu).1]; exact hu)) (by omega) h1D
   have hv2 : Blk W2 vb 66 x.arr := hv.drew.grown g2 (by simp; omega)
   obtain ⟨W3, hcp2, own3, g3⟩ := run_copy_own (P := Tryz.prog) (w := W2) 26 26 Tryz.underlying26 hsz own2 (i * 4) (n + 1 - i) ⟨vb, 0, none⟩ 1 x.cells 1 (by simp only [Nat.min_def]; split <;> omega) rfl (blk_src hv2) (by simp only [EntD.cells, List.length_cons, List.length_nil]; omega) h1x
   have Own3 := Lib.hid own3
   have Hg2 := Lib.hid g2
   have Hg3 := Lib.hid g3
   have Hjl := Lib.hid hjl
   clear hown hR hv hh c3 c4 hw hgl hjl own2 own3 g2 g3 hv2
   go_enter Tryz.func107, Tryz.ntmps107
   go_wp2_with (simp only [hov])
   go_region_law (refine step_copyR rfl _ _ 26 26 rfl _ _ (by simp [Act.eval, Act.put]) (by simp [Act.eval, Act.put]) (hcp1 _ _ _) ?_)
   go_wp2
   go_ret
   have hX := splice_shift (ES (ds.take i)) js x.cells (ES (ds.drop i)) (i * 4) hTl rfl (by have := Hjl.out; omega)
   rw [← hsplit, hmid] at hX
   refine ⟨_, rfl, ?_, ?_⟩
   ·have h3 := Own3.out
    rw [show (i + 1) * 4 = i * 4 + 4 by omega, hX] at h3
    exact h3
   ·have b2 := (Below.refl base w).drew.grown Hg2.out (by simpa using hbase) (fun k hk => by cases hk; exact hb)
    exact b2.grown Hg3.out (Nat.le_trans hbase b2.size) (fun k hk => by cases hk; exact hb)
  ·have hgt : (c : Int) < (n : Int) + 1 := by omega
   obtain ⟨c', W1, zs, hap, hzl, own1, hc1, hc2, hb1'⟩ := run_app_zeros (P := Tryz.prog) 26 3 Tryz.el_ent Tryz.underlying3 hown i hi ((n : Int) + 1 - (i : Int)) (n + 1 - i) (n + 1) (by omega) (by omega) (by omega) (by omega) (by omega) hbig
   rw [hTk] at own1
   obtain ⟨W2, hcp1, own2, g2⟩ := run_copy_own (P := Tryz.prog) (w := W1) 26 26 Tryz.underlying26 hsz own1 (i * 4) (n + 1 - i) ⟨vb, 0, none⟩ 1 x.cells 1 (by simp only [Nat.min_def]; split <;> omega) rfl (blk_src (hv.below hb1' hv.lt)) (by simp only [EntD.cells, List.length_cons, List.length_nil]; omega) h1x
   have B2 := belG hb1' g2 (Nat.le_refl _)
   obtain ⟨W3, hcp2, own3, g3⟩ := run_copy_own (P := Tryz.prog) (w := W2.drew) 26 26 Tryz.underlying26 hsz own2 ((i + 1) * 4) (n - i) ⟨g, i * 4, none⟩ (n - i) (ES (ds.drop i)) (n - i) (by simp only [Nat.min_def]; split <;> omega) hDl
    (fun j u hu => own_src (own_below hown B2 (Nat.le_refl _)) (i * 4) j u (by rw [hDr]; exact hu)) (by omega) h1D
   have B3 := Lib.hid (belG B2.drew g3 (Nat.le_refl _))
   have Own3 := Lib.hid own3
   have hci1 : ¬ (c' = i) := by omega
   have hci2 : ¬ (c' = i + 1) := by omega
   have hic' : i + 1 ≤ c' := by omega
   clear hown hR hv hh c3 c4 own1 own2 own3 g2 g3 B2 hb1'
   go_enter Tryz.func107, Tryz.ntmps107
   go_wp2_with (at_builtin; refine wpList_appR rfl _ _ _ _ rfl _ _ rfl rfl (hap _) ?_)
   go_region_law (refine step_copyR rfl _ _ 26 26 rfl _ _ (by simp [Act.eval, Act.put]) (by simp [Act.eval, Act.put]) (hcp2 _ _ _) ?_)
   go_wp2
   go_ret
   have hX := splice_ins (ES (ds.take i)) zs x.cells (ES (ds.drop i)) (i * 4) hTl rfl (by omega)
   rw [hmid] at hX
   refine ⟨_, rfl, ?_, B3.out.mono hbase⟩
   have h3 := Own3.out
   rw [show (i + 1) * 4 = i * 4 + 4 by omega, hX] at h3
   exact own_more h3 hbase

theorem own_setCells {base size n g c : Nat} {e : TypeId} : ∀ (vs : List Value) (o : Nat) {w : World} {xs : List Value}, w.ownsRow base e size (.slice (some ⟨g, 0, none⟩) n c) n xs → o + vs.length ≤ n * size →
  (w.setCells g o vs).ownsRow base e size (.slice (some ⟨g, 0, none⟩) n c) n (xs.take o ++ vs ++ xs.drop (o + vs.length)) ∧ w.grownBy (w.setCells g o vs) (some g)
 | [], o, w, xs, h, _ => ⟨by simpa [World.setCells] using h, grown_refl _ _⟩
 | v :: r, o, w, xs, h, hf => by
  have hl : o + (r.length + 1) ≤ xs.length := by have := h.1; simp at hf; omega
  obtain ⟨h1, h2⟩ := own_setCells r (o + 1) (own_set h o v) (by simp at hf; omega)
  refine ⟨?_, ?_⟩
  ·rw [World.setCells]
   have e := list_seg_step xs o v r hl
   rw [e] at h1
   simpa using h1
  ·rw [World.setCells]
   have g1 : w.grownBy (w.setCell ⟨g, o, none⟩ v) (some g) := only_sc (grown_refl _ _) o v
   exact ⟨h2.os.trans g1.os, h2.tape.trans g1.tape, h2.output.trans g1.output, Nat.le_trans g1.size h2.size, fun k hk hne => (h2.block k (Nat.lt_of_lt_of_le hk g1.size) hne).trans (g1.block k hk hne)⟩

set_option maxRecDepth 100000 in
set_option maxHeartbeats 4000000 in
/-- slices.Delete of one entry. -/
theorem delE_any (base n i g c : Nat) (ds : List EntD) (w : World) (hn : n ≤ 100000) (hi : i < n) (hl : ds.length = n) (hbase : base ≤ w.heap.size) (hown : w.ownsRow base 66 4 (.slice (some ⟨g, 0, none⟩) n c) n (ES ds)) :
  Calls Tryz.prog 108 #[.slice (some ⟨g, 0, none⟩) n c, .int .i64 i, .int .i64 ((i : Int) + 1)] w fun e w' => ∃ v', e = .returned v' ∧ w'.ownsRow base 66 4 v' (n - 1) (ES (ds.take i ++ ds.drop (i + 1))) ∧ Below base w w' := by
 obtain ⟨cur, hb, hh, c1, c2, c3, c4⟩ := own_heap hown
 unfold maxLen at c2
 have hTl : (ES (ds.take i)).length = i * 4 := by rw [ES_length, List.length_take]; omega
 have hDl : (ES (ds.drop (i + 1))).length = (n - (i + 1)) * 4 := by rw [ES_length, List.length_drop]; omega
 have hDr : (ES ds).drop ((i + 1) * 4) = ES (ds.drop (i + 1)) := ES_drop ds (i + 1)
 have hTk : (ES ds).take (i * 4) = ES (ds.take i) := ES_take ds i
 have hxl : (ES ds).length = n * 4 := hown.1
 have h1D : ∀ u ∈ ES (ds.drop (i + 1)), u.oneCell' = true := ES_cells _
 obtain ⟨i0, hi0, hz0, hz1, hz2⟩ := info_parts Tryz.el_ent.hi
 have hw1 : IntKind.i64.wrap ((i : Int) + 1) = (i : Int) + 1 := by rw [IntKind.wrap_i64]; omega
 have htn : ((i : Int) + 1).toNat = i + 1 := by omega
 have hne : ¬ ((i : Int) = (i : Int) + 1) := by omega
 have hic : i ≤ c := by omega
 have hjc : i + 1 ≤ c := by omega
 have hin : i + 1 ≤ n := by omega
 have hin2 : (i : Int) + 1 ≤ (n : Int) := by omega
 have hb1 : (0 : Int) ≤ (i : Int) + 1 := by omega
 have hci : ¬ (c = i) := by omega
 obtain ⟨A, hA, hsrc⟩ : ∃ A : Addr, (if c = i + 1 then (some ⟨g, 0, none⟩ : Option Addr) else some ⟨g, (i + 1) * 4, none⟩) = some A ∧ Hid (∀ j u, (ES (ds.drop (i + 1)))[j]? = some u → w.drew.cell? (A.add j) = some u) := by
  by_cases h : c = i + 1
  ·refine ⟨⟨g, 0, none⟩, by rw [if_pos h], fun j u hu => ?_⟩
   have := (List.getElem?_eq_some_iff.1 hu).1
   omega
  ·refine ⟨⟨g, (i + 1) * 4, none⟩, by rw [if_neg h], fun j u hu => own_src hown ((i + 1) * 4) j u (by rw [hDr]; exact hu)⟩
 have hspare : Hid (∀ j, j < (ES (ds.drop (i + 1))).length → (w.drew.cell? ⟨g, 0 + i * 4 + j, none⟩).isSome = true ∧ w.drew.frozen? ⟨g, 0 + i * 4 + j, none⟩ = false) := fun j hj => by
  refine ⟨?_, own_frozen hown _⟩
  show (w.cell? ⟨g, 0 + i * 4 + j, none⟩).isSome = true
  rw [hown.cellAt _ (by omega), List.getElem?_eq_getElem (by omega)]; rfl
 obtain ⟨W1, hW1⟩ : ∃ W1, W1 = w.drew.setCells g (0 + i * 4) (ES (ds.drop (i + 1))) := ⟨_, rfl⟩
 obtain ⟨own1, g1⟩ := own_setCells (ES (ds.drop (i + 1))) (0 + i * 4) (w := w.drew) hown (by omega)
 rw [← hW1] at own1 g1
 have hzc : ∀ m, ∀ v ∈ (Builtin.zeroCells (Value.agg #[.int .i64 0, .int .i64 0, .string ⟨#[]⟩, .int .i64 0]).cells m).toList, v.oneCell' = true := by
  intro m v hv
  simp only [Builtin.zeroCells, Array.toList_map, List.mem_map] at hv
  obtain ⟨q, _, rfl⟩ := hv
  have hq : q % 4 = 0 ∨ q % 4 = 1 ∨ q % 4 = 2 ∨ q % 4 = 3 := by omega
  simp only [Value.cells, List.size_toArray, List.length_cons, List.length_nil]
  rcases hq with h | h | h | h <;> rw [h] <;> rfl
 obtain ⟨W2, hcl, own2, g2⟩ := run_clear_own (P := Tryz.prog) (size := 4) 26 (Value.agg #[.int .i64 0, .int .i64 0, .string ⟨#[]⟩, .int .i64 0]) Tryz.underlying26 (fun _ => rfl) rfl hzc own1 (i + (n - (i + 1))) (n - (i + (n - (i + 1)))) (by omega) (by omega)
 have Own2 := Lib.hid own2
 have G1 := Lib.hid g1
 have Hg2 := Lib.hid g2
 have HW1 := Lib.hid hW1
 clear hown hh c3 c4 own1 g1 hW1 own2 g2 hzc
 go_enter Tryz.func108, Tryz.ntmps108
 go_wp2_with fail
 go_region_law (refine step_append_room rfl (.tmp 22) (.tmp 25) 26 rfl 66 i0 4 Tryz.underlying26 hi0 hz1 g 0 i c (by simp [Act.eval, Act.put]) A (n - (i + 1)) (c - (i + 1)) (ES (ds.drop (i + 1))) (by simp [Act.eval, Act.put]) hDl hsrc.out h1D (by omega) hspare.out ?_; rw [← HW1.out])
 go_wp2
 go_ret
 have b1 := (Below.refl base w).drew.grown G1.out (by simpa using hbase) (fun k hk => by cases hk; exact hb)
 have b2 := b1.grown Hg2.out (Nat.le_trans hbase b1.size) (fun k hk => by cases hk; exact hb)
 refine ⟨_, rfl, ?_, b2⟩
 have h2 := Own2.out
 rw [Nat.zero_add, hTk, List.take_left' (by rw [List.length_append]; omega), ← ES_append] at h2
 rw [show i + (n - (i + 1)) = n - 1 by omega] at h2 ⊢
 exact h2

end Go.Proofs.YtghgafbfpejinaaGreatDoor
