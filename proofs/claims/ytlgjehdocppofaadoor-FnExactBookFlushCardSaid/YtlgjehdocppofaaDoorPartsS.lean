/- The parts of a sign, in the reference. -/
import Derived.Test.YtlgjehdocppofaaDoorPartsI
namespace Go.Proofs.YtlgjehdocppofaaDoor
open Go Go.RowKit

/-- What a row of signs, letters and a mark leaves. -/
def HitPost (w : World) (T : TypeId) (c : Int) (xs ls : List Int) (m : Int) (e : Ending) (w' : World) : Prop :=
  (c ∉ xs ∧ RowPost w T [] e w') ∨ ∃ k, ∃ hk : k < xs.length, xs[k] = c ∧ RowPost w T [ls.getD k 0, m] e w'

set_option maxHeartbeats 1000000 in
theorem l3Row_any (q m : Int) (A : Option Addr) (n c : Nat) (xs : List Int) (s : ByteArray) (hn : n ≤ 1000) (hz : s.size = n) (w : World) (hr : Reads w w.heap.size 1 A n (II xs)) :
    Calls Tryd.prog 209 #[.int .i64 q, .slice A n c, .string s, .int .i64 m] w (HitPost w 3 q xs (ofB s) m) := by
  have hl : xs.length = n := by have := hr.1; rw [II_length] at this; omega
  have Hr := Lib.hid hr
  have Hz := Lib.hid hz
  have hz0 : n ≤ s.size := by omega
  have hz1 : s.size ≤ n := by omega
  clear hr hz
  go_enter Tryd.func209, Tryd.ntmps209
  go_wp2
  go_loopw [9] (fun i wr => ∃ (j : Nat), j ≤ n ∧ i = .int .i64 j ∧ Hid (q ∉ xs.take j) ∧ Below w.heap.size w wr)
    (fun i _ => n - (intOf i).toNat)
  case atStart => exact ⟨0, by omega, rfl, by simp [Hid], bel0 w⟩
  case round =>
    obtain ⟨j, hj, rfl, hno, hbel⟩ := hrel
    by_cases hlt : j < n
    · obtain ⟨hkx, ad, rfl, hadb, z0⟩ := reads_at (Hr.out.below hbel) hlt
      have q0 : (0 : Int) ≤ ↑j := by omega
      have q1 : (↑j : Int) < ↑n := by omega
      have q2 : (↑j : Int) < ↑s.size := by omega
      have hjs : j < s.size := by omega
      have hb := (s[j]'hjs).toNat_lt
      have Hs := Lib.hid (List.take_succ_eq_append_getElem hkx)
      have Hg := Lib.hid (show (ofB s).getD j 0 = ((s[j]'hjs).toNat : Int) by
        have h1 : j < (ofB s).length := by rw [ofB_len]; exact hjs
        simp only [List.getD, List.getElem?_eq_getElem h1, Option.getD_some]
        have h2 : (ofB s)[j]? = some ((s[j]'hjs).toNat : Int) := by
          unfold ofB; rw [List.getElem?_map, List.getElem?_eq_getElem (by rw [size_list]; exact hjs)]; rfl
        rw [List.getElem?_eq_getElem h1] at h2; injection h2)
      obtain ⟨x, hx⟩ : ∃ x, xs[j] = x := ⟨_, rfl⟩
      have Hx := Lib.hid hx
      rw [hx] at z0 Hs
      clear hx
      by_cases he : x = q
      · have He := Lib.hid he
        have he' : (x == q) = true := by simpa using he
        clear he
        go_wp2
        go_ret
        refine .inr ⟨j, hkx, by rw [Hx.out, He.out], ?_⟩
        rw [Hg.out]
        exact row_lit2 hbel _ _ _ rfl rfl (by simp)
      · have He := Lib.hid he
        have he' : (x == q) = false := by simpa using he
        clear he
        go_wp2
        go_roundw
        case rel => exact ⟨j + 1, by omega, by go_num, by show ¬ _; rw [Hs.out, List.mem_append]; rintro (h | h); exact hno.out h; exact He.out (by simpa using (List.mem_singleton.1 h).symm), hbel⟩
        case measure => simp [intOf]; omega
    · have Hn := Lib.hid (show q ∉ xs by have := hno.out; rwa [List.take_of_length_le (by omega)] at this)
      go_wp2
      go_ret
      exact .inl ⟨Hn.out, row_lit2 hbel _ _ _ rfl rfl (by simp)⟩

theorem l3Row_miss (q m : Int) (A : Option Addr) (n c : Nat) (xs : List Int) (s : ByteArray) (hn : n ≤ 1000) (hz : s.size = n) (hm : q ∉ xs) (w : World) (hr : Reads w w.heap.size 1 A n (II xs)) :
    Calls Tryd.prog 209 #[.int .i64 q, .slice A n c, .string s, .int .i64 m] w (RowPost w 3 []) :=
  (l3Row_any q m A n c xs s hn hz w hr).mono fun _ _ h => h.elim (·.2) (fun ⟨_, hk, he, _⟩ => absurd (he ▸ List.getElem_mem hk) hm)
theorem l3Row_hit (q m : Int) (A : Option Addr) (n c : Nat) (xs : List Int) (s : ByteArray) (hn : n ≤ 1000) (hz : s.size = n) (hm : q ∈ xs) (w : World) (hr : Reads w w.heap.size 1 A n (II xs)) :
    Calls Tryd.prog 209 #[.int .i64 q, .slice A n c, .string s, .int .i64 m] w fun e w' => ∃ k, ∃ hk : k < xs.length, xs[k] = q ∧ RowPost w 3 [(ofB s).getD k 0, m] e w' :=
  (l3Row_any q m A n c xs s hn hz w hr).mono fun _ _ h => h.elim (fun h => absurd hm h.1) (fun h => h)
/-- The rows as the reference has them. -/
def perm (k : Nat) : Nat := if k < 7 then k else 10
theorem perm_lt (k : Nat) : perm k < 13 := by unfold perm; split <;> omega
def specStrs : List ByteArray := [str [65, 69, 73, 79, 85, 97, 101, 105, 111, 117], str [65, 69, 73, 79, 85, 89, 97, 101, 105, 111, 117, 121], str [65, 69, 73, 79, 85, 97, 101, 105, 111, 117], str [65, 78, 79, 97, 110, 111], str [65, 69, 73, 79, 85, 97, 101, 105, 111, 117, 121], str [65, 97], str [67, 99], str [65, 97]]
def specMarks : List Int := [768, 769, 770, 771, 776, 778, 807, 803]
def litRow (w : World) (i : Nat) : World := w.alloc (.cells (II (rowFrom i)).toArray 3)
def specRows (w : World) : World := litRow (litRow (litRow (litRow (litRow (litRow (litRow (litRow w 0) 1) 2) 3) 4) 5) 6) 10
def specCells (g : Nat) : List Value := (List.range 8).map fun k => .slice (some ⟨g + k, 0, none⟩) (rowFrom (perm k)).length (rowFrom (perm k)).length
def specW (w : World) : World :=
  (((specRows w).alloc (.cells #[.slice (some ⟨w.heap.size, 0, none⟩) 10 10, .slice (some ⟨w.heap.size + 1, 0, none⟩) 12 12, .slice (some ⟨w.heap.size + 2, 0, none⟩) 10 10, .slice (some ⟨w.heap.size + 3, 0, none⟩) 6 6, .slice (some ⟨w.heap.size + 4, 0, none⟩) 11 11, .slice (some ⟨w.heap.size + 5, 0, none⟩) 2 2, .slice (some ⟨w.heap.size + 6, 0, none⟩) 2 2, .slice (some ⟨w.heap.size + 7, 0, none⟩) 2 2] 133)).alloc (.cells (specStrs.map Value.string).toArray 9)).alloc (.cells (II specMarks).toArray 3)
theorem litRow_bel (w : World) (i : Nat) : Below w.heap.size w (litRow w i) := belA (bel0 w) _
theorem litRow_size (w : World) (i : Nat) : (litRow w i).heap.size = w.heap.size + 1 := by simp [litRow]
theorem litRow_own (w : World) (i : Nat) (hi : i < 13) : (litRow w i).ownsRow w.heap.size 3 1 (.slice (some ⟨w.heap.size, 0, none⟩) (rowFrom i).length (rowFrom i).length) (rowFrom i).length (II (rowFrom i)) :=
  lit_own w 3 (rowFrom i) _ rfl (by have := (rows_same i hi).2.2.2; omega)
theorem belR {a W : World} (h : Below a.heap.size a W) (i : Nat) : Below a.heap.size a (litRow W i) := belA h _
theorem specRows_size (w : World) : (specRows w).heap.size = w.heap.size + 8 := by simp [specRows, litRow]
def specMarkCells : Array Value := (II specMarks).toArray
def specStrCells : Array Value := (specStrs.map Value.string).toArray
/-- What lies at a place of the reference's rows. -/
def SpecAt (w W : World) (k : Nat) : Prop :=
  W.cell? ⟨w.heap.size + 8, k, none⟩ = some (.slice (some ⟨w.heap.size + k, 0, none⟩) (rowFrom (perm k)).length (rowFrom (perm k)).length) ∧
  W.ownsRow w.heap.size 3 1 (.slice (some ⟨w.heap.size + k, 0, none⟩) (rowFrom (perm k)).length (rowFrom (perm k)).length) (rowFrom (perm k)).length (II (rowFrom (perm k))) ∧
  (∃ s, W.cell? ⟨w.heap.size + 9, k, none⟩ = some (.string s) ∧ s.size = (rowFrom (perm k)).length ∧ ofB s = rowLets (perm k)) ∧
  W.cell? ⟨w.heap.size + 10, k, none⟩ = some (.int .i64 (rowMark (perm k)))
theorem specW_b8 (w : World) : Blk (specW w) (w.heap.size + 8) 133 #[.slice (some ⟨w.heap.size, 0, none⟩) 10 10, .slice (some ⟨w.heap.size + 1, 0, none⟩) 12 12, .slice (some ⟨w.heap.size + 2, 0, none⟩) 10 10, .slice (some ⟨w.heap.size + 3, 0, none⟩) 6 6, .slice (some ⟨w.heap.size + 4, 0, none⟩) 11 11, .slice (some ⟨w.heap.size + 5, 0, none⟩) 2 2, .slice (some ⟨w.heap.size + 6, 0, none⟩) 2 2, .slice (some ⟨w.heap.size + 7, 0, none⟩) 2 2] :=
  ((Blk.new' (specRows w) _ _ (w.heap.size + 8) (specRows_size w).symm).alloc _).alloc _
theorem specW_b9 (w : World) : Blk (specW w) (w.heap.size + 9) 9 (specStrs.map Value.string).toArray :=
  (Blk.new' ((specRows w).alloc _) _ _ (w.heap.size + 9) (by have := specRows_size w; simp; omega)).alloc _
theorem specW_b10 (w : World) : Blk (specW w) (w.heap.size + 10) 3 (II specMarks).toArray :=
  Blk.new' (((specRows w).alloc _).alloc _) _ _ (w.heap.size + 10) (by have := specRows_size w; simp; omega)
theorem own_start {W W' : World} {base b0 : Nat} {T : TypeId} {n g g' c : Nat} {xs : List Value} (h : W.ownsRow base T 1 (.slice (some ⟨g, 0, none⟩) n c) n xs) (hg : g = g') (hb : b0 ≤ base) (hw : Below W.heap.size W W') : W'.ownsRow b0 T 1 (.slice (some ⟨g', 0, none⟩) n c) n xs := by
  subst hg
  exact own_more (own_below h hw (Nat.le_refl _)) hb
theorem spec_at0 (w : World) : SpecAt w (specW w) 0 := by
  refine ⟨(specW_b8 w).get 0 rfl, ?_, ⟨_, (specW_b9 w).get 0 rfl, by decide, by decide⟩, (specW_b10 w).get 0 rfl⟩
  exact own_start (litRow_own w 0 (by omega)) (by first | rfl | simp only [litRow_size]) (by first | exact Nat.le_refl _ | (simp only [litRow_size]; omega)) (by unfold specW specRows; repeat (first | exact bel0 _ | refine belA ?_ _ | refine belR ?_ _))
theorem spec_at1 (w : World) : SpecAt w (specW w) 1 := by
  refine ⟨(specW_b8 w).get 1 rfl, ?_, ⟨_, (specW_b9 w).get 1 rfl, by decide, by decide⟩, (specW_b10 w).get 1 rfl⟩
  exact own_start (litRow_own (litRow w 0) 1 (by omega)) (by first | rfl | simp only [litRow_size]) (by first | exact Nat.le_refl _ | (simp only [litRow_size]; omega)) (by unfold specW specRows; repeat (first | exact bel0 _ | refine belA ?_ _ | refine belR ?_ _))
theorem spec_at2 (w : World) : SpecAt w (specW w) 2 := by
  refine ⟨(specW_b8 w).get 2 rfl, ?_, ⟨_, (specW_b9 w).get 2 rfl, by decide, by decide⟩, (specW_b10 w).get 2 rfl⟩
  exact own_start (litRow_own (litRow (litRow w 0) 1) 2 (by omega)) (by first | rfl | simp only [litRow_size]) (by first | exact Nat.le_refl _ | (simp only [litRow_size]; omega)) (by unfold specW specRows; repeat (first | exact bel0 _ | refine belA ?_ _ | refine belR ?_ _))
theorem spec_at3 (w : World) : SpecAt w (specW w) 3 := by
  refine ⟨(specW_b8 w).get 3 rfl, ?_, ⟨_, (specW_b9 w).get 3 rfl, by decide, by decide⟩, (specW_b10 w).get 3 rfl⟩
  exact own_start (litRow_own (litRow (litRow (litRow w 0) 1) 2) 3 (by omega)) (by first | rfl | simp only [litRow_size]) (by first | exact Nat.le_refl _ | (simp only [litRow_size]; omega)) (by unfold specW specRows; repeat (first | exact bel0 _ | refine belA ?_ _ | refine belR ?_ _))
theorem spec_at4 (w : World) : SpecAt w (specW w) 4 := by
  refine ⟨(specW_b8 w).get 4 rfl, ?_, ⟨_, (specW_b9 w).get 4 rfl, by decide, by decide⟩, (specW_b10 w).get 4 rfl⟩
  exact own_start (litRow_own (litRow (litRow (litRow (litRow w 0) 1) 2) 3) 4 (by omega)) (by first | rfl | simp only [litRow_size]) (by first | exact Nat.le_refl _ | (simp only [litRow_size]; omega)) (by unfold specW specRows; repeat (first | exact bel0 _ | refine belA ?_ _ | refine belR ?_ _))
theorem spec_at5 (w : World) : SpecAt w (specW w) 5 := by
  refine ⟨(specW_b8 w).get 5 rfl, ?_, ⟨_, (specW_b9 w).get 5 rfl, by decide, by decide⟩, (specW_b10 w).get 5 rfl⟩
  exact own_start (litRow_own (litRow (litRow (litRow (litRow (litRow w 0) 1) 2) 3) 4) 5 (by omega)) (by first | rfl | simp only [litRow_size]) (by first | exact Nat.le_refl _ | (simp only [litRow_size]; omega)) (by unfold specW specRows; repeat (first | exact bel0 _ | refine belA ?_ _ | refine belR ?_ _))
theorem spec_at6 (w : World) : SpecAt w (specW w) 6 := by
  refine ⟨(specW_b8 w).get 6 rfl, ?_, ⟨_, (specW_b9 w).get 6 rfl, by decide, by decide⟩, (specW_b10 w).get 6 rfl⟩
  exact own_start (litRow_own (litRow (litRow (litRow (litRow (litRow (litRow w 0) 1) 2) 3) 4) 5) 6 (by omega)) (by first | rfl | simp only [litRow_size]) (by first | exact Nat.le_refl _ | (simp only [litRow_size]; omega)) (by unfold specW specRows; repeat (first | exact bel0 _ | refine belA ?_ _ | refine belR ?_ _))
theorem spec_at7 (w : World) : SpecAt w (specW w) 7 := by
  refine ⟨(specW_b8 w).get 7 rfl, ?_, ⟨_, (specW_b9 w).get 7 rfl, by decide, by decide⟩, (specW_b10 w).get 7 rfl⟩
  exact own_start (litRow_own (litRow (litRow (litRow (litRow (litRow (litRow (litRow w 0) 1) 2) 3) 4) 5) 6) 10 (by omega)) (by first | rfl | simp only [litRow_size]) (by first | exact Nat.le_refl _ | (simp only [litRow_size]; omega)) (by unfold specW specRows; repeat (first | exact bel0 _ | refine belA ?_ _ | refine belR ?_ _))
theorem spec_at (w : World) (k : Nat) (hk : k < 8) : SpecAt w (specW w) k := by
  match k, hk with
  | 0, _ => exact spec_at0 w
  | 1, _ => exact spec_at1 w
  | 2, _ => exact spec_at2 w
  | 3, _ => exact spec_at3 w
  | 4, _ => exact spec_at4 w
  | 5, _ => exact spec_at5 w
  | 6, _ => exact spec_at6 w
  | 7, _ => exact spec_at7 w
  | n + 8, h => exact absurd h (by omega)
theorem specW_bel (w : World) : Below w.heap.size w (specW w) := by unfold specW specRows; repeat (first | exact bel0 _ | refine belA ?_ _ | refine belR ?_ _)
theorem specW_size (w : World) : (specW w).heap.size = w.heap.size + 11 := by have := specRows_size w; simp [specW]; omega
theorem SpecAt.next {w W W' : World} {k : Nat} (h : SpecAt w W k) (hb : Below W.heap.size W W') : SpecAt w W' k := by
  obtain ⟨h1, h2, ⟨s, h3, h4⟩, h5⟩ := h
  exact ⟨keep1 hb h1 (Nat.le_refl _), own_below h2 hb (Nat.le_refl _), ⟨s, keep1 hb h3 (Nat.le_refl _), h4⟩, keep1 hb h5 (Nat.le_refl _)⟩
theorem mark_pos : ∀ k, k < 8 → rowMark (perm k) ≠ 0 := by decide +kernel
def greek : List Int := rowFrom 7 ++ rowFrom 8
def greekL : List Int := rowLets 7 ++ rowLets 8
theorem greek_hit0 : ∀ j, j < 14 → partsL (greek.getD j 0) = [greekL.getD j 0, 769] := by decide +kernel
theorem greek_no {c : Int} (h : ∀ x, x < 14 → greek.getD x 0 ≠ c) (hm : c ∈ greek) : False := by
  obtain ⟨k, hk, he⟩ := List.getElem_of_mem hm
  exact h k hk (by simp [List.getD, hk, he])

set_option maxRecDepth 100000 in
set_option maxHeartbeats 4000000 in
theorem parts_spec (c : Int) (w : World) :
    Calls Tryd.prog 206 #[.int .i64 c] w (RowPost w 3 (partsL c)) := by
  go_enter Tryd.func206, Tryd.ntmps206
  go_wp2
  have hsp := specW_size w
  have hbe := specW_bel w
  go_loopw [6] (fun i wr => ∃ (k : Nat), k ≤ 8 ∧ i = .int .i64 k ∧ Hid (∀ j, j < k → c ∉ rowFrom (perm j)) ∧ Below (specW w).heap.size (specW w) wr)
    (fun i _ => 8 - (intOf i).toNat)
  case atStart => exact ⟨0, by omega, rfl, fun j hj => absurd hj (by omega), bel0 (specW w)⟩
  case round =>
    obtain ⟨k, hk, rfl, hno, hbel⟩ := hrel
    have hsz := hbel.size
    have hb := belN hbe hbel
    by_cases hlt : k < 8
    · obtain ⟨h1, h2, ⟨s, h3, h4, h5⟩, h6⟩ := (spec_at w k hlt).next hbel
      have hr := Reads.of_own h2
      have Hlet := Lib.hid h5
      have hlen := (rows_same (perm k) (perm_lt k)).2.2.2
      have Hmk := Lib.hid (mark_pos k hlt)
      have Hpm := Lib.hid (perm_lt k)
      obtain ⟨xs, hxs⟩ : ∃ xs, rowFrom (perm k) = xs := ⟨_, rfl⟩
      obtain ⟨m, hm⟩ : ∃ m, rowMark (perm k) = m := ⟨_, rfl⟩
      have Hxs := Lib.hid hxs
      have Hm := Lib.hid hm
      rw [hxs] at h1 hr h4 hlen
      rw [hm] at h6
      have H4 := Lib.hid h4
      have Hr := Lib.hid hr
      have q0 : (0 : Int) ≤ ↑k := by omega
      have q1 : (k : Int) < 8 := by omega
      clear h2 h5 hxs hm h4 hr
      by_cases hmem : c ∈ xs
      · have Hmem := Lib.hid hmem
        clear hmem
        go_wp2_with fail
        go_region_held3 (fun w' => w'.cell? ⟨w.heap.size + 8, k, none⟩ = some (.slice (some ⟨w.heap.size + k, 0, none⟩) xs.length xs.length) ∧ w'.cell? ⟨w.heap.size + 9, k, none⟩ = some (.string s) ∧ w'.cell? ⟨w.heap.size + 10, k, none⟩ = some (.int .i64 m)) (first | go_keep | (refine ⟨keep1 hb1 ?_, keep1 hb1 ?_, keep1 hb1 ?_⟩ <;> go_keep))
          (first
            | (go_at_call 209; refine (l3Row_hit c m _ _ _ xs s (by omega) H4.out Hmem.out _ Hr.out.drew).mono ?_; rintro e w1 ⟨x, hx, hit, v, rfl, hown, hb1⟩))
        have Hp := Lib.hid (show partsL c = [(ofB s).getD x 0, m] by
          have h := (parts_hit (i := perm k) (k := x) Hpm.out (by rw [Hxs.out]; exact hx) (by simp only [Hxs.out]; exact hit)).1
          rw [h]; unfold rowParts; rw [if_neg Hmk.out, Hlet.out, Hm.out])
        obtain ⟨A2, c2, rfl, _, _, _⟩ := own_vals hown
        have Hown := Lib.hid hown
        have hs1 := hb1.size
        clear hown hit
        go_wp2
        go_ret
        refine ⟨_, rfl, ?_, belN hb.drew hb1⟩
        rw [Hp.out]; exact own_more Hown.out (by have := hb.size; simp at hs1 ⊢; omega)
      · have Hmem := Lib.hid hmem
        clear hmem
        go_wp2_with fail
        go_region_held3 (fun w' => w'.cell? ⟨w.heap.size + 8, k, none⟩ = some (.slice (some ⟨w.heap.size + k, 0, none⟩) xs.length xs.length) ∧ w'.cell? ⟨w.heap.size + 9, k, none⟩ = some (.string s) ∧ w'.cell? ⟨w.heap.size + 10, k, none⟩ = some (.int .i64 m)) (first | go_keep | (refine ⟨keep1 hb1 ?_, keep1 hb1 ?_, keep1 hb1 ?_⟩ <;> go_keep))
          (first
            | (go_at_call 209; refine (l3Row_miss c m _ _ _ xs s (by omega) H4.out Hmem.out _ Hr.out.drew).mono ?_; rintro e w1 ⟨v, rfl, hown, hb1⟩))
        obtain ⟨A2, c2, rfl, _, _, _⟩ := own_vals hown
        clear hown
        simp only [List.length_nil]
        go_wp2
        go_roundw
        case rel =>
          refine ⟨k + 1, by omega, by go_num, fun j hj => ?_, belN hbel.drew hb1⟩
          rcases Nat.lt_or_ge j k with h | h
          · exact hno.out j h
          · rw [show j = k by omega, Hxs.out]; exact Hmem.out
        case measure => simp [intOf]; omega
    · rename World => w5
      have Hno := Lib.hid hno.out
      clear hno hsz
      go_wp2
      go_loopw [10] (fun i wr => ∃ (j : Nat), j ≤ 14 ∧ i = .int .i64 j ∧ Hid (∀ x, x < j → greek.getD x 0 ≠ c) ∧ wr.ownsRow w5.heap.size 3 1 (.slice (some ⟨w5.heap.size, 0, none⟩) 14 14) 14 (II greek) ∧ wr.ownsRow w5.heap.size 3 1 (.slice (some ⟨w5.heap.size + 1, 0, none⟩) 14 14) 14 (II greekL) ∧ Below w5.heap.size w5 wr)
        (fun i _ => 14 - (intOf i).toNat)
      case atStart => exact ⟨0, by omega, rfl, fun x hx => absurd hx (by omega), own_below (lit_own w5 3 greek _ rfl (by decide)) (belA (bel0 _) _) (Nat.le_refl _), lit_at w5 _ 3 greekL _ _ (by simp) (by simp) rfl (by decide), belA (belA (bel0 w5) _) _⟩
      case round =>
        obtain ⟨j, hj, rfl, hng, own1, own2, hbel2⟩ := hrel
        have b2 := belN hb hbel2
        by_cases hlt2 : j < 14
        · have z1 : wr.cell? ⟨w5.heap.size, j, none⟩ = some (.int .i64 (greek.getD j 0)) := by
            rw [own1.cellAt j (by omega), II_get _ _ (show j < greek.length from hlt2)]; simp [List.getD, show j < greek.length from hlt2]
          have z2 : wr.cell? ⟨w5.heap.size + 1, j, none⟩ = some (.int .i64 (greekL.getD j 0)) := by
            rw [own2.cellAt j (by omega), II_get _ _ (show j < greekL.length from hlt2)]; simp [List.getD, show j < greekL.length from hlt2]
          have q0 : (0 : Int) ≤ ↑j := by omega
          have q1 : (j : Int) < 14 := by omega
          have Hh := Lib.hid (greek_hit0 j hlt2)
          have Own1 := Lib.hid own1
          have Own2 := Lib.hid own2
          clear own1 own2
          obtain ⟨x, hx⟩ : ∃ x, greek.getD j 0 = x := ⟨_, rfl⟩
          obtain ⟨y, hy⟩ : ∃ y, greekL.getD j 0 = y := ⟨_, rfl⟩
          have Hx := Lib.hid hx
          rw [hx] at z1 Hh
          rw [hy] at z2 Hh
          clear hx hy
          by_cases he : x = c
          · have He := Lib.hid he
            have he' : (x == c) = true := by simpa using he
            clear he
            go_wp2
            go_ret
            rw [← He.out, Hh.out]
            exact row_lit2 b2 _ _ _ rfl rfl (by simp)
          · have He := Lib.hid he
            have he' : (x == c) = false := by simpa using he
            clear he
            go_wp2
            go_roundw
            case rel =>
              refine ⟨j + 1, by omega, by go_num, fun z hz => ?_, Own1.out, Own2.out, hbel2⟩
              rcases Nat.lt_or_ge z j with h | h
              · exact hng.out z h
              · rw [show z = j by omega, Hx.out]; exact He.out
            case measure => simp [intOf]; omega
        · have Hng := Lib.hid (fun x (hx : x < 14) => hng.out x (by omega))
          clear hng own1 own2 hbel2
          rcases k469 : (c == 469) with _ | _
          rotate_left
          · have Hp := Lib.hid (show partsL c = [220, 772] by rw [show c = 469 by simpa using k469]; decide +kernel)
            go_wp2
            go_ret
            rw [Hp.out]
            exact row_lit2 b2 _ _ _ rfl rfl (by simp)
          rcases k470 : (c == 470) with _ | _
          rotate_left
          · have Hp := Lib.hid (show partsL c = [252, 772] by rw [show c = 470 by simpa using k470]; decide +kernel)
            go_wp2
            go_ret
            rw [Hp.out]
            exact row_lit2 b2 _ _ _ rfl rfl (by simp)
          rcases k7852 : (c == 7852) with _ | _
          rotate_left
          · have Hp := Lib.hid (show partsL c = [7840, 770] by rw [show c = 7852 by simpa using k7852]; decide +kernel)
            go_wp2
            go_ret
            rw [Hp.out]
            exact row_lit2 b2 _ _ _ rfl rfl (by simp)
          rcases k7853 : (c == 7853) with _ | _
          rotate_left
          · have Hp := Lib.hid (show partsL c = [7841, 770] by rw [show c = 7853 by simpa using k7853]; decide +kernel)
            go_wp2
            go_ret
            rw [Hp.out]
            exact row_lit2 b2 _ _ _ rfl rfl (by simp)
          rcases k8486 : (c == 8486) with _ | _
          rotate_left
          · have Hp := Lib.hid (show partsL c = [937] by rw [show c = 8486 by simpa using k8486]; decide +kernel)
            go_wp2
            go_ret
            rw [Hp.out]
            exact row_lit2 b2 _ _ _ rfl rfl (by simp)
          rcases k8491 : (c == 8491) with _ | _
          rotate_left
          · have Hp := Lib.hid (show partsL c = [197] by rw [show c = 8491 by simpa using k8491]; decide +kernel)
            go_wp2
            go_ret
            rw [Hp.out]
            exact row_lit2 b2 _ _ _ rfl rfl (by simp)
          rcases hh : inI c 44032 55203 with _ | _
          · have Hp := Lib.hid (show partsL c = [] by
              refine parts_miss hh fun i hi hm => ?_
              have hN := Hno.out
              match i, hi, hm with
              | 0, _, hm => exact hN 0 (by omega) hm
              | 1, _, hm => exact hN 1 (by omega) hm
              | 2, _, hm => exact hN 2 (by omega) hm
              | 3, _, hm => exact hN 3 (by omega) hm
              | 4, _, hm => exact hN 4 (by omega) hm
              | 5, _, hm => exact hN 5 (by omega) hm
              | 6, _, hm => exact hN 6 (by omega) hm
              | 7, _, hm => exact greek_no Hng.out (List.mem_append_left _ hm)
              | 8, _, hm => exact greek_no Hng.out (List.mem_append_right _ hm)
              | 9, _, hm => simp [rowFrom] at hm; simp at k469 k470; omega
              | 10, _, hm => exact hN 7 (by omega) hm
              | 11, _, hm => simp [rowFrom] at hm; simp at k7852 k7853; omega
              | 12, _, hm => simp [rowFrom] at hm; simp at k8486 k8491; omega
              | n + 13, h, _ => exact absurd h (by omega))
            go_wp2_with (go_at_call 82; refine (l1In_any _ _ _ _).mono ?_; rintro e w' ⟨rfl, rfl⟩)
            go_ret
            rw [Hp.out]
            exact row_lit2 b2 _ _ _ rfl rfl (by simp)
          · have Hp := Lib.hid (parts_hang hh)
            obtain ⟨h0, h1⟩ := inI_true.1 hh
            by_cases hm : 0 < (c - 44032) % 28
            · have Hh := Lib.hid (show hang c = [4352 + (c - 44032) / 588, 4449 + (c - 44032) % 588 / 28] ++ [4519 + (c - 44032) % 28] by unfold hang; rw [if_pos hm])
              have b2s := b2.size
              have lit := own_more (World.ownsRow_lit (e := 3) (size := 1) wr #[.int .i64 (4352 + (c - 44032) / 588), .int .i64 (4449 + (c - 44032) % 588 / 28)] 2 (Nat.le_refl _) (by unfold maxLen; omega) rfl) b2s
              have Lit := Lib.hid lit
              clear lit
              go_wp2_with (first
                | (go_at_call 82; refine (l1In_any _ _ _ _).mono ?_; rintro e w' ⟨rfl, rfl⟩)
                | (at_builtin; go_must (refine wpList_app _ rfl _ _ _ rfl Tryd.el_int (Lit.out.alloc _) rfl (reads_newG _ (wr.heap.size + 1) (by simp) _ _ _ 1 (by rfl)) rfl (by simp [Value.oneCell']) (max_small (by omega)) (by omega) (by simp; omega) ?_); intro v1 w1 own1 hg1 _ hb1))
              go_ret
              refine ⟨_, rfl, ?_, (belA (belA b2 _) _).trans hb1⟩
              rw [Hp.out, Hh.out]; exact own1
            · have Hh := Lib.hid (show hang c = [4352 + (c - 44032) / 588, 4449 + (c - 44032) % 588 / 28] by unfold hang; rw [if_neg hm, List.append_nil])
              go_wp2_with (go_at_call 82; refine (l1In_any _ _ _ _).mono ?_; rintro e w' ⟨rfl, rfl⟩)
              go_ret
              rw [Hp.out, Hh.out]
              exact row_lit2 b2 _ _ _ rfl rfl (by simp)

end Go.Proofs.YtlgjehdocppofaaDoor
