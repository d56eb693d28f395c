/- Whether pages are right, in the reference. -/
import Derived.Test.YtijfjgenbdbafaaDoorPgOk
import Derived.BigQuiet
namespace Go.Proofs.YtijfjgenbdbafaaDoor
open Go Go.RowKit

/-- What the walk over the entries holds: the last one and whether there was none yet. -/
def Last (b : Bool) (L : EntD) (s : List EntD) : Prop := (b = true ∧ s = []) ∨ (b = false ∧ ∃ s', s = s' ++ [L])
theorem Ord.nil_ : Ord [] := fun i h => absurd h (by simp)
theorem Ord.snoc {s : List EntD} {x : EntD} {b : Bool} {L : EntD} (h : Ord s) (hl : Last b L s) (hx : b = false → behB x L.h L.i = true) : Ord (s ++ [x]) := by
  intro i hi
  rcases hl with ⟨rfl, rfl⟩ | ⟨rfl, s', rfl⟩
  · have : i + 1 < 1 := hi
    omega
  · by_cases h1 : i + 1 < (s' ++ [L]).length
    · have := h i h1
      rw [List.getElem_append_left h1, List.getElem_append_left (show i < (s' ++ [L]).length by omega)]
      exact this
    · have h2 : i = s'.length := by
        have z1 : (s' ++ [L] ++ [x]).length = s'.length + 2 := by simp
        have z2 : (s' ++ [L]).length = s'.length + 1 := by simp
        omega
      subst h2
      have e1 : (s' ++ [L] ++ [x])[s'.length + 1]'hi = x := by simp
      have e2 : (s' ++ [L] ++ [x])[s'.length]'(by simp) = L := by simp
      rw [e1, e2]
      exact hx rfl
theorem Ord.not {s r : List EntD} {x L : EntD} (hl : Last false L s) (hx : behB x L.h L.i = false) : ¬ Ord (s ++ x :: r) := by
  intro h
  rcases hl with ⟨h1, _⟩ | ⟨_, s', rfl⟩
  · cases h1
  · have h1 := h s'.length (by simp)
    have e1 : (s' ++ [L] ++ x :: r)[s'.length + 1]'(by simp) = x := by simp
    have e2 : (s' ++ [L] ++ x :: r)[s'.length]'(by simp) = L := by simp
    rw [e1, e2, hx] at h1
    cases h1
theorem Last.snoc (s : List EntD) (x : EntD) : Last false x (s ++ [x]) := .inr ⟨rfl, s, rfl⟩
theorem flat_at (ps : List (List EntD)) (j k : Nat) (hj : j < ps.length) (hk : k < ps[j].length) : ∃ r, ps.flatten = ((ps.take j).flatten ++ ps[j].take k) ++ ps[j][k] :: r := by
  refine ⟨ps[j].drop (k + 1) ++ (ps.drop (j + 1)).flatten, ?_⟩
  conv => lhs; rw [← List.take_append_drop j ps, List.flatten_append, List.drop_eq_getElem_cons hj, List.flatten_cons]
  have h0 : ps[j] = ps[j].take k ++ ps[j][k] :: ps[j].drop (k + 1) := by rw [← List.drop_eq_getElem_cons hk, List.take_append_drop]
  have h1 : ∀ r : List EntD, ps[j] ++ r = ps[j].take k ++ ps[j][k] :: (ps[j].drop (k + 1) ++ r) := fun r => (congrArg (· ++ r) h0).trans (by rw [List.append_assoc, List.cons_append])
  rw [h1, List.append_assoc]

set_option maxRecDepth 100000 in
set_option maxHeartbeats 2000000 in
theorem pagesOk_spec (A : Option Addr) (n c : Nat) (ps : List (List EntD)) (_hz : ps.flatten.length ≤ 10000000) (hn : n ≤ 10000000) (w : World) (hr : PagesAt w w.heap.size A n ps) :
    Calls Tryd.prog 71 #[.slice A n c] w fun e w' => e = .returned (.bool (okPB ps)) ∧ Below w.heap.size w w' := by
  have hl := hr.len
  have Hr := Lib.hid hr
  clear hr
  by_cases h8 : 8 < n
  · have Hf := Lib.hid (okPB_false (ps := ps) fun ho => by have := ho.1; omega)
    go_enter Tryd.func71, Tryd.ntmps71
    go_wp2
    go_ret
    exact ⟨ret_bool Hf.out.symm, bel0 w⟩
  · have h8' : ps.length ≤ 8 := by omega
    go_enter Tryd.func71, Tryd.ntmps71
    go_wp2
    go_loopw [4, 5] (fun f i wr => ∃ (j : Nat) (fb : Bool) (L : EntD), j ≤ n ∧ i = .int .i64 j ∧ f = .bool fb ∧ Hid (∀ l ∈ ps.take j, pgB n l = true) ∧ Hid (Ord (ps.take j).flatten) ∧ Hid (Last fb L (ps.take j).flatten) ∧
        Blk wr w.heap.size 37 #[.int .i64 L.h, .int .i64 L.i, .string L.s, .int .i64 L.d] ∧ Below w.heap.size w wr)
      (fun _ i _ => n - (intOf i).toNat)
    case atStart => exact ⟨0, true, ⟨-1, 0, ⟨#[]⟩, 0⟩, by omega, rfl, rfl, by simp [Hid], Ord.nil_, .inl ⟨rfl, rfl⟩, Blk.new' _ _ _ _, belA (bel0 w) _⟩
    case round =>
      obtain ⟨j, fb, L, hj, rfl, rfl, hall, hord, hlast, hblk, hbel⟩ := hrel
      by_cases hlt : j < n
      · obtain ⟨hkx, b, o, A', c', rfl, hadb, z0, hrow⟩ := Hr.out.at_ hlt
        have q0 : (0 : Int) ≤ ↑j := by omega
        have q1 : (↑j : Int) < ↑n := by omega
        have Hmem := Lib.hid (List.getElem_mem hkx)
        have hts := Lib.hid (List.take_succ_eq_append_getElem hkx)
        have Hrow := Lib.hid hrow
        clear hrow
        obtain ⟨l, hlj⟩ : ∃ l, ps[j] = l := ⟨_, rfl⟩
        have Hl := Lib.hid hlj
        rw [hlj] at z0 Hrow Hmem hts
        clear hlj
        obtain ⟨m, hm⟩ : ∃ m, l.length = m := ⟨_, rfl⟩
        rw [hm] at z0 Hrow
        have Hm := Lib.hid hm
        clear hm
        have Z0 := Lib.hid z0
        replace z0 := (hbel.cell (p := ⟨b, o + j, none⟩) hadb).trans z0
        have hflat := Lib.hid (flat_at ps j)
        have fin : pgB n l = false → okPB ps = false := fun hf => okPB_false fun ho => by
          have := ho.2.1 _ Hmem.out
          rw [hl, hf] at this; cases this
        have Fin := Lib.hid fin
        clear fin
        have nxt : pgB n l = true → ∀ l ∈ ps.take (j + 1), pgB n l = true := fun hf l' hx => by
          rw [hts.out, List.mem_append] at hx
          rcases hx with hx | hx
          · exact hall.out l' hx
          · simp at hx; subst hx; exact hf
        have Nxt := Lib.hid nxt
        clear nxt
        rcases hin : inI (m : Int) 1 4 with _ | _
        · have Hf := Lib.hid (Fin.out (by unfold pgB; rw [Hm.out, hin]; rfl))
          go_wp2_with fail
          refine (l1In_any _ _ _ _).mono ?_
          rintro e w' ⟨rfl, rfl⟩
          go_wp2
          go_ret
          exact ⟨ret_bool Hf.out.symm, hbel⟩
        · have hm4 : m ≤ 4 := by have := inI_true.1 hin; omega
          by_cases h12 : 1 < n ∧ m < 2
          · obtain ⟨h1, h2⟩ := h12
            have Hf := Lib.hid (Fin.out (by unfold pgB; rw [Hm.out]; simp [h1, h2]))
            go_wp2_with fail
            refine (l1In_any _ _ _ _).mono ?_
            rintro e w' ⟨rfl, rfl⟩
            go_wp2
            go_ret
            exact ⟨ret_bool Hf.out.symm, hbel⟩
          · have Hn := Lib.hid (Nxt.out (by unfold pgB; rw [Hm.out]; by_cases h1 : 1 < n <;> by_cases h2 : m < 2 <;> simp_all))
            have hw : ∀ (P : Prop), ((n : Int) ≤ 1 → P) → (1 < n → (2 : Int) ≤ m → P) → P := fun P f g => by
              by_cases h1 : 1 < n
              · exact g h1 (by omega)
              · exact f (by omega)
            have Hw := Lib.hid hw
            clear hw
            go_wp2_with fail
            refine (l1In_any _ _ _ _).mono ?_
            rintro e w' ⟨rfl, rfl⟩
            refine Hw.out _ (fun h1 => ?_) (fun h1 h2 => ?_)
            all_goals
              clear h12
              go_wp2
              rename World => wo
              go_loopw [4, 6] (fun f i wi => ∃ (k : Nat) (fb : Bool) (L : EntD), k ≤ m ∧ i = .int .i64 k ∧ f = .bool fb ∧ Hid (Ord ((ps.take j).flatten ++ l.take k)) ∧ Hid (Last fb L ((ps.take j).flatten ++ l.take k)) ∧
                  Blk wi w.heap.size 37 #[.int .i64 L.h, .int .i64 L.i, .string L.s, .int .i64 L.d] ∧ Below w.heap.size w wi)
                (fun _ i _ => m - (intOf i).toNat)
              case atStart => exact ⟨0, fb, L, by omega, rfl, rfl, by simpa [Hid] using hord.out, by simpa [Hid] using hlast.out, hblk, hbel⟩
              case round =>
                clear hblk z0 hord hlast hbel
                obtain ⟨k, fb1, L1, hk, rfl, rfl, hord, hlast, hblk, hbel⟩ := hrel
                have z0 := (hbel.cell (p := ⟨b, o + j, none⟩) hadb).trans Z0.out
                by_cases hlk : k < m
                · obtain ⟨hkl, b', o', rfl, hadb', y0, y1, y2, y3⟩ := reads_ent (Hrow.out.below hbel) hlk
                  have r0 : (0 : Int) ≤ ↑k := by omega
                  have r1 : (↑k : Int) < ↑m := by omega
                  have hne : b ≠ w.heap.size := by omega
                  have hne' : b' ≠ w.heap.size := by omega
                  have hts' := Lib.hid (List.take_succ_eq_append_getElem hkl)
                  obtain ⟨x, hx⟩ : ∃ x, l[k] = x := ⟨_, rfl⟩
                  rw [hx] at y0 y1 y2 y3 hts'
                  have Hx := Lib.hid hx
                  clear hx
                  have hlst := Lib.hid (Last.snoc ((ps.take j).flatten ++ l.take k) x)
                  have hblk2 := Lib.hid (fun (wn : World) (hb : Blk wn w.heap.size 37 #[.int .i64 L1.h, .int .i64 L1.i, .string L1.s, .int .i64 L1.d]) =>
                    (((hb.put 0 (.int .i64 x.h) #[.int .i64 x.h, .int .i64 L1.i, .string L1.s, .int .i64 L1.d] rfl).put 1 (.int .i64 x.i) #[.int .i64 x.h, .int .i64 x.i, .string L1.s, .int .i64 L1.d] rfl).put 2 (.string x.s) #[.int .i64 x.h, .int .i64 x.i, .string x.s, .int .i64 L1.d] rfl).put 3 (.int .i64 x.d) #[.int .i64 x.h, .int .i64 x.i, .string x.s, .int .i64 x.d] rfl)
                  have c0 := hblk.get 0 rfl
                  have c1 := hblk.get 1 rfl
                  have c2 := hblk.get 2 rfl
                  have c3 := hblk.get 3 rfl
                  have f0 := hblk.frozen 0
                  have f1 := hblk.frozen 1
                  have f2 := hblk.frozen 2
                  have f3 := hblk.frozen 3
                  rcases fb1 with _ | _
                  · rcases hbh : behB x L1.h L1.i with _ | _
                    · have Hf := Lib.hid (okPB_false (ps := ps) fun ho => by
                        have hkl' : k < ps[j].length := by rw [Hl.out]; exact hkl
                        obtain ⟨r, hr⟩ := hflat.out k hkx hkl'
                        have ho3 := ho.2.2
                        rw [hr] at ho3
                        have e1 : ps[j].take k = l.take k := by rw [Hl.out]
                        have e2 : ps[j][k] = x := by rw [← Hx.out]; simp only [Hl.out]
                        rw [e1, e2] at ho3
                        exact Ord.not hlast.out hbh ho3)
                      have hls : lessB L1 x.h x.i = false := by rw [less_beh]; exact hbh
                      clear hbh
                      go_wp2_with fail
                      go_region_held3 (fun w' => w'.cell? ⟨b, o + j, none⟩ = some (.slice (some ⟨b', o', none⟩) m c') ∧ w'.cell? ⟨b', o' + k * 4, none⟩ = some (.int .i64 x.h) ∧ w'.cell? ⟨b', o' + k * 4 + 1, none⟩ = some (.int .i64 x.i) ∧
                          w'.cell? ⟨w.heap.size, 0, none⟩ = some (.int .i64 L1.h) ∧ w'.cell? ⟨w.heap.size, 1, none⟩ = some (.int .i64 L1.i) ∧ w'.cell? ⟨w.heap.size, 2, none⟩ = some (.string L1.s) ∧ w'.cell? ⟨w.heap.size, 3, none⟩ = some (.int .i64 L1.d))
                        (first | go_keep | (refine ⟨keep1 hb2 ?_, keep1 hb2 ?_, keep1 hb2 ?_, keep1 hb2 ?_, keep1 hb2 ?_, keep1 hb2 ?_, keep1 hb2 ?_⟩ <;> go_keep))
                        (first
                          | (go_at_call 118; refine (l5Less_any L1 _ _ _).mono ?_; rintro e w2 ⟨rfl, hb2⟩))
                      go_wp2
                      go_ret
                      exact ⟨ret_bool Hf.out.symm, belN hbel.drew hb2⟩
                    · have Ho := Lib.hid (hord.out.snoc (x := x) hlast.out (fun _ => hbh))
                      have hls : lessB L1 x.h x.i = true := by rw [less_beh]; exact hbh
                      clear hbh
                      go_wp2_with fail
                      go_region_held3 (fun w' => w'.cell? ⟨b, o + j, none⟩ = some (.slice (some ⟨b', o', none⟩) m c') ∧ w'.cell? ⟨b', o' + k * 4, none⟩ = some (.int .i64 x.h) ∧ w'.cell? ⟨b', o' + k * 4 + 1, none⟩ = some (.int .i64 x.i) ∧
                          w'.cell? ⟨w.heap.size, 0, none⟩ = some (.int .i64 L1.h) ∧ w'.cell? ⟨w.heap.size, 1, none⟩ = some (.int .i64 L1.i) ∧ w'.cell? ⟨w.heap.size, 2, none⟩ = some (.string L1.s) ∧ w'.cell? ⟨w.heap.size, 3, none⟩ = some (.int .i64 L1.d))
                        (first | go_keep | (refine ⟨keep1 hb2 ?_, keep1 hb2 ?_, keep1 hb2 ?_, keep1 hb2 ?_, keep1 hb2 ?_, keep1 hb2 ?_, keep1 hb2 ?_⟩ <;> go_keep))
                        (first
                          | (go_at_call 118; refine (l5Less_any L1 _ _ _).mono ?_; rintro e w2 ⟨rfl, hb2⟩))
                      have hbel2 := belN hbel.drew hb2
                      have z0' := keep1 hb2 z0
                      have y0' := keep1 hb2 y0
                      have y1' := keep1 hb2 y1
                      have y2' := keep1 hb2 y2
                      have y3' := keep1 hb2 y3
                      have hblk' := hblk.drew.below hb2 hblk.lt
                      clear z0 y0 y1 y2 y3 c0 c1 c2 c3 f0 f1 f2 f3
                      have c0 := hblk'.get 0 rfl
                      have c1 := hblk'.get 1 rfl
                      have c2 := hblk'.get 2 rfl
                      have c3 := hblk'.get 3 rfl
                      have f0 := hblk'.frozen 0
                      have f1 := hblk'.frozen 1
                      have f2 := hblk'.frozen 2
                      have f3 := hblk'.frozen 3
                      go_wp2
                      go_roundw
                      case rel =>
                        refine ⟨k + 1, false, x, by omega, by go_num, rfl, ?_, ?_, hblk2.out _ hblk', belC (belC (belC (belC hbel2 _ _ (Nat.le_refl _) _) _ _ (Nat.le_refl _) _) _ _ (Nat.le_refl _) _) _ _ (Nat.le_refl _) _⟩
                        · show Ord _; rw [hts'.out, ← List.append_assoc]; exact Ho.out
                        · show Last _ _ _; rw [hts'.out, ← List.append_assoc]; exact hlst.out
                      case measure => simp [intOf]; omega
                  · have Ho := Lib.hid (hord.out.snoc (x := x) hlast.out (fun h => by cases h))
                    go_wp2_with fail
                    go_quiet (fail)
                    go_wp2
                    go_roundw
                    case rel =>
                      refine ⟨k + 1, false, x, by omega, by go_num, rfl, ?_, ?_, hblk2.out _ (hblk.drewN _), belC (belC (belC (belC (below_drewN hbel _) _ _ (Nat.le_refl _) _) _ _ (Nat.le_refl _) _) _ _ (Nat.le_refl _) _) _ _ (Nat.le_refl _) _⟩
                      · show Ord _; rw [hts'.out, ← List.append_assoc]; exact Ho.out
                      · show Last _ _ _; rw [hts'.out, ← List.append_assoc]; exact hlst.out
                    case measure => simp [intOf]; omega
                · obtain rfl : k = m := by omega
                  have hfs := Lib.hid (show (ps.take (j + 1)).flatten = (ps.take j).flatten ++ l.take k by
                    rw [hts.out, List.flatten_append, show l.take k = l from List.take_of_length_le (by have := Hm.out; omega)]; simp)
                  go_wp2
                  go_roundw
                  case rel => exact ⟨j + 1, fb1, L1, by omega, by go_num, rfl, Hn, by show Ord _; rw [hfs.out]; exact hord.out, by show Last _ _ _; rw [hfs.out]; exact hlast.out, hblk, hbel⟩
                  case measure => simp [intOf]; omega
      · obtain rfl : j = n := by omega
        have Hf := Lib.hid (okPB_true (ps := ps) ⟨h8', by have := hall.out; rwa [List.take_of_length_le (by omega), ← hl] at this, by have := hord.out; rwa [List.take_of_length_le (by omega)] at this⟩)
        go_wp2
        go_ret
        exact ⟨ret_bool Hf.out.symm, hbel⟩

end Go.Proofs.YtijfjgenbdbafaaDoor
