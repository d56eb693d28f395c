/- The reference's map of file blocks; extents of a map on both sides. -/
import Derived.Test.YtajgenjfhcapjaaFwMap
namespace Go.Proofs.Ytajgenjfhcapjaa
open Go Go.RowKit

set_option maxRecDepth 100000 in
set_option maxHeartbeats 4000000 in
theorem map_spec (A : Option Addr) (n c : Nat) (xs : List ExtD) (hall : ∀ e ∈ xs, extOk1 e = true) (hn : n ≤ 10000000) (w : World) (hr : Reads w w.heap.size 3 A n (XS xs)) :
    Calls Try.prog 51 #[.slice A n c] w fun e w' => e = .returned (.slice (some ⟨w.heap.size, 0, none⟩) 12 12) ∧ w'.ownsRow w.heap.size 3 1 (.slice (some ⟨w.heap.size, 0, none⟩) 12 12) 12 (IV (flatP xs)) ∧ Below w.heap.size w w' := by
  have hl : xs.length = n := by have := hr.1; rw [XS_length] at this; omega
  have Hl := Lib.hid hl
  have Hall := Lib.hid hall
  have Hr := Lib.hid hr
  clear hr hl hall
  have hmk := make_any (P := Try.prog) 66 3 (.int .i64 0) 1 8 Try.underlying66 (by kernel_rfl) 12 (by omega) (by omega)
  have hmk2 : ∀ w, (Instr.makeSlice 66 (.int .i64 12) (.int .i64 12)).run Try.prog w = .ok (.slice (some ⟨w.heap.size, 0, none⟩) 12 12) (w.alloc (.cells (madeCells (Value.int .i64 0).cells (12 * 1)) 3)) := hmk
  clear hmk
  have U0 := Lib.hid (show (w.alloc (.cells (madeCells (Value.int .i64 0).cells (12 * 1)) 3)).ownsRow w.heap.size 3 1 (.slice (some ⟨w.heap.size, 0, none⟩) 12 12) 12 (IV (List.replicate 0 (-1) ++ List.replicate (12 - 0) 0)) by
    have h := own_make w (Value.int .i64 0).cells 3 12 1 (by unfold maxLen; omega)
    rwa [show (madeCells (Value.int .i64 0).cells (12 * 1)).toList = IV (List.replicate 0 (-1) ++ List.replicate (12 - 0) 0) by kernel_rfl] at h)
  obtain ⟨M, hM⟩ : ∃ M, madeCells (Value.int .i64 0).cells (12 * 1) = M := ⟨_, rfl⟩
  rw [hM] at hmk2 U0
  clear hM
  go_enter Try.func51, Try.ntmps51
  go_wp2
  clear hmk2
  go_loopw [4] (fun i wr => ∃ (j : Nat), j ≤ 12 ∧ i = .int .i64 j ∧ Hid (wr.ownsRow w.heap.size 3 1 (.slice (some ⟨w.heap.size, 0, none⟩) 12 12) 12 (IV (List.replicate j (-1) ++ List.replicate (12 - j) 0))) ∧ Below w.heap.size w wr) (fun i _ => 12 - (intOf i).toNat)
  case atStart => exact ⟨0, by omega, rfl, U0.out, belA (bel0 w) _⟩
  case round =>
    clear U0
    obtain ⟨j, hj, rfl, hown, hbel⟩ := hrel
    by_cases hlt : j < 12
    · have q1 : (↑j : Int) < 12 := by omega
      have q0 : (0 : Int) ≤ ↑j := by omega
      obtain ⟨u0, c0⟩ := own_cel hown.out j hlt
      have f0 := own_frozen hown.out j
      have own2 := own_iset hown.out j (-1)
      have hgg := (own_ltX hown.out).2
      have hset : (List.replicate j (-1 : Int) ++ List.replicate (12 - j) 0).set j (-1) = List.replicate (j + 1) (-1) ++ List.replicate (12 - (j + 1)) 0 := by
        rw [List.set_append_right _ _ (by simp), List.length_replicate, Nat.sub_self, show 12 - j = (12 - (j + 1)) + 1 by omega, List.replicate_succ, List.set_cons_zero, List.replicate_succ']
        simp
      rw [hset] at own2
      have Own2 := Lib.hid own2
      clear own2 hset
      go_wp2
      go_roundw
      case rel => exact ⟨j + 1, by omega, by go_num, Own2.out, belC hbel _ _ (Nat.le_refl _) _⟩
      case measure => simp [intOf]; omega
    · obtain rfl : j = 12 := by omega
      have H0 := Lib.hid (show wr.ownsRow w.heap.size 3 1 (.slice (some ⟨w.heap.size, 0, none⟩) 12 12) 12 (IV (flatP (xs.take 0))) from hown.out)
      rename World => w3
      clear hown
      go_wp2
      go_loopw [5] (fun i wr => ∃ (j : Nat), j ≤ n ∧ i = .int .i64 j ∧ Hid (wr.ownsRow w.heap.size 3 1 (.slice (some ⟨w.heap.size, 0, none⟩) 12 12) 12 (IV (flatP (xs.take j)))) ∧ Below w.heap.size w wr) (fun i _ => n - (intOf i).toNat)
      case atStart => exact ⟨0, by omega, rfl, H0.out, hbel⟩
      case round =>
        clear H0 hbel
        obtain ⟨j, hj, rfl, hown, hbel⟩ := hrel
        by_cases hlt : j < n
        · have q0 : (0 : Int) ≤ ↑j := by omega
          have q1 : (↑j : Int) < ↑n := by omega
          have hkx : j < xs.length := by have := Hl.out; omega
          obtain ⟨ea, eb, el, hej, n1, n2, n3⟩ := extOk1_nat (Hall.out _ (List.getElem_mem hkx))
          have HF := Lib.hid (show flatP (xs.take (j + 1)) = setRun (flatP (xs.take j)) ea eb el by rw [flat_take xs j hkx, hej]; simp [mapE])
          have Hej := Lib.hid hej
          clear hej
          rename World => w4
          go_wp2
          go_loopw [6] (fun t wr => ∃ (k : Nat), t = .int .i64 k ∧ k ≤ el ∧ Hid (wr.ownsRow w.heap.size 3 1 (.slice (some ⟨w.heap.size, 0, none⟩) 12 12) 12 (IV (setRun (flatP (xs.take j)) ea eb k))) ∧ Below w.heap.size w wr) (fun t _ => el - (intOf t).toNat)
          case atStart => exact ⟨0, rfl, by omega, hown.out, hbel⟩
          case round =>
            clear hown hbel
            obtain ⟨k, rfl, hk, U2, B2⟩ := hrel
            obtain ⟨_, b, o, rfl, hadb, z0, z1, z2⟩ := reads_ext (Hr.out.below B2) hlt
            rw [Hej.out] at z0 z1 z2
            simp only at z0 z1 z2
            by_cases hkl : k < el
            · have q3 : (↑k : Int) < ↑el := by omega
              obtain ⟨s, hs⟩ : ∃ s, ea + k = s := ⟨_, rfl⟩
              have hs2 : s < 12 := by omega
              obtain ⟨u0, c0⟩ := own_cel U2.out s hs2
              have f0 := own_frozen U2.out s
              have hg0 := own_ltX U2.out
              have UN := Lib.hid (show (wr.setCell ⟨w.heap.size, s, none⟩ (.int .i64 ((eb : Int) + (k : Int)))).ownsRow w.heap.size 3 1 (.slice (some ⟨w.heap.size, 0, none⟩) 12 12) 12 (IV (setRun (flatP (xs.take j)) ea eb (k + 1))) by
                rw [setRun_succ, hs]; exact own_iset U2.out s _)
              have wS : IntKind.i64.wrap ((ea : Int) + (k : Int)) = (s : Int) := by rw [IntKind.wrap_i64]; omega
              have wE : IntKind.i64.wrap ((eb : Int) + (k : Int)) = (eb : Int) + (k : Int) := by rw [IntKind.wrap_i64]; omega
              have s0 : (0 : Int) ≤ (s : Int) := by omega
              have s1 : (s : Int) < 12 := by omega
              have wS2 : (ea : Int) + (k : Int) = (s : Int) := by omega
              clear hs
              go_upto_region 12 with fail
              go_still_tail 15, (by kernel_rfl)
              change wpList _ _ _ _ _ wr.drew
              go_wp2
              go_roundw
              case rel => first | exact ⟨k + 1, by go_num, by omega, UN.out, belC B2.drew _ _ hg0.1 _⟩ | ((repeat apply Exists.intro); exact ⟨⟨k + 1, by go_num, by omega, UN.out, belC B2.drew _ _ hg0.1 _⟩, rfl⟩)
              case measure => simp [intOf]; omega
            · obtain rfl : k = el := by omega
              have HO := Lib.hid (show wr.ownsRow w.heap.size 3 1 (.slice (some ⟨w.heap.size, 0, none⟩) 12 12) 12 (IV (flatP (xs.take (j + 1)))) by rw [HF.out]; exact U2.out)
              go_wp2
              first
                | exact ⟨⟨j + 1, by omega, by go_num, HO.out, B2⟩, by simp [intOf]; omega⟩
                | (go_roundw; case rel => exact ⟨j + 1, by omega, by go_num, HO.out, B2⟩; case measure => (simp [intOf]; omega))
        · obtain rfl : j = n := by omega
          have HO := Lib.hid (show wr.ownsRow w.heap.size 3 1 (.slice (some ⟨w.heap.size, 0, none⟩) 12 12) 12 (IV (flatP xs)) by
            have h := hown.out
            rwa [List.take_of_length_le (by rw [Hl.out]; omega)] at h)
          go_wp2
          go_ret
          exact ⟨rfl, HO.out, hbel⟩

theorem XS_bump (ps : List ExtD) (e : ExtD) (x : Int) : (XS (ps ++ [e])).set (ps.length * 3 + 2) (.int .i64 x) = XS (ps ++ [⟨e.a, e.b, x⟩]) := by
  rw [XS_append, XS_append, List.set_append_right _ _ (by rw [XS_length]; omega), XS_length, show ps.length * 3 + 2 - ps.length * 3 = 2 by omega]
  rfl
section
variable {m : List Int} {j : Nat}
theorem getD_at {m : List Int} {j : Nat} (h : j < m.length) : m.getD j (-1) = m[j] := by rw [List.getD_eq_getElem?_getD, List.getElem?_eq_getElem h]; rfl
theorem ext_skip (hj : j < m.length) (h : m[j] < 0) : extAcc m (j + 1) = extAcc m j := by rw [extAcc, getD_at hj, extStep, if_pos h]
theorem ext_bump (hj : j < m.length) (h : ¬ m[j] < 0) (hp : 0 ≤ prI m j) (he : m[j] = prI m j + 1) {ps : List ExtD} {e : ExtD} (ha : extAcc m j = ps ++ [e]) : extAcc m (j + 1) = ps ++ [⟨e.a, e.b, e.l + 1⟩] := by
  rw [extAcc, getD_at hj, extStep, if_neg h, if_pos ⟨hp, he⟩, ha]
  simp
theorem ext_app (hj : j < m.length) (h : ¬ m[j] < 0) (hn : ¬ (0 ≤ prI m j ∧ m[j] = prI m j + 1)) : extAcc m (j + 1) = extAcc m j ++ [⟨j, m[j], 1⟩] := by
  rw [extAcc, getD_at hj, extStep, if_neg h, if_neg hn]
theorem prI_of {p : Nat} (hp : j = p + 1) (hj : p < m.length) : prI m j = m[p] := by subst hp; rw [prI_succ, getD_at hj]
end
theorem own_lenE {w : World} {base : Nat} {e : TypeId} {v : Value} {xs ys : List ExtD} (h : w.ownsRow base e 3 v xs.length (XS xs)) (hx : ys = xs) : w.ownsRow base e 3 v ys.length (XS ys) := by subst hx; exact h

set_option maxRecDepth 100000 in
set_option maxHeartbeats 8000000 in
theorem exts_impl (A : Option Addr) (c : Nat) (m : List Int) (hm : ∀ x ∈ m, -1 ≤ x ∧ x ≤ 23) (w : World) (hr : Reads w w.heap.size 1 A 12 (IV m)) :
    Calls Try.prog 64 #[.slice A 12 c] w fun e w' => ∃ v, e = .returned v ∧ w'.ownsRow w.heap.size 76 3 v (extP m).length (XS (extP m)) ∧ Below w.heap.size w w' := by
  have hl : m.length = 12 := by have := hr.1; rw [IV_length] at this; omega
  have Hl := Lib.hid hl
  have Hm := Lib.hid hm
  have Hr := Lib.hid hr
  clear hr hl hm
  have Own0 := Lib.hid (World.ownsRow_lit (e := 76) (size := 3) w #[] 0 (Nat.le_refl _) (by unfold maxLen; omega) rfl)
  go_enter Try.func64, Try.ntmps64
  go_wp2
  go_loopw [3, 9] (fun v i wr => ∃ (j : Nat), j ≤ 12 ∧ i = .int .i64 j ∧ Hid (wr.ownsRow w.heap.size 76 3 v (extAcc m j).length (XS (extAcc m j))) ∧ Below w.heap.size w wr) (fun _ i _ => 12 - (intOf i).toNat)
  case atStart => exact ⟨0, by omega, rfl, Own0.out, belA (bel0 w) _⟩
  case round =>
    clear Own0
    obtain ⟨j, hj, rfl, hown, hbel⟩ := hrel
    have hsz := hbel.size
    by_cases hlt : j < 12
    · have q0 : (0 : Int) ≤ ↑j := by omega
      have q1 : (↑j : Int) < 12 := by omega
      obtain ⟨hkx, ad, rfl, hadb, z0⟩ := reads_num (Hr.out.below hbel) hlt
      have HAcc := Lib.hid (accI m Hm.out j (by omega))
      have hlen := HAcc.out.len
      have hmb := Hm.out _ (List.getElem_mem hkx)
      obtain ⟨mb, hmbe⟩ : ∃ x, m[j] = x := ⟨_, rfl⟩
      rw [hmbe] at z0 hmb
      have Hmb := Lib.hid hmbe
      clear hmbe
      by_cases h1 : mb < 0
      · have HS := Lib.hid (ext_skip hkx (by rw [Hmb.out]; exact h1))
        have HO := Lib.hid (own_lenE hown.out HS.out)
        clear hown
        go_wp2
        go_roundw
        case rel => exact ⟨j + 1, by omega, by go_num, HO.out, hbel⟩
        case measure => simp [intOf]; omega
      · rcases Nat.eq_zero_or_pos j with h0 | h0
        · have HAp := Lib.hid (show extAcc m (j + 1) = extAcc m j ++ [⟨j, mb, 1⟩] by
            have := ext_app hkx (by rw [Hmb.out]; exact h1) (fun h => by have h4 := h.1; rw [h0, prI_zero] at h4; omega)
            rwa [Hmb.out] at this)
          have j0 : ¬ (0 : Int) < ↑j := by omega
          have j1 : decide ((0 : Int) < ↑j) = false := by simpa using j0
          clear h0
          go_wp2_with (at_builtin; go_must (refine wpList_app _ rfl _ _ _ rfl Try.el_ext ((hown.out).alloc _) rfl (reads_new _ _ _ _ 1 (by rfl)) rfl (XS_cells [⟨(j : Int), mb, 1⟩]) (max_small (by omega)) (by omega) (by simp; omega) ?_); intro v1 w1 own1 hg1 _ hb1)
          have own2 : w1.ownsRow w.heap.size 76 3 v1 (extAcc m (j + 1)).length (XS (extAcc m (j + 1))) := by rw [HAp.out, XS_append, List.length_append]; exact own1
          have Own2 := Lib.hid own2
          clear own2 own1
          go_roundw
          case rel => exact ⟨j + 1, by omega, by go_num, Own2.out, (hbel.alloc (by simpa using hsz) _).trans hb1⟩
          case measure => simp [intOf]; omega
        · obtain ⟨p, hp⟩ : ∃ p, j = p + 1 := ⟨j - 1, by omega⟩
          obtain ⟨hkp, ad2, hA2, _, y0⟩ := reads_num (Hr.out.below hbel) (show p < 12 by omega)
          simp only [Option.some.injEq] at hA2
          subst hA2
          have wp1 : IntKind.i64.wrap ((j : Int) - 1) = (p : Int) := by rw [IntKind.wrap_i64]; omega
          have p0 : (0 : Int) ≤ ↑p := by omega
          have p1 : (↑p : Int) < 12 := by omega
          have j0 : (0 : Int) < ↑j := by omega
          have hpb := Hm.out _ (List.getElem_mem hkp)
          have hpr := prI_of (m := m) hp hkp
          obtain ⟨mp, hmp⟩ : ∃ x, m[p] = x := ⟨_, rfl⟩
          rw [hmp] at y0 hpb hpr
          have Hpr := Lib.hid hpr
          clear hp hmp hpr h0
          by_cases h2 : 0 ≤ mp
          · have h2a : ¬ mp < 0 := by omega
            have wmp : IntKind.i64.wrap (mp + 1) = mp + 1 := by rw [IntKind.wrap_i64]; omega
            by_cases h3 : mb = mp + 1
            · obtain ⟨ps, pe, hacc, hE1, hE2⟩ := HAcc.out.yes (by rw [Hpr.out]; exact h2)
              have HBp := Lib.hid (ext_bump hkx (by rw [Hmb.out]; exact h1) (by rw [Hpr.out]; exact h2) (by rw [Hmb.out, Hpr.out]; exact h3) hacc)
              have h3a : (mb == mp + 1) = true := by simpa using h3
              clear hE1 hE2 h3
              obtain ⟨N, hN⟩ : ∃ N, (extAcc m j).length = N := ⟨_, rfl⟩
              have hN1 : N = ps.length + 1 := by rw [← hN, hacc]; simp
              rw [hN] at hown hlen
              obtain ⟨g, cv, rfl⟩ := own_form1 hown.out (by omega)
              have hg0 := own_ltX hown.out
              have hrow := hown.out
              rw [hacc] at hrow
              obtain ⟨L, hL⟩ : ∃ L, ps.length = L := ⟨_, rfl⟩
              have hget := XS_get (ps ++ [pe]) L (by simp; omega)
              have hge : (ps ++ [pe])[L]'(by simp; omega) = pe := by subst hL; simp
              rw [hge] at hget
              have d0 : wr.cell? ⟨g, L * 3, none⟩ = some (.int .i64 pe.a) := by rw [hrow.cellAt (L * 3) (by omega)]; exact hget.1
              have d1 : wr.cell? ⟨g, L * 3 + 1, none⟩ = some (.int .i64 pe.b) := by rw [hrow.cellAt (L * 3 + 1) (by omega)]; exact hget.2.1
              have d2 : wr.cell? ⟨g, L * 3 + 2, none⟩ = some (.int .i64 pe.l) := by rw [hrow.cellAt (L * 3 + 2) (by omega)]; exact hget.2.2
              have e2 := own_frozen hrow (L * 3 + 2)
              have own2 := own_set hrow (L * 3 + 2) (.int .i64 (pe.l + 1))
              rw [← hL, XS_bump, hL] at own2
              have hebd := (HAcc.out.bd pe (by rw [hacc]; simp))
              have wN : IntKind.i64.wrap ((N : Int) - 1) = (L : Int) := by rw [IntKind.wrap_i64]; omega
              have wl : IntKind.i64.wrap (pe.l + 1) = pe.l + 1 := by rw [IntKind.wrap_i64]; omega
              have L0 : (0 : Int) ≤ (L : Int) := by omega
              have L1 : (L : Int) < (N : Int) := by omega
              have hNL : N = L + 1 := by omega
              have HO := Lib.hid (show (wr.setCell ⟨g, L * 3 + 2, none⟩ (.int .i64 (pe.l + 1))).ownsRow w.heap.size 76 3 (.slice (some ⟨g, 0, none⟩) N cv) (extAcc m (j + 1)).length (XS (extAcc m (j + 1))) by
                rw [HBp.out, show (ps ++ [(⟨pe.a, pe.b, pe.l + 1⟩ : ExtD)]).length = N by simp; omega]; exact own2)
              clear hN hN1 hrow hL hget hge own2 hebd hNL hacc hown
              clear d0 d1
              go_wp2
              go_roundw
              case rel => exact ⟨j + 1, by omega, by go_num, HO.out, belC hbel _ _ hg0.1 _⟩
              case measure => simp [intOf]; omega
            · have h3a : (mb == mp + 1) = false := by rw [beq_eq_false_iff_ne]; exact h3
              have HAp := Lib.hid (show extAcc m (j + 1) = extAcc m j ++ [⟨j, mb, 1⟩] by
                have := ext_app hkx (by rw [Hmb.out]; exact h1) (by rw [Hmb.out, Hpr.out]; omega)
                rwa [Hmb.out] at this)
              clear h3
              go_wp2_with (at_builtin; go_must (refine wpList_app _ rfl _ _ _ rfl Try.el_ext ((hown.out).alloc _) rfl (reads_new _ _ _ _ 1 (by rfl)) rfl (XS_cells [⟨(j : Int), mb, 1⟩]) (max_small (by omega)) (by omega) (by simp; omega) ?_); intro v1 w1 own1 hg1 _ hb1)
              have own2 : w1.ownsRow w.heap.size 76 3 v1 (extAcc m (j + 1)).length (XS (extAcc m (j + 1))) := by rw [HAp.out, XS_append, List.length_append]; exact own1
              have Own2 := Lib.hid own2
              clear own2 own1
              go_roundw
              case rel => exact ⟨j + 1, by omega, by go_num, Own2.out, (hbel.alloc (by simpa using hsz) _).trans hb1⟩
              case measure => simp [intOf]; omega
          · have h2b : decide (0 ≤ mp) = false := by simpa using h2
            have HAp := Lib.hid (show extAcc m (j + 1) = extAcc m j ++ [⟨j, mb, 1⟩] by
              have := ext_app hkx (by rw [Hmb.out]; exact h1) (by rw [Hmb.out, Hpr.out]; omega)
              rwa [Hmb.out] at this)
            go_wp2_with (at_builtin; go_must (refine wpList_app _ rfl _ _ _ rfl Try.el_ext ((hown.out).alloc _) rfl (reads_new _ _ _ _ 1 (by rfl)) rfl (XS_cells [⟨(j : Int), mb, 1⟩]) (max_small (by omega)) (by omega) (by simp; omega) ?_); intro v1 w1 own1 hg1 _ hb1)
            have own2 : w1.ownsRow w.heap.size 76 3 v1 (extAcc m (j + 1)).length (XS (extAcc m (j + 1))) := by rw [HAp.out, XS_append, List.length_append]; exact own1
            have Own2 := Lib.hid own2
            clear own2 own1
            go_roundw
            case rel => exact ⟨j + 1, by omega, by go_num, Own2.out, (hbel.alloc (by simpa using hsz) _).trans hb1⟩
            case measure => simp [intOf]; omega
    · obtain rfl : j = 12 := by omega
      have HO := Lib.hid (own_lenE hown.out (show extP m = extAcc m 12 by unfold extP; rw [Hl.out]))
      clear hown
      go_wp2
      go_ret
      exact ⟨_, rfl, HO.out, hbel⟩

set_option maxRecDepth 100000 in
set_option maxHeartbeats 8000000 in
theorem exts_spec (A : Option Addr) (c : Nat) (m : List Int) (hm : ∀ x ∈ m, -1 ≤ x ∧ x ≤ 23) (w : World) (hr : Reads w w.heap.size 1 A 12 (IV m)) :
    Calls Try.prog 55 #[.slice A 12 c] w fun e w' => ∃ v, e = .returned v ∧ w'.ownsRow w.heap.size 76 3 v (extP m).length (XS (extP m)) ∧ Below w.heap.size w w' := by
  have hl : m.length = 12 := by have := hr.1; rw [IV_length] at this; omega
  have Hl := Lib.hid hl
  have Hm := Lib.hid hm
  have Hr := Lib.hid hr
  clear hr hl hm
  have Own0 := Lib.hid (World.ownsRow_lit (e := 76) (size := 3) w #[] 0 (Nat.le_refl _) (by unfold maxLen; omega) rfl)
  go_enter Try.func55, Try.ntmps55
  go_wp2
  go_loopw [3, 4] (fun v i wr => ∃ (j : Nat), j ≤ 12 ∧ i = .int .i64 j ∧ Hid (wr.ownsRow w.heap.size 76 3 v (extAcc m j).length (XS (extAcc m j))) ∧ Below w.heap.size w wr) (fun _ i _ => 12 - (intOf i).toNat)
  case atStart => exact ⟨0, by omega, rfl, Own0.out, belA (bel0 w) _⟩
  case round =>
    clear Own0
    obtain ⟨j, hj, rfl, hown, hbel⟩ := hrel
    have hsz := hbel.size
    by_cases hlt : j < 12
    · have q0 : (0 : Int) ≤ ↑j := by omega
      have q1 : (↑j : Int) < 12 := by omega
      obtain ⟨hkx, ad, rfl, hadb, z0⟩ := reads_num (Hr.out.below hbel) hlt
      have HAcc := Lib.hid (accI m Hm.out j (by omega))
      have hlen := HAcc.out.len
      have hmb := Hm.out _ (List.getElem_mem hkx)
      obtain ⟨mb, hmbe⟩ : ∃ x, m[j] = x := ⟨_, rfl⟩
      rw [hmbe] at z0 hmb
      have Hmb := Lib.hid hmbe
      clear hmbe
      by_cases h1 : mb < 0
      · have HS := Lib.hid (ext_skip hkx (by rw [Hmb.out]; exact h1))
        have HO := Lib.hid (own_lenE hown.out HS.out)
        clear hown
        go_wp2
        go_roundw
        case rel => exact ⟨j + 1, by omega, by go_num, HO.out, hbel⟩
        case measure => simp [intOf]; omega
      · have HAn := Lib.hid (fun (h : ¬ (0 ≤ prI m j ∧ mb = prI m j + 1)) => show extAcc m (j + 1) = extAcc m j ++ [⟨j, mb, 1⟩] by
          have := ext_app hkx (by rw [Hmb.out]; exact h1) (by rw [Hmb.out]; exact h)
          rwa [Hmb.out] at this)
        rcases (List.eq_nil_or_concat (extAcc m j)) with hnil | ⟨ps, pe, hacc⟩
        · have HAp := Lib.hid (HAn.out fun h => by
            obtain ⟨ps, e, h2, _⟩ := HAcc.out.yes h.1
            rw [hnil] at h2
            simp at h2)
          have hN0 : (extAcc m j).length = 0 := by rw [hnil]; rfl
          obtain ⟨N, hN⟩ : ∃ N, (extAcc m j).length = N := ⟨_, rfl⟩
          obtain ⟨A0, c0, hv, _⟩ := own_vals hown.out
          subst hv
          rw [hN] at hown hlen ⊢
          have n0 : ¬ (0 : Int) < (N : Int) := by omega
          have n0b : ¬ 0 < N := by omega
          have n1 : decide ((0 : Int) < (N : Int)) = false := by simpa using n0
          have n1b : decide (0 < N) = false := by simpa using n0b
          replace hN := Lib.hid hN
          clear hnil hN0
          go_upto_region 7 with fail
          go_quiet (fail)
          rename Nat => nq1
          go_wp2_with (at_builtin; go_must (refine wpList_app _ rfl _ _ _ rfl Try.el_ext ((own_drewN hown.out nq1).alloc _) rfl (reads_new _ _ _ _ 1 (by rfl)) rfl (XS_cells [⟨(j : Int), mb, 1⟩]) (max_small (by omega)) (by omega) (by simp; omega) ?_); intro v1 w1 own1 hg1 _ hb1)
          rw [← hN.out] at own1
          have own2 : w1.ownsRow w.heap.size 76 3 v1 (extAcc m (j + 1)).length (XS (extAcc m (j + 1))) := by rw [HAp.out, XS_append, List.length_append]; exact own1
          have Own2 := Lib.hid own2
          clear own2 own1
          go_roundw
          case rel => exact ⟨j + 1, by omega, by go_num, Own2.out, ((below_drewN hbel nq1).alloc (by simpa using hsz) _).trans hb1⟩
          case measure => simp [intOf]; omega
        · rw [List.concat_eq_append] at hacc
          have hyes := HAcc.out.yes
          have hno := HAcc.out.no
          obtain ⟨N, hN⟩ : ∃ N, (extAcc m j).length = N := ⟨_, rfl⟩
          have hN1 : N = ps.length + 1 := by rw [← hN, hacc]; simp
          rw [hN] at hown hlen
          obtain ⟨g, cv, rfl⟩ := own_form1 hown.out (by omega)
          have hg0 := own_ltX hown.out
          have hrow := hown.out
          rw [hacc] at hrow
          obtain ⟨L, hL⟩ : ∃ L, ps.length = L := ⟨_, rfl⟩
          have hget := XS_get (ps ++ [pe]) L (by simp; omega)
          have hge : (ps ++ [pe])[L]'(by simp; omega) = pe := by subst hL; simp
          rw [hge] at hget
          have d0 : wr.cell? ⟨g, L * 3, none⟩ = some (.int .i64 pe.a) := by rw [hrow.cellAt (L * 3) (by omega)]; exact hget.1
          have d1 : wr.cell? ⟨g, L * 3 + 1, none⟩ = some (.int .i64 pe.b) := by rw [hrow.cellAt (L * 3 + 1) (by omega)]; exact hget.2.1
          have d2 : wr.cell? ⟨g, L * 3 + 2, none⟩ = some (.int .i64 pe.l) := by rw [hrow.cellAt (L * 3 + 2) (by omega)]; exact hget.2.2
          have e2 := own_frozen hrow (L * 3 + 2)
          have own2 := own_set hrow (L * 3 + 2) (.int .i64 (pe.l + 1))
          rw [← hL, XS_bump, hL] at own2
          have hebd := (HAcc.out.bd pe (by rw [hacc]; simp))
          have wN : IntKind.i64.wrap ((N : Int) - 1) = (L : Int) := by rw [IntKind.wrap_i64]; omega
          have wl : IntKind.i64.wrap (pe.l + 1) = pe.l + 1 := by rw [IntKind.wrap_i64]; omega
          have L0 : (0 : Int) ≤ (L : Int) := by omega
          have L1 : (L : Int) < (N : Int) := by omega
          have hNL : N = L + 1 := by omega
          have hyes2 : 0 ≤ prI m j → pe.a + pe.l = j ∧ pe.b + pe.l = prI m j + 1 := fun h => by
            obtain ⟨ps', e', h2, h3, h4⟩ := hyes h
            rw [hacc] at h2
            obtain ⟨rfl, h2⟩ := List.append_inj' h2 rfl
            simp at h2; subst h2
            exact ⟨h3, h4⟩
          have hno2 : prI m j < 0 → pe.a + pe.l < j := fun h => hno h ps pe hacc
          have wal : IntKind.i64.wrap (pe.a + pe.l) = pe.a + pe.l := by rw [IntKind.wrap_i64]; omega
          have wbl : IntKind.i64.wrap (pe.b + pe.l) = pe.b + pe.l := by rw [IntKind.wrap_i64]; omega
          have N0 : (0 : Int) < (N : Int) := by omega
          have N0b : 0 < N := by omega
          clear hyes hno
          by_cases h2 : pe.a + pe.l = j
          · have h2a : (pe.a + pe.l == (j : Int)) = true := by simpa using h2
            have hp0 : 0 ≤ prI m j := Int.not_lt.1 fun h => by have := hno2 h; omega
            have hE2 := (hyes2 hp0).2
            by_cases h3 : pe.b + pe.l = mb
            · have h3a : (pe.b + pe.l == mb) = true := by simpa using h3
              have HBp := Lib.hid (ext_bump hkx (by rw [Hmb.out]; exact h1) hp0 (by rw [Hmb.out]; omega) hacc)
              clear hyes2 hno2 h2 h3 hp0 hE2
              have HO := Lib.hid (show (wr.setCell ⟨g, L * 3 + 2, none⟩ (.int .i64 (pe.l + 1))).ownsRow w.heap.size 76 3 (.slice (some ⟨g, 0, none⟩) N cv) (extAcc m (j + 1)).length (XS (extAcc m (j + 1))) by
                rw [HBp.out, show (ps ++ [(⟨pe.a, pe.b, pe.l + 1⟩ : ExtD)]).length = N by simp; omega]; exact own2)
              clear hN hN1 hrow hL hget hge own2 hebd hNL hacc hown
              go_upto_region 7 with fail
              go_quiet (fail)
              rename Nat => nq1
              go_wp2
              go_roundw
              case rel => exact ⟨j + 1, by omega, by go_num, HO.out, belC (below_drewN hbel nq1) _ _ hg0.1 _⟩
              case measure => simp [intOf]; omega
            · have h3a : (pe.b + pe.l == mb) = false := by rw [beq_eq_false_iff_ne]; exact h3
              have HAp := Lib.hid (HAn.out fun h => by omega)
              clear hyes2 hno2 h2 h3 hp0 hE2 hN1 hrow hL hget hge own2 hebd hNL wl
              go_upto_region 7 with fail
              go_quiet (fail)
              rename Nat => nq1
              go_wp2_with (at_builtin; go_must (refine wpList_app _ rfl _ _ _ rfl Try.el_ext ((own_drewN hown.out nq1).alloc _) rfl (reads_new _ _ _ _ 1 (by rfl)) rfl (XS_cells [⟨(j : Int), mb, 1⟩]) (max_small (by omega)) (by omega) (by simp; omega) ?_); intro v1 w1 own1 hg1 _ hb1)
              rw [← hN] at own1
              have own2 : w1.ownsRow w.heap.size 76 3 v1 (extAcc m (j + 1)).length (XS (extAcc m (j + 1))) := by rw [HAp.out, XS_append, List.length_append]; exact own1
              have Own2 := Lib.hid own2
              clear own2 own1 hN hacc
              go_roundw
              case rel => exact ⟨j + 1, by omega, by go_num, Own2.out, ((below_drewN hbel nq1).alloc (by simpa using hsz) _).trans hb1⟩
              case measure => simp [intOf]; omega
          · have h2a : (pe.a + pe.l == (j : Int)) = false := by rw [beq_eq_false_iff_ne]; exact h2
            have HAp := Lib.hid (HAn.out fun h => h2 (hyes2 h.1).1)
            clear hyes2 hno2 h2 hN1 hrow hL hget hge own2 hebd hNL wl
            go_upto_region 7 with fail
            go_quiet (fail)
            rename Nat => nq1
            go_wp2_with (at_builtin; go_must (refine wpList_app _ rfl _ _ _ rfl Try.el_ext ((own_drewN hown.out nq1).alloc _) rfl (reads_new _ _ _ _ 1 (by rfl)) rfl (XS_cells [⟨(j : Int), mb, 1⟩]) (max_small (by omega)) (by omega) (by simp; omega) ?_); intro v1 w1 own1 hg1 _ hb1)
            rw [← hN] at own1
            have own2 : w1.ownsRow w.heap.size 76 3 v1 (extAcc m (j + 1)).length (XS (extAcc m (j + 1))) := by rw [HAp.out, XS_append, List.length_append]; exact own1
            have Own2 := Lib.hid own2
            clear own2 own1 hN hacc
            go_roundw
            case rel => exact ⟨j + 1, by omega, by go_num, Own2.out, ((below_drewN hbel nq1).alloc (by simpa using hsz) _).trans hb1⟩
            case measure => simp [intOf]; omega
    · obtain rfl : j = 12 := by omega
      have HO := Lib.hid (own_lenE hown.out (show extP m = extAcc m 12 by unfold extP; rw [Hl.out]))
      clear hown
      go_wp2
      go_ret
      exact ⟨_, rfl, HO.out, hbel⟩

end Go.Proofs.Ytajgenjfhcapjaa
