/- Patterns: plain Lean, the reference's drawn region, Glob of both sides. -/
import Derived.Test.YthdbomkddpnhaaaGreatDoorPUnits
import Derived.Test.YthdbomkddpnhaaaGreatDoorPVolB
import Derived.BigQuiet
import Derived.StillTailTactics
import Derived.Test.YthdbomkddpnhaaaGreatDoorPRegH
import Derived.Test.YthdbomkddpnhaaaGreatDoorPWkT
namespace Go.Proofs.YthdbomkddpnhaaaGreatDoor
open Go Go.RowKit

/-- Does a pattern's part, behind those whose fits are fr, fit the first k units? T: what is told of fewer. -/
def fitAt (p : List Int) (ns : List (List Int)) (fr T : List Bool) (k : Nat) : Bool :=
 if p = [42] then fr.getD k false || (decide (0 < k) && T.getD (k - 1) false)
 else decide (0 < k) && ((decide (p = [63]) || decide (p = ns.getD (k - 1) [])) && fr.getD (k - 1) false)
def fitTo (p : List Int) (ns : List (List Int)) (fr : List Bool) : Nat → List Bool
 | 0 => []
 | k + 1 => fitTo p ns fr k ++ [fitAt p ns fr (fitTo p ns fr k) k]
theorem fitTo_len (p : List Int) (ns : List (List Int)) (fr : List Bool) : ∀ k, (fitTo p ns fr k).length = k
 | 0 => rfl
 | k + 1 => by rw [fitTo, List.length_append, fitTo_len p ns fr k]; rfl
/-- Which first units the pattern fits. -/
def fitL (ps ns : List (List Int)) : List Bool := ps.foldl (fun fr p => fitTo p ns fr (ns.length + 1)) (true :: List.replicate ns.length false)
def fitB (ps ns : List (List Int)) : Bool := (fitL ps ns).getD ns.length false
theorem fitL_snoc {ps ns : List (List Int)} {j : Nat} (hj : j < ps.length) : fitL (ps.take (j + 1)) ns = fitTo ps[j] ns (fitL (ps.take j) ns) (ns.length + 1) := by
 unfold fitL; rw [List.take_succ_eq_append_getElem hj, List.foldl_append]; rfl
theorem fitL_len (ps ns : List (List Int)) : (fitL ps ns).length = ns.length + 1 := by
 have : ∀ (l : List (List Int)) (fr : List Bool), fr.length = ns.length + 1 → (l.foldl (fun fr p => fitTo p ns fr (ns.length + 1)) fr).length = ns.length + 1 := by
  intro l
  induction l with
  | nil => intro fr h; exact h
  | cons p l ih => intro fr _; exact ih _ (fitTo_len _ _ _ _)
 exact this ps _ (by simp)
theorem pad_set {T : List Bool} {N k : Nat} (hT : T.length = k) (hk : k < N) (b : Bool) : (BB (T ++ List.replicate (N - k) false)).set k (.bool b) = BB ((T ++ [b]) ++ List.replicate (N - (k + 1)) false) := by
 rw [BB_set]
 congr 1
 subst hT
 rw [show N - T.length = (N - (T.length + 1)) + 1 by omega, List.replicate_succ]
 simp
theorem pad_same {T : List Bool} {N k : Nat} (hk : k < N) : T ++ List.replicate (N - k) false = (T ++ [false]) ++ List.replicate (N - (k + 1)) false := by
 rw [show N - k = (N - (k + 1)) + 1 by omega, List.replicate_succ]
 simp
theorem getD_some {T : List Bool} {j : Nat} (h : j < T.length) : T[j]? = some (T.getD j false) := by simp [List.getD, h]

set_option maxHeartbeats 1000000 in
theorem isOnly_any (A : Option Addr) (n c : Nat) (u : List Int) (q : Int) (w : World) (hr : Reads w w.heap.size 1 A n (II u)) :
  Calls Tryz.prog 250 #[.slice A n c, .int .i64 q] w fun e w' => e = .returned (.bool (decide (u = [q]))) ∧ w = w' := by
 have hl : u.length = n := by have := hr.1; rw [II_length] at this; omega
 by_cases hn : n = 1
 ·subst hn
  obtain ⟨hkx, ad, rfl, hadb, z0⟩ := reads_at hr (k := 0) (by omega)
  obtain ⟨x, rfl⟩ : ∃ x, u = [x] := by
   match u, hl with
   | [x], _ => exact ⟨x, rfl⟩
  simp only [List.getElem_cons_zero] at z0
  have z0' : w.cell? ad = some (.int .i64 x) := by
   have : ad.add 0 = ad := by simp [Addr.add]
   rw [this] at z0; exact z0
  clear hr
  go_enter Tryz.func250, Tryz.ntmps250
  go_wp2
  go_ret
  refine ⟨ret_bool ?_, rfl⟩
  by_cases he : x = q <;> simp [he]
 ·have hn1 : ((n : Int) == 1) = false := by rw [beq_eq_false_iff_ne]; omega
  clear hr
  go_enter Tryz.func250, Tryz.ntmps250
  go_wp2
  go_ret
  refine ⟨ret_bool ?_, rfl⟩
  have : u ≠ [q] := by rintro rfl; exact hn hl.symm
  simp [this]
set_option maxHeartbeats 1000000 in
theorem l14Is_any (A : Option Addr) (n c : Nat) (u : List Int) (q : Int) (w : World) (hr : Reads w w.heap.size 1 A n (II u)) :
  Calls Tryz.prog 286 #[.slice A n c, .int .i64 q] w fun e w' => e = .returned (.bool (decide (u = [q]))) ∧ w = w' := by
 have hl : u.length = n := by have := hr.1; rw [II_length] at this; omega
 by_cases hn : n = 1
 ·subst hn
  obtain ⟨hkx, ad, rfl, hadb, z0⟩ := reads_at hr (k := 0) (by omega)
  obtain ⟨x, rfl⟩ : ∃ x, u = [x] := by
   match u, hl with
   | [x], _ => exact ⟨x, rfl⟩
  simp only [List.getElem_cons_zero] at z0
  have z0' : w.cell? ad = some (.int .i64 x) := by
   have : ad.add 0 = ad := by simp [Addr.add]
   rw [this] at z0; exact z0
  clear hr
  go_enter Tryz.func286, Tryz.ntmps286
  go_wp2
  go_ret
  refine ⟨ret_bool ?_, rfl⟩
  by_cases he : x = q <;> simp [he]
 ·have hn1 : ((n : Int) == 1) = false := by rw [beq_eq_false_iff_ne]; omega
  clear hr
  go_enter Tryz.func286, Tryz.ntmps286
  go_wp2
  go_ret
  refine ⟨ret_bool ?_, rfl⟩
  have : u ≠ [q] := by rintro rfl; exact hn hl.symm
  simp [this]

theorem ne_at {xs ys : List Int} {j : Nat} (hx : j < xs.length) (hy : j < ys.length) (h : xs[j] ≠ ys[j]) : xs ≠ ys := by
 rintro rfl; exact h rfl
theorem take_eq_succ {xs ys : List Int} {j : Nat} (hx : j < xs.length) (hy : j < ys.length) (h : xs.take j = ys.take j) (he : xs[j] = ys[j]) : xs.take (j + 1) = ys.take (j + 1) := by
 rw [List.take_succ_eq_append_getElem hx, List.take_succ_eq_append_getElem hy, h, he]

theorem drewN_more {w W : World} (h : ∃ q, W = w.drewN q) (k : Nat) : ∃ q, W.drewN k = w.drewN q := by
 obtain ⟨q, rfl⟩ := h; exact ⟨q + k, World.drewN_drewN _ _ _⟩
set_option maxHeartbeats 2000000 in
theorem equalI_any (A A' : Option Addr) (n c n' c' : Nat) (xs ys : List Int) (hn : n ≤ 10000000) (hn' : n' ≤ 10000000) (w : World) (hr : Reads w w.heap.size 1 A n (II xs)) (hr' : Reads w w.heap.size 1 A' n' (II ys)) :
  Calls Tryz.prog 251 #[.slice A n c, .slice A' n' c'] w fun e w' => e = .returned (.bool (decide (xs = ys))) ∧ ∃ q, w' = w.drewN q := by
 have hl : xs.length = n := by have := hr.1; rw [II_length] at this; omega
 have hl' : ys.length = n' := by have := hr'.1; rw [II_length] at this; omega
 by_cases hnn : n = n'
 ·subst hnn
  have Hr := Lib.hid (fun (W : World) (h : ∃ q, W = w.drewN q) => show Reads W w.heap.size 1 A n (II xs) by obtain ⟨q, rfl⟩ := h; exact hr.drewN q)
  have Hr' := Lib.hid (fun (W : World) (h : ∃ q, W = w.drewN q) => show Reads W w.heap.size 1 A' n (II ys) by obtain ⟨q, rfl⟩ := h; exact hr'.drewN q)
  have HL := Lib.hid hl
  have HL' := Lib.hid hl'
  clear hr hr' hl hl'
  go_enter Tryz.func251, Tryz.ntmps251
  go_wp2
  go_loopw [13] (fun i wr => ∃ (j : Nat), j ≤ n ∧ i = .int .i64 j ∧ Hid (xs.take j = ys.take j) ∧ Hid (∃ q, wr = w.drewN q))
   (fun i _ => n - (intOf i).toNat)
  case atStart => exact ⟨0, by omega, rfl, by simp [Hid], ⟨0, rfl⟩⟩
  case round =>
   obtain ⟨j, hj, rfl, hT, hW⟩ := hrel
   by_cases hlt : j < n
   ·obtain ⟨hx, ad, rfl, _, z0⟩ := reads_at (Hr.out _ hW.out) hlt
    obtain ⟨hy, ad', rfl, _, z1⟩ := reads_at (Hr'.out _ hW.out) hlt
    have q0 : (0 : Int) ≤ ↑j := by omega
    have q1 : (↑j : Int) < ↑n := by omega
    have Hne := Lib.hid (fun h => ne_at hx hy h)
    have Hst := Lib.hid (fun h => take_eq_succ hx hy hT.out h)
    obtain ⟨x, hx'⟩ : ∃ x, xs[j] = x := ⟨_, rfl⟩
    obtain ⟨y, hy'⟩ : ∃ y, ys[j] = y := ⟨_, rfl⟩
    rw [hx'] at z0
    rw [hy'] at z1
    simp only [hx', hy'] at Hne Hst
    clear hx' hy'
    by_cases he : x = y
    ·have he1 : (x != y) = false := by simp [he]
     have HT := Lib.hid (Hst.out he)
     clear he Hne Hst
     go_wp2_with fail
     go_quiet (fail)
     go_wp2
     go_roundw
     case rel => exact ⟨j + 1, by omega, by go_num, HT.out, drewN_more hW.out _⟩
     case measure => simp [intOf]; omega
    ·have he1 : (x != y) = true := by simp [he]
     have HT := Lib.hid (Hne.out he)
     clear he Hne Hst
     go_wp2_with fail
     go_quiet (fail)
     go_wp2
     go_ret
     exact ⟨ret_bool (by simp [HT.out]), drewN_more hW.out _⟩
   ·have hxy : xs = ys := by have := hT.out; rwa [List.take_of_length_le (by have := HL.out; omega), List.take_of_length_le (by have := HL'.out; omega)] at this
    have Hxy := Lib.hid hxy
    clear hxy
    go_wp2
    go_ret
    exact ⟨ret_bool (by simp [Hxy.out]), hW.out⟩
 ·have hne : ((n : Int) != (n' : Int)) = true := by rw [bne_iff_ne]; omega
  have hxy : xs ≠ ys := by rintro rfl; omega
  have Hxy := Lib.hid hxy
  clear hr hr' hxy hl hl'
  go_enter Tryz.func251, Tryz.ntmps251
  go_wp2
  go_ret
  exact ⟨ret_bool (by simp [Hxy.out]), 0, rfl⟩

set_option maxHeartbeats 2000000 in
theorem l14Same_any (A A' : Option Addr) (n c n' c' : Nat) (xs ys : List Int) (hn : n ≤ 10000000) (hn' : n' ≤ 10000000) (w : World) (hr : Reads w w.heap.size 1 A n (II xs)) (hr' : Reads w w.heap.size 1 A' n' (II ys)) :
  Calls Tryz.prog 287 #[.slice A n c, .slice A' n' c'] w fun e w' => e = .returned (.bool (decide (xs = ys))) ∧ ∃ q, w' = w.drewN q := by
 have hl : xs.length = n := by have := hr.1; rw [II_length] at this; omega
 have hl' : ys.length = n' := by have := hr'.1; rw [II_length] at this; omega
 by_cases hnn : n = n'
 ·subst hnn
  have Hr := Lib.hid (fun (W : World) (h : ∃ q, W = w.drewN q) => show Reads W w.heap.size 1 A n (II xs) by obtain ⟨q, rfl⟩ := h; exact hr.drewN q)
  have Hr' := Lib.hid (fun (W : World) (h : ∃ q, W = w.drewN q) => show Reads W w.heap.size 1 A' n (II ys) by obtain ⟨q, rfl⟩ := h; exact hr'.drewN q)
  have HL := Lib.hid hl
  have HL' := Lib.hid hl'
  clear hr hr' hl hl'
  go_enter Tryz.func287, Tryz.ntmps287
  go_wp2
  go_loopw [5] (fun i wr => ∃ (j : Nat), j ≤ n ∧ i = .int .i64 j ∧ Hid (xs.take j = ys.take j) ∧ Hid (∃ q, wr = w.drewN q))
   (fun i _ => n - (intOf i).toNat)
  case atStart => exact ⟨0, by omega, rfl, by simp [Hid], ⟨0, rfl⟩⟩
  case round =>
   obtain ⟨j, hj, rfl, hT, hW⟩ := hrel
   by_cases hlt : j < n
   ·obtain ⟨hx, ad, rfl, _, z0⟩ := reads_at (Hr.out _ hW.out) hlt
    obtain ⟨hy, ad', rfl, _, z1⟩ := reads_at (Hr'.out _ hW.out) hlt
    have q0 : (0 : Int) ≤ ↑j := by omega
    have q1 : (↑j : Int) < ↑n := by omega
    have Hne := Lib.hid (fun h => ne_at hx hy h)
    have Hst := Lib.hid (fun h => take_eq_succ hx hy hT.out h)
    obtain ⟨x, hx'⟩ : ∃ x, xs[j] = x := ⟨_, rfl⟩
    obtain ⟨y, hy'⟩ : ∃ y, ys[j] = y := ⟨_, rfl⟩
    rw [hx'] at z0
    rw [hy'] at z1
    simp only [hx', hy'] at Hne Hst
    clear hx' hy'
    by_cases he : x = y
    ·have he1 : (x != y) = false := by simp [he]
     have HT := Lib.hid (Hst.out he)
     clear he Hne Hst
     go_wp2_with fail
     go_quiet (fail)
     go_wp2
     go_roundw
     case rel => exact ⟨j + 1, by omega, by go_num, HT.out, drewN_more hW.out _⟩
     case measure => simp [intOf]; omega
    ·have he1 : (x != y) = true := by simp [he]
     have HT := Lib.hid (Hne.out he)
     clear he Hne Hst
     go_wp2_with fail
     go_quiet (fail)
     go_wp2
     go_ret
     exact ⟨ret_bool (by simp [HT.out]), drewN_more hW.out _⟩
   ·have hxy : xs = ys := by have := hT.out; rwa [List.take_of_length_le (by have := HL.out; omega), List.take_of_length_le (by have := HL'.out; omega)] at this
    have Hxy := Lib.hid hxy
    clear hxy
    go_wp2
    go_ret
    exact ⟨ret_bool (by simp [Hxy.out]), hW.out⟩
 ·have hne : ((n : Int) != (n' : Int)) = true := by rw [bne_iff_ne]; omega
  have hxy : xs ≠ ys := by rintro rfl; omega
  have Hxy := Lib.hid hxy
  clear hr hr' hxy hl hl'
  go_enter Tryz.func287, Tryz.ntmps287
  go_wp2
  go_ret
  exact ⟨ret_bool (by simp [Hxy.out]), 0, rfl⟩

theorem fit_star0 {p : List Int} {ns : List (List Int)} {fr T : List Bool} {k : Nat} (hp : p = [42]) (h : fr.getD k false = true) : fitAt p ns fr T k = true := by unfold fitAt; rw [if_pos hp, h]; rfl
theorem fit_star1 {p : List Int} {ns : List (List Int)} {fr T : List Bool} {k : Nat} (hp : p = [42]) (h : fr.getD k false = false) (hk : k = 0) : fitAt p ns fr T k = false := by unfold fitAt; rw [if_pos hp, h]; simp [hk]
theorem fit_star2 {p : List Int} {ns : List (List Int)} {fr T : List Bool} {k : Nat} (hp : p = [42]) (h : fr.getD k false = false) (hk : 0 < k) : fitAt p ns fr T k = T.getD (k - 1) false := by unfold fitAt; rw [if_pos hp, h]; simp [hk]
theorem fit_zero {p : List Int} {ns : List (List Int)} {fr T : List Bool} {k : Nat} (hp : p ≠ [42]) (hk : k = 0) : fitAt p ns fr T k = false := by unfold fitAt; rw [if_neg hp]; simp [hk]
theorem fit_yes {p : List Int} {ns : List (List Int)} {fr T : List Bool} {k : Nat} (hp : p ≠ [42]) (hk : 0 < k) (h : p = [63] ∨ p = ns.getD (k - 1) []) : fitAt p ns fr T k = fr.getD (k - 1) false := by
 unfold fitAt; rw [if_neg hp]
 rcases h with h | h
 ·simp [hk, h]
 ·rw [decide_eq_true h]; simp [hk]
theorem fit_no {p : List Int} {ns : List (List Int)} {fr T : List Bool} {k : Nat} (hp : p ≠ [42]) (h1 : p ≠ [63]) (h2 : p ≠ ns.getD (k - 1) []) : fitAt p ns fr T k = false := by
 unfold fitAt; rw [if_neg hp]; simp [h1, -List.getD_eq_getElem?_getD, h2]

set_option maxRecDepth 100000 in
set_option maxHeartbeats 8000000 in
theorem fits_impl (A A2 : Option Addr) (m c n c2 : Nat) (ps ns : List (List Int)) (hm : m ≤ 10000000) (hn : n ≤ 10000000) (hus : ∀ u ∈ ps, u.length ≤ 10000000) (hvs : ∀ u ∈ ns, u.length ≤ 10000000) (w : World) (hp : LAt w w.heap.size A m ps) (hq : LAt w w.heap.size A2 n ns) :
  Calls Tryz.prog 184 #[.slice A m c, .slice A2 n c2] w fun e w' => e = .returned (.bool (fitB ps ns)) ∧ Below w.heap.size w w' := by
 have hlm := hp.len
 have hln := hq.len
 have HLM := Lib.hid hlm
 have HLN := Lib.hid hln
 have HP := Lib.hid hp
 have HQ := Lib.hid hq
 have Hus := Lib.hid hus
 have Hvs := Lib.hid hvs
 clear hp hq hus hvs hlm hln
 obtain ⟨N, hN⟩ : ∃ N, n + 1 = N := ⟨_, rfl⟩
 have HN := Lib.hid hN
 have hmk := run_make_any (P := Tryz.prog) 119 4 (.bool false) 1 1 Tryz.underlying119 (by kernel_rfl) N (by omega) (by omega)
 rw [show ((N : Nat) : Int) = (n : Int) + 1 by omega] at hmk
 have hNn : n < N := by omega
 have hNb : N ≤ 10000001 := by omega
 have hN0 : 0 < N := by omega
 have hbb : (madeCells (Value.bool false).cells (N * 1)).toList = BB (List.replicate N false) := BB_made N
 have hms : (madeCells (Value.bool false).cells (N * 1)).size = N := by rw [size_madeCells]; simp
 obtain ⟨M, hM⟩ : ∃ M, madeCells (Value.bool false).cells (N * 1) = M := ⟨_, rfl⟩
 have Hown := Lib.hid (fun W => own_made W (Value.bool false).cells 4 N 1 (by unfold maxLen; omega))
 simp only [hM] at hmk hbb Hown hms
 have HMs := Lib.hid hms
 have HMl := Lib.hid hbb
 simp only [hbb] at Hown
 clear hM hbb hN hms
 have own0 := Hown.out w
 have e0 : (w.alloc (.cells M 4)).cell? ⟨w.heap.size, 0, none⟩ = some (.bool false) := own_bool (l := List.replicate N false) own0 (by rw [List.getElem?_replicate, if_pos hN0])
 have f0 := own_frozen own0 0
 have q00 : (0 : Int) < ↑N := by omega
 go_enter Tryz.func184, Tryz.ntmps184
 go_wp2
 go_loopw [5, 18] (fun x i wr => ∃ (j : Nat) (g : Nat) (fr : List Bool), j ≤ m ∧ i = .int .i64 j ∧ x = .slice (some ⟨g, 0, none⟩) N N ∧ Hid (fr = fitL (ps.take j) ns) ∧ fr.length = N ∧ wr.ownsRow w.heap.size 4 1 (.slice (some ⟨g, 0, none⟩) N N) N (BB fr) ∧ Below w.heap.size w wr)
  (fun _ i _ => m - (intOf i).toNat)
 case atStart =>
  refine ⟨0, _, true :: List.replicate n false, by omega, rfl, rfl, ?_, by simp; exact HN.out, ?_, belA (bel0 w) _⟩
  ·show _ = _
   rw [List.take_zero]; unfold fitL; rw [HLN.out]; rfl
  ·have h := World.ownsRow_lit (e := 4) (size := 1) w (M.setIfInBounds 0 (.bool true)) N (Nat.le_refl _) (by unfold maxLen; omega) (by rw [Array.size_setIfInBounds, HMs.out]; simp)
   rw [Array.toList_setIfInBounds, HMl.out, BB_set, ← HN.out, List.replicate_succ] at h
   rw [← HN.out]
   exact h
 case round =>
  obtain ⟨j, g, fr, hj, rfl, rfl, hfr, hfl, hown, hbel⟩ := hrel
  have hsz := hbel.size
  clear own0 e0 f0
  by_cases hlt : j < m
  ·obtain ⟨hjx, b, o, A', c', rfl, hbb, y0, hru⟩ := (HP.out.next hbel).at_ hlt
   have q0 : (0 : Int) ≤ ↑j := by omega
   have q1 : (↑j : Int) < ↑m := by omega
   have Hsn := Lib.hid (fitL_snoc (ns := ns) hjx)
   have hpl := Hus.out _ (List.getElem_mem hjx)
   obtain ⟨p, hp⟩ : ∃ p, ps[j] = p := ⟨_, rfl⟩
   rw [hp] at y0 hru Hsn hpl
   obtain ⟨pl, hpl'⟩ : ∃ pl, p.length = pl := ⟨_, rfl⟩
   rw [hpl'] at y0 hru hpl
   clear hp hpl'
   have Hru := Lib.hid (fun W (h : Below wr.heap.size wr W) => (hru.below h).more h.size)
   have HFr := Lib.hid (fun W (h : Below wr.heap.size wr W) => own_below hown h (Nat.le_refl _))
   have HQr := Lib.hid (fun W (h : Below wr.heap.size wr W) => HQ.out.next (belN hbel h))
   have own1 := Hown.out wr
   have HF := Lib.hid hfr
   rw [← hfr.out, HLN.out, HN.out] at Hsn
   clear hru hown
   go_wp2
   go_loopw [28] (fun i wi => ∃ (k : Nat), k ≤ N ∧ i = .int .i64 k ∧ wi.ownsRow wr.heap.size 4 1 (.slice (some ⟨wr.heap.size, 0, none⟩) N N) N (BB (fitTo p ns fr k ++ List.replicate (N - k) false)) ∧ Below wr.heap.size wr wi)
    (fun i _ => N - (intOf i).toNat)
   case atStart => exact ⟨0, by omega, rfl, own1, belA (bel0 wr) _⟩
   case round =>
    obtain ⟨k, hk, rfl, own, hbi⟩ := hrel
    rename World => wi
    by_cases hkl : k < N
    ·have hT := fitTo_len p ns fr k
     have q2 : (0 : Int) ≤ ↑k := by omega
     have q3 : (↑k : Int) < ↑N := by omega
     have hcur : (fitTo p ns fr k ++ List.replicate (N - k) false)[k]? = some false := by
      rw [List.getElem?_append_right (by omega), List.getElem?_replicate, if_pos (by omega)]
     have e1 := own_bool own hcur
     have f1 := own_frozen own k
     have l1 := (own_lt own).2
     have ownF := HFr.out wi hbi
     have e2 := own_bool ownF (getD_some (T := fr) (j := k) (by omega))
     have hset : ∀ b, fitAt p ns fr (fitTo p ns fr k) k = b → (wi.setCell ⟨wr.heap.size, k, none⟩ (.bool b)).ownsRow wr.heap.size 4 1 (.slice (some ⟨wr.heap.size, 0, none⟩) N N) N (BB (fitTo p ns fr (k + 1) ++ List.replicate (N - (k + 1)) false)) := fun b hb => by
      have h := own_set own k (.bool b)
      rw [pad_set hT hkl] at h
      rw [fitTo, hb]
      exact h
     have hsame : fitAt p ns fr (fitTo p ns fr k) k = false → wi.ownsRow wr.heap.size 4 1 (.slice (some ⟨wr.heap.size, 0, none⟩) N N) N (BB (fitTo p ns fr (k + 1) ++ List.replicate (N - (k + 1)) false)) := fun hb => by
      rw [fitTo, hb, ← pad_same hkl]; exact own
     have Hset := Lib.hid hset
     have Hsame := Lib.hid hsame
     have Hown2 := Lib.hid own
     have HownF := Lib.hid ownF
     clear hset hsame hcur own ownF
     by_cases hs : p = [42]
     ·have hsd : decide (p = [42]) = true := by simpa using hs
      have HS0 := Lib.hid (fun h => fit_star0 (ns := ns) (fr := fr) (T := fitTo p ns fr k) (k := k) hs h)
      have HS1 := Lib.hid (fun h h2 => fit_star1 (ns := ns) (fr := fr) (T := fitTo p ns fr k) (k := k) hs h h2)
      have HS2 := Lib.hid (fun h h2 => fit_star2 (ns := ns) (fr := fr) (T := fitTo p ns fr k) (k := k) hs h h2)
      clear hs
      rcases h0 : fr.getD k false with _ | _
      ·rw [h0] at e2
       by_cases hk0 : k = 0
       ·have hkn : ¬ (0 : Int) < ↑k := by omega
        have Hf := Lib.hid (Hset.out _ (HS1.out h0 hk0))
        clear hk0 h0 HS0 HS1 HS2
        go_wp2_with (go_at_call 250; refine (isOnly_any A' pl c' p _ _ (Hru.out wi hbi)).mono ?_; rintro e w' ⟨rfl, rfl⟩)
        go_roundw
        case rel => exact ⟨k + 1, by omega, by go_num, Hf.out, belC hbi _ _ (Nat.le_refl _) _⟩
        case measure => simp [intOf]; omega
       ·have hkp : (0 : Int) < ↑k := by omega
        have Hf := Lib.hid (Hset.out _ (HS2.out h0 (by omega)))
        obtain ⟨K, hK⟩ : ∃ K, k - 1 = K := ⟨_, rfl⟩
        have hw : IntKind.i64.wrap ((k : Int) - 1) = (K : Int) := by rw [IntWalk.i64_in _ (by omega)]; omega
        have q4 : (0 : Int) ≤ ↑K := by omega
        have q5 : (↑K : Int) < ↑N := by omega
        have e3 := own_bool Hown2.out (k := K) (b := (fitTo p ns fr k).getD K false) (by rw [List.getElem?_append_left (by rw [hT]; omega)]; exact getD_some (by rw [hT]; omega))
        rw [hK] at Hf
        obtain ⟨bz, hbz⟩ : ∃ b, (fitTo p ns fr k).getD K false = b := ⟨_, rfl⟩
        rw [hbz] at e3 Hf
        clear hbz
        clear hk0 h0 HS0 HS1 HS2 hK
        go_wp2_with (go_at_call 250; refine (isOnly_any A' pl c' p _ _ (Hru.out wi hbi)).mono ?_; rintro e w' ⟨rfl, rfl⟩)
        go_roundw
        case rel => exact ⟨k + 1, by omega, by go_num, Hf.out, belC hbi _ _ (Nat.le_refl _) _⟩
        case measure => simp [intOf]; omega
      ·rw [h0] at e2
       have Hf := Lib.hid (Hset.out _ (HS0.out h0))
       clear h0 HS0 HS1 HS2
       go_wp2_with (go_at_call 250; refine (isOnly_any A' pl c' p _ _ (Hru.out wi hbi)).mono ?_; rintro e w' ⟨rfl, rfl⟩)
       go_roundw
       case rel => exact ⟨k + 1, by omega, by go_num, Hf.out, belC hbi _ _ (Nat.le_refl _) _⟩
       case measure => simp [intOf]; omega
     ·have hsd : decide (p = [42]) = false := by simpa using hs
      by_cases hk0 : k = 0
      ·have hkn : ¬ (0 : Int) < ↑k := by omega
       have Hf := Lib.hid (Hsame.out (fit_zero hs hk0))
       clear hk0 hs
       go_wp2_with (go_at_call 250; refine (isOnly_any A' pl c' p _ _ (Hru.out wi hbi)).mono ?_; rintro e w' ⟨rfl, rfl⟩)
       go_roundw
       case rel => exact ⟨k + 1, by omega, by go_num, Hf.out, hbi⟩
       case measure => simp [intOf]; omega
      ·have hkp : (0 : Int) < ↑k := by omega
       have hk1 : 0 < k := by omega
       have Hyes := Lib.hid (fun h => Hset.out _ (fit_yes (ns := ns) (fr := fr) (T := fitTo p ns fr k) hs hk1 h))
       have Hno := Lib.hid (fun h h2 => Hsame.out (fit_no (ns := ns) (fr := fr) (T := fitTo p ns fr k) hs h h2))
       obtain ⟨K, hK⟩ : ∃ K, k - 1 = K := ⟨_, rfl⟩
       have hw : IntKind.i64.wrap ((k : Int) - 1) = (K : Int) := by rw [IntWalk.i64_in _ (by omega)]; omega
       have q4 : (0 : Int) ≤ ↑K := by omega
       have q5 : (↑K : Int) < ↑N := by omega
       have q6 : (↑K : Int) < ↑n := by have := HN.out; omega
       have e3 := own_bool HownF.out (k := K) (getD_some (T := fr) (j := K) (by omega))
       simp only [hK] at Hyes Hno
       obtain ⟨bz, hbz⟩ : ∃ b, fr.getD K false = b := ⟨_, rfl⟩
       rw [hbz] at e3
       simp only [hbz] at Hyes
       clear hbz
       clear hk0 hs
       by_cases hq : p = [63]
       ·have hqd : decide (p = [63]) = true := by simpa using hq
        have Hf := Lib.hid (Hyes.out (.inl hq))
        clear hq Hyes Hno hK
        go_wp2_with (go_at_call 250; refine (isOnly_any A' pl c' p _ _ (Hru.out wi hbi)).mono ?_; rintro e w' ⟨rfl, rfl⟩)
        go_roundw
        case rel => exact ⟨k + 1, by omega, by go_num, Hf.out, belC hbi _ _ (Nat.le_refl _) _⟩
        case measure => simp [intOf]; omega
       ·have hqd : decide (p = [63]) = false := by simpa using hq
        have Hyes2 := Lib.hid (fun h => Hyes.out (.inr h))
        have Hno2 := Lib.hid (fun h => Hno.out hq h)
        clear hq Hyes Hno
        obtain ⟨hKx, b2, o2, A3, c3, hA3, _, y2, hr3⟩ := (HQr.out wi hbi).at_ (k := K) (by have := HN.out; omega)
        subst hA3
        have hvl := Hvs.out _ (List.getElem_mem hKx)
        have hge : ns.getD K [] = ns[K] := by simp [List.getD, hKx]
        simp only [hge] at Hyes2 Hno2
        obtain ⟨u, hu⟩ : ∃ u, ns[K] = u := ⟨_, rfl⟩
        simp only [hu] at Hyes2 Hno2 y2 hr3 hvl
        obtain ⟨ul, hul⟩ : ∃ l, u.length = l := ⟨_, rfl⟩
        rw [hul] at y2 hr3 hvl
        have Hr3 := Lib.hid hr3
        clear hge hu hul hK hr3
        by_cases he : p = u
        ·have hed : decide (p = u) = true := by simpa using he
         have Hf := Lib.hid (Hyes2.out he)
         clear he Hyes2 Hno2
         go_wp2_with (first
          | (go_at_call 250; refine (isOnly_any A' pl c' p _ _ (Hru.out wi hbi)).mono ?_; rintro e w' ⟨rfl, rfl⟩)
          | (go_at_call 251; refine (equalI_any A' A3 pl c' ul c3 p u hpl hvl _ (Hru.out wi hbi) Hr3.out).mono ?_; rintro e w' ⟨rfl, nq, rfl⟩))
         go_roundw
         case rel => exact ⟨k + 1, by omega, by go_num, Hf.out, belC (below_drewN hbi nq) _ _ (Nat.le_refl _) _⟩
         case measure => simp [intOf]; omega
        ·have hed : decide (p = u) = false := by simpa using he
         have Hf := Lib.hid (Hno2.out he)
         clear he Hyes2 Hno2
         go_wp2_with (first
          | (go_at_call 250; refine (isOnly_any A' pl c' p _ _ (Hru.out wi hbi)).mono ?_; rintro e w' ⟨rfl, rfl⟩)
          | (go_at_call 251; refine (equalI_any A' A3 pl c' ul c3 p u hpl hvl _ (Hru.out wi hbi) Hr3.out).mono ?_; rintro e w' ⟨rfl, nq, rfl⟩))
         go_roundw
         case rel => exact ⟨k + 1, by omega, by go_num, Hf.out, below_drewN hbi nq⟩
         case measure => simp [intOf]; omega
    ·obtain rfl : k = N := by omega
     rw [Nat.sub_self, List.replicate_zero, List.append_nil, ← Hsn.out] at own
     have Own := Lib.hid own
     clear own
     go_wp2
     go_roundw
     case rel => exact ⟨j + 1, _, fitL (ps.take (j + 1)) ns, by omega, by go_num, rfl, rfl, by rw [fitL_len, HLN.out]; exact HN.out, own_less Own.out hsz, belN hbel hbi⟩
     case measure => simp [intOf]; omega
  ·obtain rfl : j = m := by omega
   have e2 := own_bool hown (getD_some (T := fr) (j := n) (by omega))
   have q2 : (0 : Int) ≤ ↑n := by omega
   have q3 : (↑n : Int) < ↑N := by omega
   have Hres := Lib.hid (show fr.getD n false = fitB ps ns by rw [hfr.out, List.take_of_length_le (by have := HLM.out; omega)]; unfold fitB; rw [HLN.out])
   obtain ⟨bz, hbz⟩ : ∃ b, fr.getD n false = b := ⟨_, rfl⟩
   rw [hbz] at e2 Hres
   clear hown hbz
   go_wp2
   go_ret
   exact ⟨ret_bool (by rw [← Hres.out]), hbel⟩

theorem fit_can {p : List Int} {ns : List (List Int)} {fr T : List Bool} {k : Nat} (hp : p ≠ [42]) (h : fr.getD (k - 1) false = false) : fitAt p ns fr T k = false := by
 unfold fitAt; rw [if_neg hp, h]; simp

set_option maxRecDepth 100000 in
set_option maxHeartbeats 8000000 in
theorem fits_spec (A A2 : Option Addr) (m c n c2 : Nat) (ps ns : List (List Int)) (hm : m ≤ 10000000) (hn : n ≤ 10000000) (hus : ∀ u ∈ ps, u.length ≤ 10000000) (hvs : ∀ u ∈ ns, u.length ≤ 10000000) (w : World) (hp : LAt w w.heap.size A m ps) (hq : LAt w w.heap.size A2 n ns) :
  Calls Tryz.prog 246 #[.slice A m c, .slice A2 n c2] w fun e w' => e = .returned (.bool (fitB ps ns)) ∧ Below w.heap.size w w' := by
 have hlm := hp.len
 have hln := hq.len
 have HLM := Lib.hid hlm
 have HLN := Lib.hid hln
 have HP := Lib.hid hp
 have HQ := Lib.hid hq
 have Hus := Lib.hid hus
 have Hvs := Lib.hid hvs
 clear hp hq hus hvs hlm hln
 obtain ⟨N, hN⟩ : ∃ N, n + 1 = N := ⟨_, rfl⟩
 have HN := Lib.hid hN
 have hmk := run_make_any (P := Tryz.prog) 119 4 (.bool false) 1 1 Tryz.underlying119 (by kernel_rfl) N (by omega) (by omega)
 rw [show ((N : Nat) : Int) = (n : Int) + 1 by omega] at hmk
 have hNn : n < N := by omega
 have hNb : N ≤ 10000001 := by omega
 have hN0 : 0 < N := by omega
 have hbb : (madeCells (Value.bool false).cells (N * 1)).toList = BB (List.replicate N false) := BB_made N
 have hms : (madeCells (Value.bool false).cells (N * 1)).size = N := by rw [size_madeCells]; simp
 obtain ⟨M, hM⟩ : ∃ M, madeCells (Value.bool false).cells (N * 1) = M := ⟨_, rfl⟩
 have Hown := Lib.hid (fun W => own_made W (Value.bool false).cells 4 N 1 (by unfold maxLen; omega))
 simp only [hM] at hmk hbb Hown hms
 have HMs := Lib.hid hms
 have HMl := Lib.hid hbb
 simp only [hbb] at Hown
 clear hM hbb hN hms
 have own0 := Hown.out w
 have e0 : (w.alloc (.cells M 4)).cell? ⟨w.heap.size, 0, none⟩ = some (.bool false) := own_bool (l := List.replicate N false) own0 (by rw [List.getElem?_replicate, if_pos hN0])
 have f0 := own_frozen own0 0
 have q00 : (0 : Int) < ↑N := by omega
 go_enter Tryz.func246, Tryz.ntmps246
 go_wp2
 go_loopw [5, 6] (fun x i wr => ∃ (j : Nat) (g : Nat) (fr : List Bool), j ≤ m ∧ i = .int .i64 j ∧ x = .slice (some ⟨g, 0, none⟩) N N ∧ Hid (fr = fitL (ps.take j) ns) ∧ fr.length = N ∧ wr.ownsRow w.heap.size 4 1 (.slice (some ⟨g, 0, none⟩) N N) N (BB fr) ∧ Below w.heap.size w wr)
  (fun _ i _ => m - (intOf i).toNat)
 case atStart =>
  refine ⟨0, _, true :: List.replicate n false, by omega, rfl, rfl, ?_, by simp; exact HN.out, ?_, belA (bel0 w) _⟩
  ·show _ = _
   rw [List.take_zero]; unfold fitL; rw [HLN.out]; rfl
  ·have h := World.ownsRow_lit (e := 4) (size := 1) w (M.setIfInBounds 0 (.bool true)) N (Nat.le_refl _) (by unfold maxLen; omega) (by rw [Array.size_setIfInBounds, HMs.out]; simp)
   rw [Array.toList_setIfInBounds, HMl.out, BB_set, ← HN.out, List.replicate_succ] at h
   rw [← HN.out]
   exact h
 case round =>
  obtain ⟨j, g, fr, hj, rfl, rfl, hfr, hfl, hown, hbel⟩ := hrel
  have hsz := hbel.size
  clear own0 e0 f0
  by_cases hlt : j < m
  ·obtain ⟨hjx, b, o, A', c', rfl, hbb, y0, hru⟩ := (HP.out.next hbel).at_ hlt
   have q0 : (0 : Int) ≤ ↑j := by omega
   have q1 : (↑j : Int) < ↑m := by omega
   have Hsn := Lib.hid (fitL_snoc (ns := ns) hjx)
   have hpl := Hus.out _ (List.getElem_mem hjx)
   obtain ⟨p, hp⟩ : ∃ p, ps[j] = p := ⟨_, rfl⟩
   rw [hp] at y0 hru Hsn hpl
   obtain ⟨pl, hpl'⟩ : ∃ pl, p.length = pl := ⟨_, rfl⟩
   rw [hpl'] at y0 hru hpl
   clear hp hpl'
   have Y0 := Lib.hid y0
   have hbl : b < wr.heap.size := hbb
   have Hru := Lib.hid (fun W (h : Below wr.heap.size wr W) => (hru.below h).more h.size)
   have HFr := Lib.hid (fun W (h : Below wr.heap.size wr W) => own_below hown h (Nat.le_refl _))
   have HQr := Lib.hid (fun W (h : Below wr.heap.size wr W) => HQ.out.next (belN hbel h))
   have own1 := Hown.out wr
   have HF := Lib.hid hfr
   rw [← hfr.out, HLN.out, HN.out] at Hsn
   have Hgr := Lib.hid (own_lt hown).2
   clear hru hown y0
   go_wp2
   go_loopw [8] (fun i wi => ∃ (k : Nat), k ≤ N ∧ i = .int .i64 k ∧ wi.ownsRow wr.heap.size 4 1 (.slice (some ⟨wr.heap.size, 0, none⟩) N N) N (BB (fitTo p ns fr k ++ List.replicate (N - k) false)) ∧ Below wr.heap.size wr wi)
    (fun i _ => N - (intOf i).toNat)
   case atStart => exact ⟨0, by omega, rfl, own1, belA (bel0 wr) _⟩
   case round =>
    obtain ⟨k, hk, rfl, own, hbi⟩ := hrel
    rename World => wi
    by_cases hkl : k < N
    ·have hT := fitTo_len p ns fr k
     have q2 : (0 : Int) ≤ ↑k := by omega
     have q3 : (↑k : Int) < ↑N := by omega
     have q7 : (↑k : Int) ≤ ↑n := by have := HN.out; omega
     have y0 := keep1 hbi Y0.out (Nat.le_refl _)
     have hcur : (fitTo p ns fr k ++ List.replicate (N - k) false)[k]? = some false := by
      rw [List.getElem?_append_right (by omega), List.getElem?_replicate, if_pos (by omega)]
     have e1 := own_bool own hcur
     have f1 := own_frozen own k
     have l1 := (own_lt own).2
     have ownF := HFr.out wi hbi
     have e2 := own_bool ownF (getD_some (T := fr) (j := k) (by omega))
     have hset : ∀ b, fitAt p ns fr (fitTo p ns fr k) k = b → (wi.setCell ⟨wr.heap.size, k, none⟩ (.bool b)).ownsRow wr.heap.size 4 1 (.slice (some ⟨wr.heap.size, 0, none⟩) N N) N (BB (fitTo p ns fr (k + 1) ++ List.replicate (N - (k + 1)) false)) := fun b hb => by
      have h := own_set own k (.bool b)
      rw [pad_set hT hkl] at h
      rw [fitTo, hb]
      exact h
     have hsame : fitAt p ns fr (fitTo p ns fr k) k = false → wi.ownsRow wr.heap.size 4 1 (.slice (some ⟨wr.heap.size, 0, none⟩) N N) N (BB (fitTo p ns fr (k + 1) ++ List.replicate (N - (k + 1)) false)) := fun hb => by
      rw [fitTo, hb, ← pad_same hkl]; exact own
     have HsetB := Lib.hid (fun (W : World) (hW : Below wi.heap.size wi W) b (hb : fitAt p ns fr (fitTo p ns fr k) k = b) => show (W.setCell ⟨wr.heap.size, k, none⟩ (.bool b)).ownsRow wr.heap.size 4 1 (.slice (some ⟨wr.heap.size, 0, none⟩) N N) N (BB (fitTo p ns fr (k + 1) ++ List.replicate (N - (k + 1)) false)) by
      have h := own_set (own_below own hW (Nat.le_refl _)) k (.bool b)
      rw [pad_set hT hkl] at h
      rw [fitTo, hb]
      exact h)
     have Hset := Lib.hid hset
     have Hsame := Lib.hid hsame
     have Hown2 := Lib.hid own
     have HownF := Lib.hid ownF
     clear hset hsame own ownF
     by_cases hs : p = [42]
     ·have hsd : decide (p = [42]) = true := by simpa using hs
      have HS0 := Lib.hid (fun h => fit_star0 (ns := ns) (fr := fr) (T := fitTo p ns fr k) (k := k) hs h)
      have HS1 := Lib.hid (fun h h2 => fit_star1 (ns := ns) (fr := fr) (T := fitTo p ns fr k) (k := k) hs h h2)
      have HS2 := Lib.hid (fun h h2 => fit_star2 (ns := ns) (fr := fr) (T := fitTo p ns fr k) (k := k) hs h h2)
      clear hs
      rcases h0 : fr.getD k false with _ | _
      ·rw [h0] at e2
       by_cases hk0 : k = 0
       ·have hkn : ¬ (0 : Int) < ↑k := by omega
        have Hf := Lib.hid (Hset.out _ (HS1.out h0 hk0))
        clear hk0 h0 HS0 HS1 HS2
        go_wp2_with (go_at_call 286; refine (l14Is_any A' pl c' p _ _ (Hru.out wi hbi)).mono ?_; rintro e w' ⟨rfl, rfl⟩)
        go_roundw
        case rel => exact ⟨k + 1, by omega, by go_num, Hf.out, belC hbi _ _ (Nat.le_refl _) _⟩
        case measure => simp [intOf]; omega
       ·have hkp : (0 : Int) < ↑k := by omega
        have Hf := Lib.hid (Hset.out _ (HS2.out h0 (by omega)))
        obtain ⟨K, hK⟩ : ∃ K, k - 1 = K := ⟨_, rfl⟩
        have hw : IntKind.i64.wrap ((k : Int) - 1) = (K : Int) := by rw [IntWalk.i64_in _ (by omega)]; omega
        have q4 : (0 : Int) ≤ ↑K := by omega
        have q5 : (↑K : Int) < ↑N := by omega
        have e3 := own_bool Hown2.out (k := K) (b := (fitTo p ns fr k).getD K false) (by rw [List.getElem?_append_left (by rw [hT]; omega)]; exact getD_some (by rw [hT]; omega))
        rw [hK] at Hf
        obtain ⟨bz, hbz⟩ : ∃ b, (fitTo p ns fr k).getD K false = b := ⟨_, rfl⟩
        rw [hbz] at e3 Hf
        clear hbz
        clear hk0 h0 HS0 HS1 HS2 hK
        go_wp2_with (go_at_call 286; refine (l14Is_any A' pl c' p _ _ (Hru.out wi hbi)).mono ?_; rintro e w' ⟨rfl, rfl⟩)
        go_roundw
        case rel => exact ⟨k + 1, by omega, by go_num, Hf.out, belC hbi _ _ (Nat.le_refl _) _⟩
        case measure => simp [intOf]; omega
      ·rw [h0] at e2
       have Hf := Lib.hid (Hset.out _ (HS0.out h0))
       clear h0 HS0 HS1 HS2
       go_wp2_with (go_at_call 286; refine (l14Is_any A' pl c' p _ _ (Hru.out wi hbi)).mono ?_; rintro e w' ⟨rfl, rfl⟩)
       go_roundw
       case rel => exact ⟨k + 1, by omega, by go_num, Hf.out, belC hbi _ _ (Nat.le_refl _) _⟩
       case measure => simp [intOf]; omega
     ·have hsd : decide (p = [42]) = false := by simpa using hs
      by_cases hk0 : k = 0
      ·have hkn : ¬ (0 : Int) < ↑k := by omega
       have Hf := Lib.hid (Hsame.out (fit_zero hs hk0))
       clear hk0 hs
       go_wp2_with (go_at_call 286; refine (l14Is_any A' pl c' p _ _ (Hru.out wi hbi)).mono ?_; rintro e w' ⟨rfl, rfl⟩)
       go_roundw
       case rel => exact ⟨k + 1, by omega, by go_num, Hf.out, hbi⟩
       case measure => simp [intOf]; omega
      ·have hkp : (0 : Int) < ↑k := by omega
       have hk1 : 0 < k := by omega
       obtain ⟨K, hK⟩ : ∃ K, k - 1 = K := ⟨_, rfl⟩
       have hw : IntKind.i64.wrap ((k : Int) - 1) = (K : Int) := by rw [IntWalk.i64_in _ (by omega)]; omega
       have q4 : (0 : Int) ≤ ↑K := by omega
       have q5 : (↑K : Int) < ↑N := by omega
       have q6 : (↑K : Int) < ↑n := by have := HN.out; omega
       have hgl := (own_lt HownF.out).2
       have hgr := Hgr.out
       have e3 := own_bool HownF.out (k := K) (getD_some (T := fr) (j := K) (by omega))
       have Hyes := Lib.hid (fun h => fit_yes (ns := ns) (fr := fr) (T := fitTo p ns fr k) (k := k) hs hk1 h)
       have Hno := Lib.hid (fun (h : p ≠ [63]) (h2 : p ≠ ns.getD (k - 1) []) => fit_no (ns := ns) (fr := fr) (T := fitTo p ns fr k) (k := k) hs h h2)
       have Hfalse := Lib.hid (fun h => fit_can (ns := ns) (fr := fr) (T := fitTo p ns fr k) (k := k) hs h)
       simp only [hK] at Hyes Hno Hfalse
       clear hk0 hs
       rcases hbz : fr.getD K false with _ | _
       ·rw [hbz] at e3
        have Hv := Lib.hid (Hfalse.out hbz)
        clear Hyes Hno Hfalse hbz
        go_wp2_with (go_at_call 286; refine (l14Is_any A' pl c' p _ _ (Hru.out wi hbi)).mono ?_; rintro e w' ⟨rfl, rfl⟩)
        refine wp_region_held_drew (S := fun w' => w'.cell? ⟨g, K, none⟩ = some (.bool false) ∧ w'.cell? ⟨b, o + j, none⟩ = some (.slice A' pl c')) (by kernel_rfl) (by exact ⟨e3, y0⟩) (fun hHeld => ?_)
        refine foldH ?_
        intro r0 hr0
        have bw0 : Below wi.heap.size wi r0 := by rw [hr0]; exact (bel0 wi).drew
        clear hr0 hHeld
        refine wpAnyH_take (i := 0) (oi := ?oi101) (v := ?v101) ?hi101 ?hs101 ?hf101 ?hr101 ?hQ101 ?hy101 ?hS101 ?hrest101
        case hi101 => (conv => lhs; simp only [List.getElem?_toArray, List.getElem?_cons_zero]); try exact rfl
        case hs101 => kernel_rfl
        case hf101 => kernel_rfl
        case hr101 => kernel_rfl
        case hQ101 => exact fun _ _ _ h => h
        case hS101 => exact ⟨keep1 (bw0) e3 (Nat.le_refl _), keep1 (bw0) y0 (Nat.le_refl _)⟩
        case hy101 => refine Or.inl ⟨by rfl, ?_⟩; intro w hSw; (try dsimp only at hSw); go_simp; (try with_reducible rfl)
        simp only [Act.put, List.setIfInBounds_toArray, List.set_cons_zero, List.set_cons_succ]
        refine wpAnyH_take (i := 1) (oi := ?oi102) (v := ?v102) ?hi102 ?hs102 ?hf102 ?hr102 ?hQ102 ?hy102 ?hS102 ?hrest102
        case hi102 => (conv => lhs; simp only [List.getElem?_toArray, List.getElem?_cons_zero, List.getElem?_cons_succ]); try exact rfl
        case hs102 => kernel_rfl
        case hf102 => kernel_rfl
        case hr102 => kernel_rfl
        case hQ102 => exact fun _ _ _ h => h
        case hS102 => exact ⟨keep1 (bw0) e3 (Nat.le_refl _), keep1 (bw0) y0 (Nat.le_refl _)⟩
        case hy102 => refine Or.inl ⟨by rfl, ?_⟩; intro w hSw; (try dsimp only at hSw); go_simp; (try with_reducible rfl)
        simp only [Act.put, List.setIfInBounds_toArray, List.set_cons_zero, List.set_cons_succ]
        refine wpAnyH_take (i := 2) (oi := ?oi103) (v := ?v103) ?hi103 ?hs103 ?hf103 ?hr103 ?hQ103 ?hy103 ?hS103 ?hrest103
        case hi103 => (conv => lhs; simp only [List.getElem?_toArray, List.getElem?_cons_zero, List.getElem?_cons_succ]); try exact rfl
        case hs103 => kernel_rfl
        case hf103 => kernel_rfl
        case hr103 => kernel_rfl
        case hQ103 => exact fun _ _ _ h => h
        case hS103 => exact ⟨keep1 (bw0) e3 (Nat.le_refl _), keep1 (bw0) y0 (Nat.le_refl _)⟩
        case hy103 => refine Or.inl ⟨by rfl, ?_⟩; intro w hSw; (try dsimp only at hSw); go_simp; (try with_reducible rfl)
        simp only [Act.put, List.setIfInBounds_toArray, List.set_cons_zero, List.set_cons_succ]
        refine wpAnyH_take (i := 3) (oi := ?oi104) (v := ?v104) ?hi104 ?hs104 ?hf104 ?hr104 ?hQ104 ?hy104 ?hS104 ?hrest104
        case hi104 => (conv => lhs; simp only [List.getElem?_toArray, List.getElem?_cons_zero, List.getElem?_cons_succ]); try exact rfl
        case hs104 => kernel_rfl
        case hf104 => kernel_rfl
        case hr104 => kernel_rfl
        case hQ104 => exact fun _ _ _ h => h
        case hS104 => exact ⟨keep1 (bw0) e3 (Nat.le_refl _), keep1 (bw0) y0 (Nat.le_refl _)⟩
        case hy104 => refine Or.inl ⟨by rfl, ?_⟩; intro w hSw; (try dsimp only at hSw); go_simp; (try with_reducible rfl)
        simp only [Act.put, List.setIfInBounds_toArray, List.set_cons_zero, List.set_cons_succ]
        refine wpAnyH_take (i := 4) (oi := ?oi105) (v := ?v105) ?hi105 ?hs105 ?hf105 ?hr105 ?hQ105 ?hy105 ?hS105 ?hrest105
        case hi105 => (conv => lhs; simp only [List.getElem?_toArray, List.getElem?_cons_zero, List.getElem?_cons_succ]); try exact rfl
        case hs105 => kernel_rfl
        case hf105 => kernel_rfl
        case hr105 => kernel_rfl
        case hQ105 => exact fun _ _ _ h => h
        case hS105 => exact ⟨keep1 (bw0) e3 (Nat.le_refl _), keep1 (bw0) y0 (Nat.le_refl _)⟩
        case hy105 => refine Or.inl ⟨by rfl, ?_⟩; intro w hSw; (try dsimp only at hSw); go_simp; (try with_reducible rfl)
        simp only [Act.put, List.setIfInBounds_toArray, List.set_cons_zero, List.set_cons_succ]
        refine wpAnyH_take (i := 5) (oi := ?oi106) (v := ?v106) ?hi106 ?hs106 ?hf106 ?hr106 ?hQ106 ?hy106 ?hS106 ?hrest106
        case hi106 => (conv => lhs; simp only [List.getElem?_toArray, List.getElem?_cons_zero, List.getElem?_cons_succ]); try exact rfl
        case hs106 => kernel_rfl
        case hf106 => kernel_rfl
        case hr106 => kernel_rfl
        case hQ106 => exact fun _ _ _ h => h
        case hS106 => exact ⟨keep1 (bw0) e3 (Nat.le_refl _), keep1 (bw0) y0 (Nat.le_refl _)⟩
        case hy106 => refine Or.inl ⟨by rfl, ?_⟩; intro w hSw; (try dsimp only at hSw); go_simp; (try with_reducible rfl)
        simp only [Act.put, List.setIfInBounds_toArray, List.set_cons_zero, List.set_cons_succ]
        refine wpAnyH_take (i := 6) (oi := ?oi107) (v := ?v107) ?hi107 ?hs107 ?hf107 ?hr107 ?hQ107 ?hy107 ?hS107 ?hrest107
        case hi107 => (conv => lhs; simp only [List.getElem?_toArray, List.getElem?_cons_zero, List.getElem?_cons_succ]); try exact rfl
        case hs107 => kernel_rfl
        case hf107 => kernel_rfl
        case hr107 => kernel_rfl
        case hQ107 => exact fun _ _ _ h => h
        case hS107 => exact ⟨keep1 (bw0) e3 (Nat.le_refl _), keep1 (bw0) y0 (Nat.le_refl _)⟩
        case hy107 => refine Or.inl ⟨by rfl, ?_⟩; intro w hSw; (try dsimp only at hSw); go_simp; (try with_reducible rfl)
        simp only [Act.put, List.setIfInBounds_toArray, List.set_cons_zero, List.set_cons_succ]
        refine wpAnyH_take (i := 7) (oi := ?oi108) (v := ?v108) ?hi108 ?hs108 ?hf108 ?hr108 ?hQ108 ?hy108 ?hS108 ?hrest108
        case hi108 => (conv => lhs; simp only [List.getElem?_toArray, List.getElem?_cons_zero, List.getElem?_cons_succ]); try exact rfl
        case hs108 => kernel_rfl
        case hf108 => kernel_rfl
        case hr108 => kernel_rfl
        case hQ108 => exact fun _ _ _ h => h
        case hS108 => exact ⟨keep1 (bw0) e3 (Nat.le_refl _), keep1 (bw0) y0 (Nat.le_refl _)⟩
        case hy108 => refine Or.inl ⟨by rfl, ?_⟩; intro w hSw; (try dsimp only at hSw); go_simp; (try with_reducible rfl)
        simp only [Act.put, List.setIfInBounds_toArray, List.set_cons_zero, List.set_cons_succ]
        refine wpAnyH_take (i := 8) (oi := ?oi109) (v := undef) ?hi109 ?hs109 ?hf109 ?hr109 ?hQ109 ?hy109 ?hS109 ?hrest109
        case hi109 => (conv => lhs; simp only [List.getElem?_toArray, List.getElem?_cons_zero, List.getElem?_cons_succ]); try exact rfl
        case hs109 => kernel_rfl
        case hf109 => kernel_rfl
        case hr109 => kernel_rfl
        case hQ109 => exact fun _ _ _ h => h
        case hS109 => exact ⟨keep1 (bw0) e3 (Nat.le_refl _), keep1 (bw0) y0 (Nat.le_refl _)⟩
        case hy109 => exact Or.inr ⟨by rfl, rfl⟩
        simp only [Act.put, List.setIfInBounds_toArray, List.set_cons_zero, List.set_cons_succ]
        refine wpAnyH_take (i := 9) (oi := ?oi110) (v := undef) ?hi110 ?hs110 ?hf110 ?hr110 ?hQ110 ?hy110 ?hS110 ?hrest110
        case hi110 => (conv => lhs; simp only [List.getElem?_toArray, List.getElem?_cons_zero, List.getElem?_cons_succ]); try exact rfl
        case hs110 => kernel_rfl
        case hf110 => kernel_rfl
        case hr110 => kernel_rfl
        case hQ110 => exact fun _ _ _ h => h
        case hS110 => exact ⟨keep1 (bw0) e3 (Nat.le_refl _), keep1 (bw0) y0 (Nat.le_refl _)⟩
        case hy110 => exact Or.inr ⟨by rfl, rfl⟩
        simp only [Act.put, List.setIfInBounds_toArray, List.set_cons_zero, List.set_cons_succ]
        refine wpAnyH_take (i := 10) (oi := ?oi111) (v := undef) ?hi111 ?hs111 ?hf111 ?hr111 ?hQ111 ?hy111 ?hS111 ?hrest111
        case hi111 => (conv => lhs; simp only [List.getElem?_toArray, List.getElem?_cons_zero, List.getElem?_cons_succ]); try exact rfl
        case hs111 => kernel_rfl
        case hf111 => kernel_rfl
        case hr111 => kernel_rfl
        case hQ111 => exact fun _ _ _ h => h
        case hS111 => exact ⟨keep1 (bw0) e3 (Nat.le_refl _), keep1 (bw0) y0 (Nat.le_refl _)⟩
        case hy111 => exact Or.inr ⟨by rfl, rfl⟩
        simp only [Act.put, List.setIfInBounds_toArray, List.set_cons_zero, List.set_cons_succ]
        refine wpAnyH_take (i := 11) (oi := ?oi112) (v := undef) ?hi112 ?hs112 ?hf112 ?hr112 ?hQ112 ?hy112 ?hS112 ?hrest112
        case hi112 => (conv => lhs; simp only [List.getElem?_toArray, List.getElem?_cons_zero, List.getElem?_cons_succ]); try exact rfl
        case hs112 => kernel_rfl
        case hf112 => kernel_rfl
        case hr112 => kernel_rfl
        case hQ112 => exact fun _ _ _ h => h
        case hS112 => exact ⟨keep1 (bw0) e3 (Nat.le_refl _), keep1 (bw0) y0 (Nat.le_refl _)⟩
        case hy112 => exact Or.inr ⟨by rfl, rfl⟩
        simp only [Act.put, List.setIfInBounds_toArray, List.set_cons_zero, List.set_cons_succ]
        refine wpAnyH_take (i := 12) (oi := ?oi113) (v := undef) ?hi113 ?hs113 ?hf113 ?hr113 ?hQ113 ?hy113 ?hS113 ?hrest113
        case hi113 => (conv => lhs; simp only [List.getElem?_toArray, List.getElem?_cons_zero, List.getElem?_cons_succ]); try exact rfl
        case hs113 => kernel_rfl
        case hf113 => kernel_rfl
        case hr113 => kernel_rfl
        case hQ113 => exact fun _ _ _ h => h
        case hS113 => exact ⟨keep1 (bw0) e3 (Nat.le_refl _), keep1 (bw0) y0 (Nat.le_refl _)⟩
        case hy113 => exact Or.inr ⟨by rfl, rfl⟩
        simp only [Act.put, List.setIfInBounds_toArray, List.set_cons_zero, List.set_cons_succ]
        refine wpAnyH_take (i := 13) (oi := ?oi114) (v := undef) ?hi114 ?hs114 ?hf114 ?hr114 ?hQ114 ?hy114 ?hS114 ?hrest114
        case hi114 => (conv => lhs; simp only [List.getElem?_toArray, List.getElem?_cons_zero, List.getElem?_cons_succ]); try exact rfl
        case hs114 => kernel_rfl
        case hf114 => kernel_rfl
        case hr114 => kernel_rfl
        case hQ114 => exact fun _ _ _ h => h
        case hS114 => exact ⟨keep1 (bw0) e3 (Nat.le_refl _), keep1 (bw0) y0 (Nat.le_refl _)⟩
        case hy114 => exact Or.inr ⟨by rfl, rfl⟩
        simp only [Act.put, List.setIfInBounds_toArray, List.set_cons_zero, List.set_cons_succ]
        refine wpAnyH_take (i := 14) (oi := ?oi115) (v := undef) ?hi115 ?hs115 ?hf115 ?hr115 ?hQ115 ?hy115 ?hS115 ?hrest115
        case hi115 => (conv => lhs; simp only [List.getElem?_toArray, List.getElem?_cons_zero, List.getElem?_cons_succ]); try exact rfl
        case hs115 => kernel_rfl
        case hf115 => kernel_rfl
        case hr115 => kernel_rfl
        case hQ115 => exact fun _ _ _ h => h
        case hS115 => exact ⟨keep1 (bw0) e3 (Nat.le_refl _), keep1 (bw0) y0 (Nat.le_refl _)⟩
        case hy115 => exact Or.inr ⟨by rfl, rfl⟩
        simp only [Act.put, List.setIfInBounds_toArray, List.set_cons_zero, List.set_cons_succ]
        refine wpAnyH_take (i := 15) (oi := ?oi116) (v := undef) ?hi116 ?hs116 ?hf116 ?hr116 ?hQ116 ?hy116 ?hS116 ?hrest116
        case hi116 => (conv => lhs; simp only [List.getElem?_toArray, List.getElem?_cons_zero, List.getElem?_cons_succ]); try exact rfl
        case hs116 => kernel_rfl
        case hf116 => kernel_rfl
        case hr116 => kernel_rfl
        case hQ116 => exact fun _ _ _ h => h
        case hS116 => exact ⟨keep1 (bw0) e3 (Nat.le_refl _), keep1 (bw0) y0 (Nat.le_refl _)⟩
        case hy116 => exact Or.inr ⟨by rfl, rfl⟩
        simp only [Act.put, List.setIfInBounds_toArray, List.set_cons_zero, List.set_cons_succ]
        refine wpAnyH_take (i := 16) (oi := ?oi117) (v := undef) ?hi117 ?hs117 ?hf117 ?hr117 ?hQ117 ?hy117 ?hS117 ?hrest117
        case hi117 => (conv => lhs; simp only [List.getElem?_toArray, List.getElem?_cons_zero, List.getElem?_cons_succ]); try exact rfl
        case hs117 => kernel_rfl
        case hf117 => kernel_rfl
        case hr117 => kernel_rfl
        case hQ117 => exact fun _ _ _ h => h
        case hS117 => exact ⟨keep1 (bw0) e3 (Nat.le_refl _), keep1 (bw0) y0 (Nat.le_refl _)⟩
        case hy117 => exact Or.inr ⟨by rfl, rfl⟩
        simp only [Act.put, List.setIfInBounds_toArray, List.set_cons_zero, List.set_cons_succ]
        refine wpAnyH_take (i := 17) (oi := ?oi118) (v := undef) ?hi118 ?hs118 ?hf118 ?hr118 ?hQ118 ?hy118 ?hS118 ?hrest118
        case hi118 => (conv => lhs; simp only [List.getElem?_toArray, List.getElem?_cons_zero, List.getElem?_cons_succ]); try exact rfl
        case hs118 => kernel_rfl
        case hf118 => kernel_rfl
        case hr118 => kernel_rfl
        case hQ118 => exact fun _ _ _ h => h
        case hS118 => exact ⟨keep1 (bw0) e3 (Nat.le_refl _), keep1 (bw0) y0 (Nat.le_refl _)⟩
        case hy118 => exact Or.inr ⟨by rfl, rfl⟩
        simp only [Act.put, List.setIfInBounds_toArray, List.set_cons_zero, List.set_cons_succ]
        refine wpAnyH_take (i := 18) (oi := ?oi119) (v := undef) ?hi119 ?hs119 ?hf119 ?hr119 ?hQ119 ?hy119 ?hS119 ?hrest119
        case hi119 => (conv => lhs; simp only [List.getElem?_toArray, List.getElem?_cons_zero, List.getElem?_cons_succ]); try exact rfl
        case hs119 => kernel_rfl
        case hf119 => kernel_rfl
        case hr119 => kernel_rfl
        case hQ119 => exact fun _ _ _ h => h
        case hS119 => exact ⟨keep1 (bw0) e3 (Nat.le_refl _), keep1 (bw0) y0 (Nat.le_refl _)⟩
        case hy119 => exact Or.inr ⟨by rfl, rfl⟩
        simp only [Act.put, List.setIfInBounds_toArray, List.set_cons_zero, List.set_cons_succ]
        refine wpAnyH_take (i := 19) (oi := ?oi120) (v := undef) ?hi120 ?hs120 ?hf120 ?hr120 ?hQ120 ?hy120 ?hS120 ?hrest120
        case hi120 => (conv => lhs; simp only [List.getElem?_toArray, List.getElem?_cons_zero, List.getElem?_cons_succ]); try exact rfl
        case hs120 => kernel_rfl
        case hf120 => kernel_rfl
        case hr120 => kernel_rfl
        case hQ120 => exact fun _ _ _ h => h
        case hS120 => exact ⟨keep1 (bw0) e3 (Nat.le_refl _), keep1 (bw0) y0 (Nat.le_refl _)⟩
        case hy120 => exact Or.inr ⟨by rfl, rfl⟩
        simp only [Act.put, List.setIfInBounds_toArray, List.set_cons_zero, List.set_cons_succ]
        refine wpAnyH_take (i := 20) (oi := ?oi121) (v := undef) ?hi121 ?hs121 ?hf121 ?hr121 ?hQ121 ?hy121 ?hS121 ?hrest121
        case hi121 => (conv => lhs; simp only [List.getElem?_toArray, List.getElem?_cons_zero, List.getElem?_cons_succ]); try exact rfl
        case hs121 => kernel_rfl
        case hf121 => kernel_rfl
        case hr121 => kernel_rfl
        case hQ121 => exact fun _ _ _ h => h
        case hS121 => exact ⟨keep1 (bw0) e3 (Nat.le_refl _), keep1 (bw0) y0 (Nat.le_refl _)⟩
        case hy121 => exact Or.inr ⟨by rfl, rfl⟩
        simp only [Act.put, List.setIfInBounds_toArray, List.set_cons_zero, List.set_cons_succ]
        refine wpAnyH_take (i := 21) (oi := ?oi122) (v := undef) ?hi122 ?hs122 ?hf122 ?hr122 ?hQ122 ?hy122 ?hS122 ?hrest122
        case hi122 => (conv => lhs; simp only [List.getElem?_toArray, List.getElem?_cons_zero, List.getElem?_cons_succ]); try exact rfl
        case hs122 => kernel_rfl
        case hf122 => kernel_rfl
        case hr122 => kernel_rfl
        case hQ122 => exact fun _ _ _ h => h
        case hS122 => exact ⟨keep1 (bw0) e3 (Nat.le_refl _), keep1 (bw0) y0 (Nat.le_refl _)⟩
        case hy122 => exact Or.inr ⟨by rfl, rfl⟩
        simp only [Act.put, List.setIfInBounds_toArray, List.set_cons_zero, List.set_cons_succ]
        refine wpAnyH_take (i := 22) (oi := ?oi123) (v := undef) ?hi123 ?hs123 ?hf123 ?hr123 ?hQ123 ?hy123 ?hS123 ?hrest123
        case hi123 => (conv => lhs; simp only [List.getElem?_toArray, List.getElem?_cons_zero, List.getElem?_cons_succ]); try exact rfl
        case hs123 => kernel_rfl
        case hf123 => kernel_rfl
        case hr123 => kernel_rfl
        case hQ123 => exact fun _ _ _ h => h
        case hS123 => exact ⟨keep1 (bw0) e3 (Nat.le_refl _), keep1 (bw0) y0 (Nat.le_refl _)⟩
        case hy123 => exact Or.inr ⟨by rfl, rfl⟩
        simp only [Act.put, List.setIfInBounds_toArray, List.set_cons_zero, List.set_cons_succ]
        refine wpAnyH_take (i := 23) (oi := ?oi124) (v := undef) ?hi124 ?hs124 ?hf124 ?hr124 ?hQ124 ?hy124 ?hS124 ?hrest124
        case hi124 => (conv => lhs; simp only [List.getElem?_toArray, List.getElem?_cons_zero, List.getElem?_cons_succ]); try exact rfl
        case hs124 => kernel_rfl
        case hf124 => kernel_rfl
        case hr124 => kernel_rfl
        case hQ124 => exact fun _ _ _ h => h
        case hS124 => exact ⟨keep1 (bw0) e3 (Nat.le_refl _), keep1 (bw0) y0 (Nat.le_refl _)⟩
        case hy124 => exact Or.inr ⟨by rfl, rfl⟩
        simp only [Act.put, List.setIfInBounds_toArray, List.set_cons_zero, List.set_cons_succ]
        refine wpAnyH_take (i := 24) (oi := ?oi125) (v := undef) ?hi125 ?hs125 ?hf125 ?hr125 ?hQ125 ?hy125 ?hS125 ?hrest125
        case hi125 => (conv => lhs; simp only [List.getElem?_toArray, List.getElem?_cons_zero, List.getElem?_cons_succ]); try exact rfl
        case hs125 => kernel_rfl
        case hf125 => kernel_rfl
        case hr125 => kernel_rfl
        case hQ125 => exact fun _ _ _ h => h
        case hS125 => exact ⟨keep1 (bw0) e3 (Nat.le_refl _), keep1 (bw0) y0 (Nat.le_refl _)⟩
        case hy125 => exact Or.inr ⟨by rfl, rfl⟩
        simp only [Act.put, List.setIfInBounds_toArray, List.set_cons_zero, List.set_cons_succ]
        refine wpAnyH_take (i := 25) (oi := ?oi126) (v := ?v126) ?hi126 ?hs126 ?hf126 ?hr126 ?hQ126 ?hy126 ?hS126 ?hrest126
        case hi126 => (conv => lhs; simp only [List.getElem?_toArray, List.getElem?_cons_zero, List.getElem?_cons_succ]); try exact rfl
        case hs126 => kernel_rfl
        case hf126 => kernel_rfl
        case hr126 => kernel_rfl
        case hQ126 => exact fun _ _ _ h => h
        case hS126 => exact ⟨keep1 (bw0) e3 (Nat.le_refl _), keep1 (bw0) y0 (Nat.le_refl _)⟩
        case hy126 => refine Or.inl ⟨by rfl, ?_⟩; intro w hSw; (try dsimp only at hSw); go_simp; (try with_reducible rfl)
        simp only [Act.put, List.setIfInBounds_toArray, List.set_cons_zero, List.set_cons_succ]
        refine wpAnyH_take (i := 26) (oi := ?oi127) (v := ?v127) ?hi127 ?hs127 ?hf127 ?hr127 ?hQ127 ?hy127 ?hS127 ?hrest127
        case hi127 => (conv => lhs; simp only [List.getElem?_toArray, List.getElem?_cons_zero, List.getElem?_cons_succ]); try exact rfl
        case hs127 => kernel_rfl
        case hf127 => kernel_rfl
        case hr127 => kernel_rfl
        case hQ127 => exact fun _ _ _ h => h
        case hS127 => exact ⟨keep1 (bw0) e3 (Nat.le_refl _), keep1 (bw0) y0 (Nat.le_refl _)⟩
        case hy127 => refine Or.inl ⟨by rfl, ?_⟩; intro w hSw; (try dsimp only at hSw); go_simp; (try with_reducible rfl)
        simp only [Act.put, List.setIfInBounds_toArray, List.set_cons_zero, List.set_cons_succ]
        refine wpAnyH_ready (rs := [27]) (by kernel_rfl) (by simp) ?_
        refine AllReadyH.cons (o := ?oi128) ?hi128 (fun K hK => ?br128) AllReadyH.nil
        case hi128 => (conv => lhs; simp only [List.getElem?_toArray, List.getElem?_cons_zero, List.getElem?_cons_succ]); try exact rfl
        case br128 =>
         have ownr := own_below Hown2.out bw0 (Nat.le_refl _)
         have e9 := own_bool ownr hcur
         have f9 := own_frozen ownr k
         have l9 := (own_lt ownr).2
         clear ownr
         go_simp
         refine hK.out _ _ (by exact ⟨farC (by omega) (keep1 (bw0) e3 (Nat.le_refl _)), farC (by omega) (keep1 (bw0) y0 (Nat.le_refl _))⟩) (fun _ => ?_)
         clear hK K e9 f9 l9
         refine wpAnyH_done (by kernel_rfl) ?_ _
         have Hf := Lib.hid (HsetB.out r0 bw0 _ (Hv.out))
         go_wp2
         go_roundw
         case rel => exact ⟨k + 1, by omega, by go_num, Hf.out, belC (belN hbi bw0) _ _ (Nat.le_refl _) _⟩
         case measure => simp [intOf]; omega
       ·rw [hbz] at e3
        by_cases hq : p = [63]
        ·have hqd : decide (p = [63]) = true := by simpa using hq
         have Hv := Lib.hid ((Hyes.out (.inl hq)).trans hbz)
         clear hq Hyes Hno Hfalse hbz
         go_wp2_with (go_at_call 286; refine (l14Is_any A' pl c' p _ _ (Hru.out wi hbi)).mono ?_; rintro e w' ⟨rfl, rfl⟩)
         refine wp_region_held_drew (S := fun w' => w'.cell? ⟨g, K, none⟩ = some (.bool true) ∧ w'.cell? ⟨b, o + j, none⟩ = some (.slice A' pl c')) (by kernel_rfl) (by exact ⟨e3, y0⟩) (fun hHeld => ?_)
         refine foldH ?_
         intro r0 hr0
         have bw0 : Below wi.heap.size wi r0 := by rw [hr0]; exact (bel0 wi).drew
         clear hr0 hHeld
         refine wpAnyH_take (i := 0) (oi := ?oi201) (v := ?v201) ?hi201 ?hs201 ?hf201 ?hr201 ?hQ201 ?hy201 ?hS201 ?hrest201
         case hi201 => (conv => lhs; simp only [List.getElem?_toArray, List.getElem?_cons_zero]); try exact rfl
         case hs201 => kernel_rfl
         case hf201 => kernel_rfl
         case hr201 => kernel_rfl
         case hQ201 => exact fun _ _ _ h => h
         case hS201 => exact ⟨keep1 (bw0) e3 (Nat.le_refl _), keep1 (bw0) y0 (Nat.le_refl _)⟩
         case hy201 => refine Or.inl ⟨by rfl, ?_⟩; intro w hSw; (try dsimp only at hSw); go_simp; (try with_reducible rfl)
         simp only [Act.put, List.setIfInBounds_toArray, List.set_cons_zero, List.set_cons_succ]
         refine wpAnyH_take (i := 1) (oi := ?oi202) (v := ?v202) ?hi202 ?hs202 ?hf202 ?hr202 ?hQ202 ?hy202 ?hS202 ?hrest202
         case hi202 => (conv => lhs; simp only [List.getElem?_toArray, List.getElem?_cons_zero, List.getElem?_cons_succ]); try exact rfl
         case hs202 => kernel_rfl
         case hf202 => kernel_rfl
         case hr202 => kernel_rfl
         case hQ202 => exact fun _ _ _ h => h
         case hS202 => exact ⟨keep1 (bw0) e3 (Nat.le_refl _), keep1 (bw0) y0 (Nat.le_refl _)⟩
         case hy202 => refine Or.inl ⟨by rfl, ?_⟩; intro w hSw; (try dsimp only at hSw); go_simp; (try with_reducible rfl)
         simp only [Act.put, List.setIfInBounds_toArray, List.set_cons_zero, List.set_cons_succ]
         refine wpAnyH_take (i := 2) (oi := ?oi203) (v := ?v203) ?hi203 ?hs203 ?hf203 ?hr203 ?hQ203 ?hy203 ?hS203 ?hrest203
         case hi203 => (conv => lhs; simp only [List.getElem?_toArray, List.getElem?_cons_zero, List.getElem?_cons_succ]); try exact rfl
         case hs203 => kernel_rfl
         case hf203 => kernel_rfl
         case hr203 => kernel_rfl
         case hQ203 => exact fun _ _ _ h => h
         case hS203 => exact ⟨keep1 (bw0) e3 (Nat.le_refl _), keep1 (bw0) y0 (Nat.le_refl _)⟩
         case hy203 => refine Or.inl ⟨by rfl, ?_⟩; intro w hSw; (try dsimp only at hSw); go_simp; (try with_reducible rfl)
         simp only [Act.put, List.setIfInBounds_toArray, List.set_cons_zero, List.set_cons_succ]
         refine wpAnyH_take (i := 3) (oi := ?oi204) (v := ?v204) ?hi204 ?hs204 ?hf204 ?hr204 ?hQ204 ?hy204 ?hS204 ?hrest204
         case hi204 => (conv => lhs; simp only [List.getElem?_toArray, List.getElem?_cons_zero, List.getElem?_cons_succ]); try exact rfl
         case hs204 => kernel_rfl
         case hf204 => kernel_rfl
         case hr204 => kernel_rfl
         case hQ204 => exact fun _ _ _ h => h
         case hS204 => exact ⟨keep1 (bw0) e3 (Nat.le_refl _), keep1 (bw0) y0 (Nat.le_refl _)⟩
         case hy204 => refine Or.inl ⟨by rfl, ?_⟩; intro w hSw; (try dsimp only at hSw); go_simp; (try with_reducible rfl)
         simp only [Act.put, List.setIfInBounds_toArray, List.set_cons_zero, List.set_cons_succ]
         refine wpAnyH_take (i := 4) (oi := ?oi205) (v := ?v205) ?hi205 ?hs205 ?hf205 ?hr205 ?hQ205 ?hy205 ?hS205 ?hrest205
         case hi205 => (conv => lhs; simp only [List.getElem?_toArray, List.getElem?_cons_zero, List.getElem?_cons_succ]); try exact rfl
         case hs205 => kernel_rfl
         case hf205 => kernel_rfl
         case hr205 => kernel_rfl
         case hQ205 => exact fun _ _ _ h => h
         case hS205 => exact ⟨keep1 (bw0) e3 (Nat.le_refl _), keep1 (bw0) y0 (Nat.le_refl _)⟩
         case hy205 => refine Or.inl ⟨by rfl, ?_⟩; intro w hSw; (try dsimp only at hSw); go_simp; (try with_reducible rfl)
         simp only [Act.put, List.setIfInBounds_toArray, List.set_cons_zero, List.set_cons_succ]
         refine wpAnyH_take (i := 5) (oi := ?oi206) (v := ?v206) ?hi206 ?hs206 ?hf206 ?hr206 ?hQ206 ?hy206 ?hS206 ?hrest206
         case hi206 => (conv => lhs; simp only [List.getElem?_toArray, List.getElem?_cons_zero, List.getElem?_cons_succ]); try exact rfl
         case hs206 => kernel_rfl
         case hf206 => kernel_rfl
         case hr206 => kernel_rfl
         case hQ206 => exact fun _ _ _ h => h
         case hS206 => exact ⟨keep1 (bw0) e3 (Nat.le_refl _), keep1 (bw0) y0 (Nat.le_refl _)⟩
         case hy206 => refine Or.inl ⟨by rfl, ?_⟩; intro w hSw; (try dsimp only at hSw); go_simp; (try with_reducible rfl)
         simp only [Act.put, List.setIfInBounds_toArray, List.set_cons_zero, List.set_cons_succ]
         refine wpAnyH_take (i := 6) (oi := ?oi207) (v := ?v207) ?hi207 ?hs207 ?hf207 ?hr207 ?hQ207 ?hy207 ?hS207 ?hrest207
         case hi207 => (conv => lhs; simp only [List.getElem?_toArray, List.getElem?_cons_zero, List.getElem?_cons_succ]); try exact rfl
         case hs207 => kernel_rfl
         case hf207 => kernel_rfl
         case hr207 => kernel_rfl
         case hQ207 => exact fun _ _ _ h => h
         case hS207 => exact ⟨keep1 (bw0) e3 (Nat.le_refl _), keep1 (bw0) y0 (Nat.le_refl _)⟩
         case hy207 => refine Or.inl ⟨by rfl, ?_⟩; intro w hSw; (try dsimp only at hSw); go_simp; (try with_reducible rfl)
         simp only [Act.put, List.setIfInBounds_toArray, List.set_cons_zero, List.set_cons_succ]
         refine wpAnyH_take (i := 7) (oi := ?oi208) (v := ?v208) ?hi208 ?hs208 ?hf208 ?hr208 ?hQ208 ?hy208 ?hS208 ?hrest208
         case hi208 => (conv => lhs; simp only [List.getElem?_toArray, List.getElem?_cons_zero, List.getElem?_cons_succ]); try exact rfl
         case hs208 => kernel_rfl
         case hf208 => kernel_rfl
         case hr208 => kernel_rfl
         case hQ208 => exact fun _ _ _ h => h
         case hS208 => exact ⟨keep1 (bw0) e3 (Nat.le_refl _), keep1 (bw0) y0 (Nat.le_refl _)⟩
         case hy208 => refine Or.inl ⟨by rfl, ?_⟩; intro w hSw; (try dsimp only at hSw); go_simp; (try with_reducible rfl)
         simp only [Act.put, List.setIfInBounds_toArray, List.set_cons_zero, List.set_cons_succ]
         refine wpAnyH_take (i := 8) (oi := ?oi209) (v := ?v209) ?hi209 ?hs209 ?hf209 ?hr209 ?hQ209 ?hy209 ?hS209 ?hrest209
         case hi209 => (conv => lhs; simp only [List.getElem?_toArray, List.getElem?_cons_zero, List.getElem?_cons_succ]); try exact rfl
         case hs209 => kernel_rfl
         case hf209 => kernel_rfl
         case hr209 => kernel_rfl
         case hQ209 => exact fun _ _ _ h => h
         case hS209 => exact ⟨keep1 (bw0) e3 (Nat.le_refl _), keep1 (bw0) y0 (Nat.le_refl _)⟩
         case hy209 => refine Or.inl ⟨by rfl, ?_⟩; intro w hSw; (try dsimp only at hSw); go_simp; (try with_reducible rfl)
         simp only [Act.put, List.setIfInBounds_toArray, List.set_cons_zero, List.set_cons_succ]
         refine wpAnyH_take (i := 9) (oi := ?oi210) (v := ?v210) ?hi210 ?hs210 ?hf210 ?hr210 ?hQ210 ?hy210 ?hS210 ?hrest210
         case hi210 => (conv => lhs; simp only [List.getElem?_toArray, List.getElem?_cons_zero, List.getElem?_cons_succ]); try exact rfl
         case hs210 => kernel_rfl
         case hf210 => kernel_rfl
         case hr210 => kernel_rfl
         case hQ210 => exact fun _ _ _ h => h
         case hS210 => exact ⟨keep1 (bw0) e3 (Nat.le_refl _), keep1 (bw0) y0 (Nat.le_refl _)⟩
         case hy210 => refine Or.inl ⟨by rfl, ?_⟩; intro w hSw; (try dsimp only at hSw); go_simp; (try with_reducible rfl)
         simp only [Act.put, List.setIfInBounds_toArray, List.set_cons_zero, List.set_cons_succ]
         refine wpAnyH_take (i := 10) (oi := ?oi211) (v := ?v211) ?hi211 ?hs211 ?hf211 ?hr211 ?hQ211 ?hy211 ?hS211 ?hrest211
         case hi211 => (conv => lhs; simp only [List.getElem?_toArray, List.getElem?_cons_zero, List.getElem?_cons_succ]); try exact rfl
         case hs211 => kernel_rfl
         case hf211 => kernel_rfl
         case hr211 => kernel_rfl
         case hQ211 => exact fun _ _ _ h => h
         case hS211 => exact ⟨keep1 (bw0) e3 (Nat.le_refl _), keep1 (bw0) y0 (Nat.le_refl _)⟩
         case hy211 => refine Or.inl ⟨by rfl, ?_⟩; intro w hSw; (try dsimp only at hSw); go_simp; (try with_reducible rfl)
         simp only [Act.put, List.setIfInBounds_toArray, List.set_cons_zero, List.set_cons_succ]
         refine wpAnyH_take (i := 11) (oi := ?oi212) (v := ?v212) ?hi212 ?hs212 ?hf212 ?hr212 ?hQ212 ?hy212 ?hS212 ?hrest212
         case hi212 => (conv => lhs; simp only [List.getElem?_toArray, List.getElem?_cons_zero, List.getElem?_cons_succ]); try exact rfl
         case hs212 => kernel_rfl
         case hf212 => kernel_rfl
         case hr212 => kernel_rfl
         case hQ212 => exact fun _ _ _ h => h
         case hS212 => exact ⟨keep1 (bw0) e3 (Nat.le_refl _), keep1 (bw0) y0 (Nat.le_refl _)⟩
         case hy212 => refine Or.inl ⟨by rfl, ?_⟩; intro w hSw; (try dsimp only at hSw); go_simp; (try with_reducible rfl)
         simp only [Act.put, List.setIfInBounds_toArray, List.set_cons_zero, List.set_cons_succ]
         refine wpAnyH_ready (rs := [12]) (by kernel_rfl) (by simp) ?_
         refine AllReadyH.cons (o := ?oi213) ?hi213 (fun K hK => ?br213) AllReadyH.nil
         case hi213 => (conv => lhs; simp only [List.getElem?_toArray, List.getElem?_cons_zero, List.getElem?_cons_succ]); try exact rfl
         case br213 =>
          go_simp
          go_at_call 286
          refine (l14Is_any A' pl c' p _ r0 (Hru.out r0 (belN hbi bw0))).mono ?_
          rintro e r1 ⟨rfl, hw1⟩
          have bw1 : Below wi.heap.size wi r1 := by subst hw1; exact bw0
          refine hK.out _ _ (by exact ⟨keep1 (bw1) e3 (Nat.le_refl _), keep1 (bw1) y0 (Nat.le_refl _)⟩) (fun _ => ?_)
          clear hK K
          refine wpAnyH_take (i := 13) (oi := ?oi214) (v := ?v214) ?hi214 ?hs214 ?hf214 ?hr214 ?hQ214 ?hy214 ?hS214 ?hrest214
          case hi214 => (conv => lhs; simp only [List.getElem?_toArray, List.getElem?_cons_zero, List.getElem?_cons_succ]); try exact rfl
          case hs214 => kernel_rfl
          case hf214 => kernel_rfl
          case hr214 => kernel_rfl
          case hQ214 => exact fun _ _ _ h => h
          case hS214 => exact ⟨keep1 (bw1) e3 (Nat.le_refl _), keep1 (bw1) y0 (Nat.le_refl _)⟩
          case hy214 => refine Or.inl ⟨by rfl, ?_⟩; intro w hSw; (try dsimp only at hSw); go_simp; (try with_reducible rfl)
          simp only [Act.put, List.setIfInBounds_toArray, List.set_cons_zero, List.set_cons_succ]
          refine wpAnyH_take (i := 14) (oi := ?oi215) (v := undef) ?hi215 ?hs215 ?hf215 ?hr215 ?hQ215 ?hy215 ?hS215 ?hrest215
          case hi215 => (conv => lhs; simp only [List.getElem?_toArray, List.getElem?_cons_zero, List.getElem?_cons_succ]); try exact rfl
          case hs215 => kernel_rfl
          case hf215 => kernel_rfl
          case hr215 => kernel_rfl
          case hQ215 => exact fun _ _ _ h => h
          case hS215 => exact ⟨keep1 (bw1) e3 (Nat.le_refl _), keep1 (bw1) y0 (Nat.le_refl _)⟩
          case hy215 => exact Or.inr ⟨by rfl, rfl⟩
          simp only [Act.put, List.setIfInBounds_toArray, List.set_cons_zero, List.set_cons_succ]
          refine wpAnyH_take (i := 15) (oi := ?oi216) (v := undef) ?hi216 ?hs216 ?hf216 ?hr216 ?hQ216 ?hy216 ?hS216 ?hrest216
          case hi216 => (conv => lhs; simp only [List.getElem?_toArray, List.getElem?_cons_zero, List.getElem?_cons_succ]); try exact rfl
          case hs216 => kernel_rfl
          case hf216 => kernel_rfl
          case hr216 => kernel_rfl
          case hQ216 => exact fun _ _ _ h => h
          case hS216 => exact ⟨keep1 (bw1) e3 (Nat.le_refl _), keep1 (bw1) y0 (Nat.le_refl _)⟩
          case hy216 => exact Or.inr ⟨by rfl, rfl⟩
          simp only [Act.put, List.setIfInBounds_toArray, List.set_cons_zero, List.set_cons_succ]
          refine wpAnyH_take (i := 16) (oi := ?oi217) (v := undef) ?hi217 ?hs217 ?hf217 ?hr217 ?hQ217 ?hy217 ?hS217 ?hrest217
          case hi217 => (conv => lhs; simp only [List.getElem?_toArray, List.getElem?_cons_zero, List.getElem?_cons_succ]); try exact rfl
          case hs217 => kernel_rfl
          case hf217 => kernel_rfl
          case hr217 => kernel_rfl
          case hQ217 => exact fun _ _ _ h => h
          case hS217 => exact ⟨keep1 (bw1) e3 (Nat.le_refl _), keep1 (bw1) y0 (Nat.le_refl _)⟩
          case hy217 => exact Or.inr ⟨by rfl, rfl⟩
          simp only [Act.put, List.setIfInBounds_toArray, List.set_cons_zero, List.set_cons_succ]
          refine wpAnyH_take (i := 17) (oi := ?oi218) (v := undef) ?hi218 ?hs218 ?hf218 ?hr218 ?hQ218 ?hy218 ?hS218 ?hrest218
          case hi218 => (conv => lhs; simp only [List.getElem?_toArray, List.getElem?_cons_zero, List.getElem?_cons_succ]); try exact rfl
          case hs218 => kernel_rfl
          case hf218 => kernel_rfl
          case hr218 => kernel_rfl
          case hQ218 => exact fun _ _ _ h => h
          case hS218 => exact ⟨keep1 (bw1) e3 (Nat.le_refl _), keep1 (bw1) y0 (Nat.le_refl _)⟩
          case hy218 => exact Or.inr ⟨by rfl, rfl⟩
          simp only [Act.put, List.setIfInBounds_toArray, List.set_cons_zero, List.set_cons_succ]
          refine wpAnyH_take (i := 18) (oi := ?oi219) (v := undef) ?hi219 ?hs219 ?hf219 ?hr219 ?hQ219 ?hy219 ?hS219 ?hrest219
          case hi219 => (conv => lhs; simp only [List.getElem?_toArray, List.getElem?_cons_zero, List.getElem?_cons_succ]); try exact rfl
          case hs219 => kernel_rfl
          case hf219 => kernel_rfl
          case hr219 => kernel_rfl
          case hQ219 => exact fun _ _ _ h => h
          case hS219 => exact ⟨keep1 (bw1) e3 (Nat.le_refl _), keep1 (bw1) y0 (Nat.le_refl _)⟩
          case hy219 => exact Or.inr ⟨by rfl, rfl⟩
          simp only [Act.put, List.setIfInBounds_toArray, List.set_cons_zero, List.set_cons_succ]
          refine wpAnyH_take (i := 19) (oi := ?oi220) (v := undef) ?hi220 ?hs220 ?hf220 ?hr220 ?hQ220 ?hy220 ?hS220 ?hrest220
          case hi220 => (conv => lhs; simp only [List.getElem?_toArray, List.getElem?_cons_zero, List.getElem?_cons_succ]); try exact rfl
          case hs220 => kernel_rfl
          case hf220 => kernel_rfl
          case hr220 => kernel_rfl
          case hQ220 => exact fun _ _ _ h => h
          case hS220 => exact ⟨keep1 (bw1) e3 (Nat.le_refl _), keep1 (bw1) y0 (Nat.le_refl _)⟩
          case hy220 => exact Or.inr ⟨by rfl, rfl⟩
          simp only [Act.put, List.setIfInBounds_toArray, List.set_cons_zero, List.set_cons_succ]
          refine wpAnyH_take (i := 20) (oi := ?oi221) (v := undef) ?hi221 ?hs221 ?hf221 ?hr221 ?hQ221 ?hy221 ?hS221 ?hrest221
          case hi221 => (conv => lhs; simp only [List.getElem?_toArray, List.getElem?_cons_zero, List.getElem?_cons_succ]); try exact rfl
          case hs221 => kernel_rfl
          case hf221 => kernel_rfl
          case hr221 => kernel_rfl
          case hQ221 => exact fun _ _ _ h => h
          case hS221 => exact ⟨keep1 (bw1) e3 (Nat.le_refl _), keep1 (bw1) y0 (Nat.le_refl _)⟩
          case hy221 => exact Or.inr ⟨by rfl, rfl⟩
          simp only [Act.put, List.setIfInBounds_toArray, List.set_cons_zero, List.set_cons_succ]
          refine wpAnyH_take (i := 21) (oi := ?oi222) (v := undef) ?hi222 ?hs222 ?hf222 ?hr222 ?hQ222 ?hy222 ?hS222 ?hrest222
          case hi222 => (conv => lhs; simp only [List.getElem?_toArray, List.getElem?_cons_zero, List.getElem?_cons_succ]); try exact rfl
          case hs222 => kernel_rfl
          case hf222 => kernel_rfl
          case hr222 => kernel_rfl
          case hQ222 => exact fun _ _ _ h => h
          case hS222 => exact ⟨keep1 (bw1) e3 (Nat.le_refl _), keep1 (bw1) y0 (Nat.le_refl _)⟩
          case hy222 => exact Or.inr ⟨by rfl, rfl⟩
          simp only [Act.put, List.setIfInBounds_toArray, List.set_cons_zero, List.set_cons_succ]
          refine wpAnyH_take (i := 22) (oi := ?oi223) (v := undef) ?hi223 ?hs223 ?hf223 ?hr223 ?hQ223 ?hy223 ?hS223 ?hrest223
          case hi223 => (conv => lhs; simp only [List.getElem?_toArray, List.getElem?_cons_zero, List.getElem?_cons_succ]); try exact rfl
          case hs223 => kernel_rfl
          case hf223 => kernel_rfl
          case hr223 => kernel_rfl
          case hQ223 => exact fun _ _ _ h => h
          case hS223 => exact ⟨keep1 (bw1) e3 (Nat.le_refl _), keep1 (bw1) y0 (Nat.le_refl _)⟩
          case hy223 => exact Or.inr ⟨by rfl, rfl⟩
          simp only [Act.put, List.setIfInBounds_toArray, List.set_cons_zero, List.set_cons_succ]
          refine wpAnyH_take (i := 23) (oi := ?oi224) (v := undef) ?hi224 ?hs224 ?hf224 ?hr224 ?hQ224 ?hy224 ?hS224 ?hrest224
          case hi224 => (conv => lhs; simp only [List.getElem?_toArray, List.getElem?_cons_zero, List.getElem?_cons_succ]); try exact rfl
          case hs224 => kernel_rfl
          case hf224 => kernel_rfl
          case hr224 => kernel_rfl
          case hQ224 => exact fun _ _ _ h => h
          case hS224 => exact ⟨keep1 (bw1) e3 (Nat.le_refl _), keep1 (bw1) y0 (Nat.le_refl _)⟩
          case hy224 => exact Or.inr ⟨by rfl, rfl⟩
          simp only [Act.put, List.setIfInBounds_toArray, List.set_cons_zero, List.set_cons_succ]
          refine wpAnyH_take (i := 24) (oi := ?oi225) (v := ?v225) ?hi225 ?hs225 ?hf225 ?hr225 ?hQ225 ?hy225 ?hS225 ?hrest225
          case hi225 => (conv => lhs; simp only [List.getElem?_toArray, List.getElem?_cons_zero, List.getElem?_cons_succ]); try exact rfl
          case hs225 => kernel_rfl
          case hf225 => kernel_rfl
          case hr225 => kernel_rfl
          case hQ225 => exact fun _ _ _ h => h
          case hS225 => exact ⟨keep1 (bw1) e3 (Nat.le_refl _), keep1 (bw1) y0 (Nat.le_refl _)⟩
          case hy225 => refine Or.inl ⟨by rfl, ?_⟩; intro w hSw; (try dsimp only at hSw); go_simp; (try with_reducible rfl)
          simp only [Act.put, List.setIfInBounds_toArray, List.set_cons_zero, List.set_cons_succ]
          refine wpAnyH_take (i := 25) (oi := ?oi226) (v := ?v226) ?hi226 ?hs226 ?hf226 ?hr226 ?hQ226 ?hy226 ?hS226 ?hrest226
          case hi226 => (conv => lhs; simp only [List.getElem?_toArray, List.getElem?_cons_zero, List.getElem?_cons_succ]); try exact rfl
          case hs226 => kernel_rfl
          case hf226 => kernel_rfl
          case hr226 => kernel_rfl
          case hQ226 => exact fun _ _ _ h => h
          case hS226 => exact ⟨keep1 (bw1) e3 (Nat.le_refl _), keep1 (bw1) y0 (Nat.le_refl _)⟩
          case hy226 => refine Or.inl ⟨by rfl, ?_⟩; intro w hSw; (try dsimp only at hSw); go_simp; (try with_reducible rfl)
          simp only [Act.put, List.setIfInBounds_toArray, List.set_cons_zero, List.set_cons_succ]
          refine wpAnyH_take (i := 26) (oi := ?oi227) (v := ?v227) ?hi227 ?hs227 ?hf227 ?hr227 ?hQ227 ?hy227 ?hS227 ?hrest227
          case hi227 => (conv => lhs; simp only [List.getElem?_toArray, List.getElem?_cons_zero, List.getElem?_cons_succ]); try exact rfl
          case hs227 => kernel_rfl
          case hf227 => kernel_rfl
          case hr227 => kernel_rfl
          case hQ227 => exact fun _ _ _ h => h
          case hS227 => exact ⟨keep1 (bw1) e3 (Nat.le_refl _), keep1 (bw1) y0 (Nat.le_refl _)⟩
          case hy227 => refine Or.inl ⟨by rfl, ?_⟩; intro w hSw; (try dsimp only at hSw); go_simp; (try with_reducible rfl)
          simp only [Act.put, List.setIfInBounds_toArray, List.set_cons_zero, List.set_cons_succ]
          refine wpAnyH_ready (rs := [27]) (by kernel_rfl) (by simp) ?_
          refine AllReadyH.cons (o := ?oi228) ?hi228 (fun K hK => ?br228) AllReadyH.nil
          case hi228 => (conv => lhs; simp only [List.getElem?_toArray, List.getElem?_cons_zero, List.getElem?_cons_succ]); try exact rfl
          case br228 =>
           have ownr := own_below Hown2.out bw1 (Nat.le_refl _)
           have e9 := own_bool ownr hcur
           have f9 := own_frozen ownr k
           have l9 := (own_lt ownr).2
           clear ownr
           go_simp
           refine hK.out _ _ (by exact ⟨farC (by omega) (keep1 (bw1) e3 (Nat.le_refl _)), farC (by omega) (keep1 (bw1) y0 (Nat.le_refl _))⟩) (fun _ => ?_)
           clear hK K e9 f9 l9
           refine wpAnyH_done (by kernel_rfl) ?_ _
           have Hf := Lib.hid (HsetB.out r1 bw1 _ (Hv.out))
           go_wp2
           go_roundw
           case rel => exact ⟨k + 1, by omega, by go_num, Hf.out, belC (belN hbi bw1) _ _ (Nat.le_refl _) _⟩
           case measure => simp [intOf]; omega
        ·have hqd : decide (p = [63]) = false := by simpa using hq
         have Hyes2 := Lib.hid (fun h => (Hyes.out (.inr h)).trans hbz)
         have Hno2 := Lib.hid (fun h => Hno.out hq h)
         clear hq Hyes Hno Hfalse hbz
         obtain ⟨hKx, b2, o2, A3, c3, hA3, hb2, y2, hr3⟩ := (HQr.out wr (bel0 wr)).at_ (k := K) (by have := HN.out; omega)
         subst hA3
         have hvl := Hvs.out _ (List.getElem_mem hKx)
         have hge : ns.getD K [] = ns[K] := by simp [List.getD, hKx]
         simp only [hge] at Hyes2 Hno2
         obtain ⟨u, hu⟩ : ∃ u, ns[K] = u := ⟨_, rfl⟩
         simp only [hu] at Hyes2 Hno2 y2 hr3 hvl
         obtain ⟨ul, hul⟩ : ∃ l, u.length = l := ⟨_, rfl⟩
         rw [hul] at y2 hr3 hvl
         have Hr3 := Lib.hid ((hr3.below hbi).more hbi.size)
         have y3 := keep1 hbi y2 (Nat.le_refl _)
         clear hge hu hul hK hr3 y2
         by_cases he : p = u
         ·have hed : decide (p = u) = true := by simpa using he
          have Hv := Lib.hid (Hyes2.out he)
          clear he Hyes2 Hno2
          go_wp2_with (go_at_call 286; refine (l14Is_any A' pl c' p _ _ (Hru.out wi hbi)).mono ?_; rintro e w' ⟨rfl, rfl⟩)
          refine wp_region_held_drew (S := fun w' => w'.cell? ⟨g, K, none⟩ = some (.bool true) ∧ w'.cell? ⟨b, o + j, none⟩ = some (.slice A' pl c') ∧ w'.cell? ⟨b2, o2 + K, none⟩ = some (.slice A3 ul c3)) (by kernel_rfl) (by exact ⟨e3, y0, y3⟩) (fun hHeld => ?_)
          refine foldH ?_
          intro r0 hr0
          have bw0 : Below wi.heap.size wi r0 := by rw [hr0]; exact (bel0 wi).drew
          clear hr0 hHeld
          refine wpAnyH_take (i := 0) (oi := ?oi301) (v := ?v301) ?hi301 ?hs301 ?hf301 ?hr301 ?hQ301 ?hy301 ?hS301 ?hrest301
          case hi301 => (conv => lhs; simp only [List.getElem?_toArray, List.getElem?_cons_zero]); try exact rfl
          case hs301 => kernel_rfl
          case hf301 => kernel_rfl
          case hr301 => kernel_rfl
          case hQ301 => exact fun _ _ _ h => h
          case hS301 => exact ⟨keep1 (bw0) e3 (Nat.le_refl _), keep1 (bw0) y0 (Nat.le_refl _), keep1 (bw0) y3 (Nat.le_refl _)⟩
          case hy301 => refine Or.inl ⟨by rfl, ?_⟩; intro w hSw; (try dsimp only at hSw); go_simp; (try with_reducible rfl)
          simp only [Act.put, List.setIfInBounds_toArray, List.set_cons_zero, List.set_cons_succ]
          refine wpAnyH_take (i := 1) (oi := ?oi302) (v := ?v302) ?hi302 ?hs302 ?hf302 ?hr302 ?hQ302 ?hy302 ?hS302 ?hrest302
          case hi302 => (conv => lhs; simp only [List.getElem?_toArray, List.getElem?_cons_zero, List.getElem?_cons_succ]); try exact rfl
          case hs302 => kernel_rfl
          case hf302 => kernel_rfl
          case hr302 => kernel_rfl
          case hQ302 => exact fun _ _ _ h => h
          case hS302 => exact ⟨keep1 (bw0) e3 (Nat.le_refl _), keep1 (bw0) y0 (Nat.le_refl _), keep1 (bw0) y3 (Nat.le_refl _)⟩
          case hy302 => refine Or.inl ⟨by rfl, ?_⟩; intro w hSw; (try dsimp only at hSw); go_simp; (try with_reducible rfl)
          simp only [Act.put, List.setIfInBounds_toArray, List.set_cons_zero, List.set_cons_succ]
          refine wpAnyH_take (i := 2) (oi := ?oi303) (v := ?v303) ?hi303 ?hs303 ?hf303 ?hr303 ?hQ303 ?hy303 ?hS303 ?hrest303
          case hi303 => (conv => lhs; simp only [List.getElem?_toArray, List.getElem?_cons_zero, List.getElem?_cons_succ]); try exact rfl
          case hs303 => kernel_rfl
          case hf303 => kernel_rfl
          case hr303 => kernel_rfl
          case hQ303 => exact fun _ _ _ h => h
          case hS303 => exact ⟨keep1 (bw0) e3 (Nat.le_refl _), keep1 (bw0) y0 (Nat.le_refl _), keep1 (bw0) y3 (Nat.le_refl _)⟩
          case hy303 => refine Or.inl ⟨by rfl, ?_⟩; intro w hSw; (try dsimp only at hSw); go_simp; (try with_reducible rfl)
          simp only [Act.put, List.setIfInBounds_toArray, List.set_cons_zero, List.set_cons_succ]
          refine wpAnyH_take (i := 3) (oi := ?oi304) (v := ?v304) ?hi304 ?hs304 ?hf304 ?hr304 ?hQ304 ?hy304 ?hS304 ?hrest304
          case hi304 => (conv => lhs; simp only [List.getElem?_toArray, List.getElem?_cons_zero, List.getElem?_cons_succ]); try exact rfl
          case hs304 => kernel_rfl
          case hf304 => kernel_rfl
          case hr304 => kernel_rfl
          case hQ304 => exact fun _ _ _ h => h
          case hS304 => exact ⟨keep1 (bw0) e3 (Nat.le_refl _), keep1 (bw0) y0 (Nat.le_refl _), keep1 (bw0) y3 (Nat.le_refl _)⟩
          case hy304 => refine Or.inl ⟨by rfl, ?_⟩; intro w hSw; (try dsimp only at hSw); go_simp; (try with_reducible rfl)
          simp only [Act.put, List.setIfInBounds_toArray, List.set_cons_zero, List.set_cons_succ]
          refine wpAnyH_take (i := 4) (oi := ?oi305) (v := ?v305) ?hi305 ?hs305 ?hf305 ?hr305 ?hQ305 ?hy305 ?hS305 ?hrest305
          case hi305 => (conv => lhs; simp only [List.getElem?_toArray, List.getElem?_cons_zero, List.getElem?_cons_succ]); try exact rfl
          case hs305 => kernel_rfl
          case hf305 => kernel_rfl
          case hr305 => kernel_rfl
          case hQ305 => exact fun _ _ _ h => h
          case hS305 => exact ⟨keep1 (bw0) e3 (Nat.le_refl _), keep1 (bw0) y0 (Nat.le_refl _), keep1 (bw0) y3 (Nat.le_refl _)⟩
          case hy305 => refine Or.inl ⟨by rfl, ?_⟩; intro w hSw; (try dsimp only at hSw); go_simp; (try with_reducible rfl)
          simp only [Act.put, List.setIfInBounds_toArray, List.set_cons_zero, List.set_cons_succ]
          refine wpAnyH_take (i := 5) (oi := ?oi306) (v := ?v306) ?hi306 ?hs306 ?hf306 ?hr306 ?hQ306 ?hy306 ?hS306 ?hrest306
          case hi306 => (conv => lhs; simp only [List.getElem?_toArray, List.getElem?_cons_zero, List.getElem?_cons_succ]); try exact rfl
          case hs306 => kernel_rfl
          case hf306 => kernel_rfl
          case hr306 => kernel_rfl
          case hQ306 => exact fun _ _ _ h => h
          case hS306 => exact ⟨keep1 (bw0) e3 (Nat.le_refl _), keep1 (bw0) y0 (Nat.le_refl _), keep1 (bw0) y3 (Nat.le_refl _)⟩
          case hy306 => refine Or.inl ⟨by rfl, ?_⟩; intro w hSw; (try dsimp only at hSw); go_simp; (try with_reducible rfl)
          simp only [Act.put, List.setIfInBounds_toArray, List.set_cons_zero, List.set_cons_succ]
          refine wpAnyH_take (i := 6) (oi := ?oi307) (v := ?v307) ?hi307 ?hs307 ?hf307 ?hr307 ?hQ307 ?hy307 ?hS307 ?hrest307
          case hi307 => (conv => lhs; simp only [List.getElem?_toArray, List.getElem?_cons_zero, List.getElem?_cons_succ]); try exact rfl
          case hs307 => kernel_rfl
          case hf307 => kernel_rfl
          case hr307 => kernel_rfl
          case hQ307 => exact fun _ _ _ h => h
          case hS307 => exact ⟨keep1 (bw0) e3 (Nat.le_refl _), keep1 (bw0) y0 (Nat.le_refl _), keep1 (bw0) y3 (Nat.le_refl _)⟩
          case hy307 => refine Or.inl ⟨by rfl, ?_⟩; intro w hSw; (try dsimp only at hSw); go_simp; (try with_reducible rfl)
          simp only [Act.put, List.setIfInBounds_toArray, List.set_cons_zero, List.set_cons_succ]
          refine wpAnyH_take (i := 7) (oi := ?oi308) (v := ?v308) ?hi308 ?hs308 ?hf308 ?hr308 ?hQ308 ?hy308 ?hS308 ?hrest308
          case hi308 => (conv => lhs; simp only [List.getElem?_toArray, List.getElem?_cons_zero, List.getElem?_cons_succ]); try exact rfl
          case hs308 => kernel_rfl
          case hf308 => kernel_rfl
          case hr308 => kernel_rfl
          case hQ308 => exact fun _ _ _ h => h
          case hS308 => exact ⟨keep1 (bw0) e3 (Nat.le_refl _), keep1 (bw0) y0 (Nat.le_refl _), keep1 (bw0) y3 (Nat.le_refl _)⟩
          case hy308 => refine Or.inl ⟨by rfl, ?_⟩; intro w hSw; (try dsimp only at hSw); go_simp; (try with_reducible rfl)
          simp only [Act.put, List.setIfInBounds_toArray, List.set_cons_zero, List.set_cons_succ]
          refine wpAnyH_take (i := 8) (oi := ?oi309) (v := ?v309) ?hi309 ?hs309 ?hf309 ?hr309 ?hQ309 ?hy309 ?hS309 ?hrest309
          case hi309 => (conv => lhs; simp only [List.getElem?_toArray, List.getElem?_cons_zero, List.getElem?_cons_succ]); try exact rfl
          case hs309 => kernel_rfl
          case hf309 => kernel_rfl
          case hr309 => kernel_rfl
          case hQ309 => exact fun _ _ _ h => h
          case hS309 => exact ⟨keep1 (bw0) e3 (Nat.le_refl _), keep1 (bw0) y0 (Nat.le_refl _), keep1 (bw0) y3 (Nat.le_refl _)⟩
          case hy309 => refine Or.inl ⟨by rfl, ?_⟩; intro w hSw; (try dsimp only at hSw); go_simp; (try with_reducible rfl)
          simp only [Act.put, List.setIfInBounds_toArray, List.set_cons_zero, List.set_cons_succ]
          refine wpAnyH_take (i := 9) (oi := ?oi310) (v := ?v310) ?hi310 ?hs310 ?hf310 ?hr310 ?hQ310 ?hy310 ?hS310 ?hrest310
          case hi310 => (conv => lhs; simp only [List.getElem?_toArray, List.getElem?_cons_zero, List.getElem?_cons_succ]); try exact rfl
          case hs310 => kernel_rfl
          case hf310 => kernel_rfl
          case hr310 => kernel_rfl
          case hQ310 => exact fun _ _ _ h => h
          case hS310 => exact ⟨keep1 (bw0) e3 (Nat.le_refl _), keep1 (bw0) y0 (Nat.le_refl _), keep1 (bw0) y3 (Nat.le_refl _)⟩
          case hy310 => refine Or.inl ⟨by rfl, ?_⟩; intro w hSw; (try dsimp only at hSw); go_simp; (try with_reducible rfl)
          simp only [Act.put, List.setIfInBounds_toArray, List.set_cons_zero, List.set_cons_succ]
          refine wpAnyH_take (i := 10) (oi := ?oi311) (v := ?v311) ?hi311 ?hs311 ?hf311 ?hr311 ?hQ311 ?hy311 ?hS311 ?hrest311
          case hi311 => (conv => lhs; simp only [List.getElem?_toArray, List.getElem?_cons_zero, List.getElem?_cons_succ]); try exact rfl
          case hs311 => kernel_rfl
          case hf311 => kernel_rfl
          case hr311 => kernel_rfl
          case hQ311 => exact fun _ _ _ h => h
          case hS311 => exact ⟨keep1 (bw0) e3 (Nat.le_refl _), keep1 (bw0) y0 (Nat.le_refl _), keep1 (bw0) y3 (Nat.le_refl _)⟩
          case hy311 => refine Or.inl ⟨by rfl, ?_⟩; intro w hSw; (try dsimp only at hSw); go_simp; (try with_reducible rfl)
          simp only [Act.put, List.setIfInBounds_toArray, List.set_cons_zero, List.set_cons_succ]
          refine wpAnyH_take (i := 11) (oi := ?oi312) (v := ?v312) ?hi312 ?hs312 ?hf312 ?hr312 ?hQ312 ?hy312 ?hS312 ?hrest312
          case hi312 => (conv => lhs; simp only [List.getElem?_toArray, List.getElem?_cons_zero, List.getElem?_cons_succ]); try exact rfl
          case hs312 => kernel_rfl
          case hf312 => kernel_rfl
          case hr312 => kernel_rfl
          case hQ312 => exact fun _ _ _ h => h
          case hS312 => exact ⟨keep1 (bw0) e3 (Nat.le_refl _), keep1 (bw0) y0 (Nat.le_refl _), keep1 (bw0) y3 (Nat.le_refl _)⟩
          case hy312 => refine Or.inl ⟨by rfl, ?_⟩; intro w hSw; (try dsimp only at hSw); go_simp; (try with_reducible rfl)
          simp only [Act.put, List.setIfInBounds_toArray, List.set_cons_zero, List.set_cons_succ]
          refine wpAnyH_ready (rs := [12]) (by kernel_rfl) (by simp) ?_
          refine AllReadyH.cons (o := ?oi313) ?hi313 (fun K hK => ?br313) AllReadyH.nil
          case hi313 => (conv => lhs; simp only [List.getElem?_toArray, List.getElem?_cons_zero, List.getElem?_cons_succ]); try exact rfl
          case br313 =>
           go_simp
           go_at_call 286
           refine (l14Is_any A' pl c' p _ r0 (Hru.out r0 (belN hbi bw0))).mono ?_
           rintro e r1 ⟨rfl, hw1⟩
           have bw1 : Below wi.heap.size wi r1 := by subst hw1; exact bw0
           refine hK.out _ _ (by exact ⟨keep1 (bw1) e3 (Nat.le_refl _), keep1 (bw1) y0 (Nat.le_refl _), keep1 (bw1) y3 (Nat.le_refl _)⟩) (fun _ => ?_)
           clear hK K
           refine wpAnyH_take (i := 13) (oi := ?oi314) (v := ?v314) ?hi314 ?hs314 ?hf314 ?hr314 ?hQ314 ?hy314 ?hS314 ?hrest314
           case hi314 => (conv => lhs; simp only [List.getElem?_toArray, List.getElem?_cons_zero, List.getElem?_cons_succ]); try exact rfl
           case hs314 => kernel_rfl
           case hf314 => kernel_rfl
           case hr314 => kernel_rfl
           case hQ314 => exact fun _ _ _ h => h
           case hS314 => exact ⟨keep1 (bw1) e3 (Nat.le_refl _), keep1 (bw1) y0 (Nat.le_refl _), keep1 (bw1) y3 (Nat.le_refl _)⟩
           case hy314 => refine Or.inl ⟨by rfl, ?_⟩; intro w hSw; (try dsimp only at hSw); go_simp; (try with_reducible rfl)
           simp only [Act.put, List.setIfInBounds_toArray, List.set_cons_zero, List.set_cons_succ]
           refine wpAnyH_take (i := 14) (oi := ?oi315) (v := ?v315) ?hi315 ?hs315 ?hf315 ?hr315 ?hQ315 ?hy315 ?hS315 ?hrest315
           case hi315 => (conv => lhs; simp only [List.getElem?_toArray, List.getElem?_cons_zero, List.getElem?_cons_succ]); try exact rfl
           case hs315 => kernel_rfl
           case hf315 => kernel_rfl
           case hr315 => kernel_rfl
           case hQ315 => exact fun _ _ _ h => h
           case hS315 => exact ⟨keep1 (bw1) e3 (Nat.le_refl _), keep1 (bw1) y0 (Nat.le_refl _), keep1 (bw1) y3 (Nat.le_refl _)⟩
           case hy315 => refine Or.inl ⟨by rfl, ?_⟩; intro w hSw; (try dsimp only at hSw); go_simp; (try with_reducible rfl)
           simp only [Act.put, List.setIfInBounds_toArray, List.set_cons_zero, List.set_cons_succ]
           refine wpAnyH_take (i := 15) (oi := ?oi316) (v := ?v316) ?hi316 ?hs316 ?hf316 ?hr316 ?hQ316 ?hy316 ?hS316 ?hrest316
           case hi316 => (conv => lhs; simp only [List.getElem?_toArray, List.getElem?_cons_zero, List.getElem?_cons_succ]); try exact rfl
           case hs316 => kernel_rfl
           case hf316 => kernel_rfl
           case hr316 => kernel_rfl
           case hQ316 => exact fun _ _ _ h => h
           case hS316 => exact ⟨keep1 (bw1) e3 (Nat.le_refl _), keep1 (bw1) y0 (Nat.le_refl _), keep1 (bw1) y3 (Nat.le_refl _)⟩
           case hy316 => refine Or.inl ⟨by rfl, ?_⟩; intro w hSw; (try dsimp only at hSw); go_simp; (try with_reducible rfl)
           simp only [Act.put, List.setIfInBounds_toArray, List.set_cons_zero, List.set_cons_succ]
           refine wpAnyH_take (i := 16) (oi := ?oi317) (v := ?v317) ?hi317 ?hs317 ?hf317 ?hr317 ?hQ317 ?hy317 ?hS317 ?hrest317
           case hi317 => (conv => lhs; simp only [List.getElem?_toArray, List.getElem?_cons_zero, List.getElem?_cons_succ]); try exact rfl
           case hs317 => kernel_rfl
           case hf317 => kernel_rfl
           case hr317 => kernel_rfl
           case hQ317 => exact fun _ _ _ h => h
           case hS317 => exact ⟨keep1 (bw1) e3 (Nat.le_refl _), keep1 (bw1) y0 (Nat.le_refl _), keep1 (bw1) y3 (Nat.le_refl _)⟩
           case hy317 => refine Or.inl ⟨by rfl, ?_⟩; intro w hSw; (try dsimp only at hSw); go_simp; (try with_reducible rfl)
           simp only [Act.put, List.setIfInBounds_toArray, List.set_cons_zero, List.set_cons_succ]
           refine wpAnyH_take (i := 17) (oi := ?oi318) (v := ?v318) ?hi318 ?hs318 ?hf318 ?hr318 ?hQ318 ?hy318 ?hS318 ?hrest318
           case hi318 => (conv => lhs; simp only [List.getElem?_toArray, List.getElem?_cons_zero, List.getElem?_cons_succ]); try exact rfl
           case hs318 => kernel_rfl
           case hf318 => kernel_rfl
           case hr318 => kernel_rfl
           case hQ318 => exact fun _ _ _ h => h
           case hS318 => exact ⟨keep1 (bw1) e3 (Nat.le_refl _), keep1 (bw1) y0 (Nat.le_refl _), keep1 (bw1) y3 (Nat.le_refl _)⟩
           case hy318 => refine Or.inl ⟨by rfl, ?_⟩; intro w hSw; (try dsimp only at hSw); go_simp; (try with_reducible rfl)
           simp only [Act.put, List.setIfInBounds_toArray, List.set_cons_zero, List.set_cons_succ]
           refine wpAnyH_take (i := 18) (oi := ?oi319) (v := ?v319) ?hi319 ?hs319 ?hf319 ?hr319 ?hQ319 ?hy319 ?hS319 ?hrest319
           case hi319 => (conv => lhs; simp only [List.getElem?_toArray, List.getElem?_cons_zero, List.getElem?_cons_succ]); try exact rfl
           case hs319 => kernel_rfl
           case hf319 => kernel_rfl
           case hr319 => kernel_rfl
           case hQ319 => exact fun _ _ _ h => h
           case hS319 => exact ⟨keep1 (bw1) e3 (Nat.le_refl _), keep1 (bw1) y0 (Nat.le_refl _), keep1 (bw1) y3 (Nat.le_refl _)⟩
           case hy319 => refine Or.inl ⟨by rfl, ?_⟩; intro w hSw; (try dsimp only at hSw); go_simp; (try with_reducible rfl)
           simp only [Act.put, List.setIfInBounds_toArray, List.set_cons_zero, List.set_cons_succ]
           refine wpAnyH_take (i := 19) (oi := ?oi320) (v := ?v320) ?hi320 ?hs320 ?hf320 ?hr320 ?hQ320 ?hy320 ?hS320 ?hrest320
           case hi320 => (conv => lhs; simp only [List.getElem?_toArray, List.getElem?_cons_zero, List.getElem?_cons_succ]); try exact rfl
           case hs320 => kernel_rfl
           case hf320 => kernel_rfl
           case hr320 => kernel_rfl
           case hQ320 => exact fun _ _ _ h => h
           case hS320 => exact ⟨keep1 (bw1) e3 (Nat.le_refl _), keep1 (bw1) y0 (Nat.le_refl _), keep1 (bw1) y3 (Nat.le_refl _)⟩
           case hy320 => refine Or.inl ⟨by rfl, ?_⟩; intro w hSw; (try dsimp only at hSw); go_simp; (try with_reducible rfl)
           simp only [Act.put, List.setIfInBounds_toArray, List.set_cons_zero, List.set_cons_succ]
           refine wpAnyH_take (i := 20) (oi := ?oi321) (v := ?v321) ?hi321 ?hs321 ?hf321 ?hr321 ?hQ321 ?hy321 ?hS321 ?hrest321
           case hi321 => (conv => lhs; simp only [List.getElem?_toArray, List.getElem?_cons_zero, List.getElem?_cons_succ]); try exact rfl
           case hs321 => kernel_rfl
           case hf321 => kernel_rfl
           case hr321 => kernel_rfl
           case hQ321 => exact fun _ _ _ h => h
           case hS321 => exact ⟨keep1 (bw1) e3 (Nat.le_refl _), keep1 (bw1) y0 (Nat.le_refl _), keep1 (bw1) y3 (Nat.le_refl _)⟩
           case hy321 => refine Or.inl ⟨by rfl, ?_⟩; intro w hSw; (try dsimp only at hSw); go_simp; (try with_reducible rfl)
           simp only [Act.put, List.setIfInBounds_toArray, List.set_cons_zero, List.set_cons_succ]
           refine wpAnyH_take (i := 21) (oi := ?oi322) (v := ?v322) ?hi322 ?hs322 ?hf322 ?hr322 ?hQ322 ?hy322 ?hS322 ?hrest322
           case hi322 => (conv => lhs; simp only [List.getElem?_toArray, List.getElem?_cons_zero, List.getElem?_cons_succ]); try exact rfl
           case hs322 => kernel_rfl
           case hf322 => kernel_rfl
           case hr322 => kernel_rfl
           case hQ322 => exact fun _ _ _ h => h
           case hS322 => exact ⟨keep1 (bw1) e3 (Nat.le_refl _), keep1 (bw1) y0 (Nat.le_refl _), keep1 (bw1) y3 (Nat.le_refl _)⟩
           case hy322 => refine Or.inl ⟨by rfl, ?_⟩; intro w hSw; (try dsimp only at hSw); go_simp; (try with_reducible rfl)
           simp only [Act.put, List.setIfInBounds_toArray, List.set_cons_zero, List.set_cons_succ]
           refine wpAnyH_take (i := 22) (oi := ?oi323) (v := ?v323) ?hi323 ?hs323 ?hf323 ?hr323 ?hQ323 ?hy323 ?hS323 ?hrest323
           case hi323 => (conv => lhs; simp only [List.getElem?_toArray, List.getElem?_cons_zero, List.getElem?_cons_succ]); try exact rfl
           case hs323 => kernel_rfl
           case hf323 => kernel_rfl
           case hr323 => kernel_rfl
           case hQ323 => exact fun _ _ _ h => h
           case hS323 => exact ⟨keep1 (bw1) e3 (Nat.le_refl _), keep1 (bw1) y0 (Nat.le_refl _), keep1 (bw1) y3 (Nat.le_refl _)⟩
           case hy323 => refine Or.inl ⟨by rfl, ?_⟩; intro w hSw; (try dsimp only at hSw); go_simp; (try with_reducible rfl)
           simp only [Act.put, List.setIfInBounds_toArray, List.set_cons_zero, List.set_cons_succ]
           refine wpAnyH_ready (rs := [23]) (by kernel_rfl) (by simp) ?_
           refine AllReadyH.cons (o := ?oi324) ?hi324 (fun K hK => ?br324) AllReadyH.nil
           case hi324 => (conv => lhs; simp only [List.getElem?_toArray, List.getElem?_cons_zero, List.getElem?_cons_succ]); try exact rfl
           case br324 =>
            go_simp
            go_at_call 287
            refine (l14Same_any A' A3 pl c' ul c3 p u hpl hvl r1 (Hru.out r1 (belN hbi bw1)) ((Hr3.out.below bw1).more bw1.size)).mono ?_
            rintro e r2 ⟨rfl, hw2⟩
            have bw2 : Below wi.heap.size wi r2 := by obtain ⟨nq, rfl⟩ := hw2; exact below_drewN bw1 nq
            refine hK.out _ _ (by exact ⟨keep1 (bw2) e3 (Nat.le_refl _), keep1 (bw2) y0 (Nat.le_refl _), keep1 (bw2) y3 (Nat.le_refl _)⟩) (fun _ => ?_)
            clear hK K
            refine wpAnyH_take (i := 24) (oi := ?oi325) (v := ?v325) ?hi325 ?hs325 ?hf325 ?hr325 ?hQ325 ?hy325 ?hS325 ?hrest325
            case hi325 => (conv => lhs; simp only [List.getElem?_toArray, List.getElem?_cons_zero, List.getElem?_cons_succ]); try exact rfl
            case hs325 => kernel_rfl
            case hf325 => kernel_rfl
            case hr325 => kernel_rfl
            case hQ325 => exact fun _ _ _ h => h
            case hS325 => exact ⟨keep1 (bw2) e3 (Nat.le_refl _), keep1 (bw2) y0 (Nat.le_refl _), keep1 (bw2) y3 (Nat.le_refl _)⟩
            case hy325 => refine Or.inl ⟨by rfl, ?_⟩; intro w hSw; (try dsimp only at hSw); go_simp; (try with_reducible rfl)
            simp only [Act.put, List.setIfInBounds_toArray, List.set_cons_zero, List.set_cons_succ]
            refine wpAnyH_take (i := 25) (oi := ?oi326) (v := ?v326) ?hi326 ?hs326 ?hf326 ?hr326 ?hQ326 ?hy326 ?hS326 ?hrest326
            case hi326 => (conv => lhs; simp only [List.getElem?_toArray, List.getElem?_cons_zero, List.getElem?_cons_succ]); try exact rfl
            case hs326 => kernel_rfl
            case hf326 => kernel_rfl
            case hr326 => kernel_rfl
            case hQ326 => exact fun _ _ _ h => h
            case hS326 => exact ⟨keep1 (bw2) e3 (Nat.le_refl _), keep1 (bw2) y0 (Nat.le_refl _), keep1 (bw2) y3 (Nat.le_refl _)⟩
            case hy326 => refine Or.inl ⟨by rfl, ?_⟩; intro w hSw; (try dsimp only at hSw); go_simp; (try with_reducible rfl)
            simp only [Act.put, List.setIfInBounds_toArray, List.set_cons_zero, List.set_cons_succ]
            refine wpAnyH_take (i := 26) (oi := ?oi327) (v := ?v327) ?hi327 ?hs327 ?hf327 ?hr327 ?hQ327 ?hy327 ?hS327 ?hrest327
            case hi327 => (conv => lhs; simp only [List.getElem?_toArray, List.getElem?_cons_zero, List.getElem?_cons_succ]); try exact rfl
            case hs327 => kernel_rfl
            case hf327 => kernel_rfl
            case hr327 => kernel_rfl
            case hQ327 => exact fun _ _ _ h => h
            case hS327 => exact ⟨keep1 (bw2) e3 (Nat.le_refl _), keep1 (bw2) y0 (Nat.le_refl _), keep1 (bw2) y3 (Nat.le_refl _)⟩
            case hy327 => refine Or.inl ⟨by rfl, ?_⟩; intro w hSw; (try dsimp only at hSw); go_simp; (try with_reducible rfl)
            simp only [Act.put, List.setIfInBounds_toArray, List.set_cons_zero, List.set_cons_succ]
            refine wpAnyH_ready (rs := [27]) (by kernel_rfl) (by simp) ?_
            refine AllReadyH.cons (o := ?oi328) ?hi328 (fun K hK => ?br328) AllReadyH.nil
            case hi328 => (conv => lhs; simp only [List.getElem?_toArray, List.getElem?_cons_zero, List.getElem?_cons_succ]); try exact rfl
            case br328 =>
             have ownr := own_below Hown2.out bw2 (Nat.le_refl _)
             have e9 := own_bool ownr hcur
             have f9 := own_frozen ownr k
             have l9 := (own_lt ownr).2
             clear ownr
             go_simp
             refine hK.out _ _ (by exact ⟨farC (by omega) (keep1 (bw2) e3 (Nat.le_refl _)), farC (by omega) (keep1 (bw2) y0 (Nat.le_refl _)), farC (by omega) (keep1 (bw2) y3 (Nat.le_refl _))⟩) (fun _ => ?_)
             clear hK K e9 f9 l9
             refine wpAnyH_done (by kernel_rfl) ?_ _
             have Hf := Lib.hid (HsetB.out r2 bw2 _ (Hv.out))
             go_wp2
             go_roundw
             case rel => exact ⟨k + 1, by omega, by go_num, Hf.out, belC (belN hbi bw2) _ _ (Nat.le_refl _) _⟩
             case measure => simp [intOf]; omega
         ·have hed : decide (p = u) = false := by simpa using he
          have Hv := Lib.hid (Hno2.out he)
          clear he Hyes2 Hno2
          go_wp2_with (go_at_call 286; refine (l14Is_any A' pl c' p _ _ (Hru.out wi hbi)).mono ?_; rintro e w' ⟨rfl, rfl⟩)
          refine wp_region_held_drew (S := fun w' => w'.cell? ⟨g, K, none⟩ = some (.bool true) ∧ w'.cell? ⟨b, o + j, none⟩ = some (.slice A' pl c') ∧ w'.cell? ⟨b2, o2 + K, none⟩ = some (.slice A3 ul c3)) (by kernel_rfl) (by exact ⟨e3, y0, y3⟩) (fun hHeld => ?_)
          refine foldH ?_
          intro r0 hr0
          have bw0 : Below wi.heap.size wi r0 := by rw [hr0]; exact (bel0 wi).drew
          clear hr0 hHeld
          refine wpAnyH_take (i := 0) (oi := ?oi401) (v := ?v401) ?hi401 ?hs401 ?hf401 ?hr401 ?hQ401 ?hy401 ?hS401 ?hrest401
          case hi401 => (conv => lhs; simp only [List.getElem?_toArray, List.getElem?_cons_zero]); try exact rfl
          case hs401 => kernel_rfl
          case hf401 => kernel_rfl
          case hr401 => kernel_rfl
          case hQ401 => exact fun _ _ _ h => h
          case hS401 => exact ⟨keep1 (bw0) e3 (Nat.le_refl _), keep1 (bw0) y0 (Nat.le_refl _), keep1 (bw0) y3 (Nat.le_refl _)⟩
          case hy401 => refine Or.inl ⟨by rfl, ?_⟩; intro w hSw; (try dsimp only at hSw); go_simp; (try with_reducible rfl)
          simp only [Act.put, List.setIfInBounds_toArray, List.set_cons_zero, List.set_cons_succ]
          refine wpAnyH_take (i := 1) (oi := ?oi402) (v := ?v402) ?hi402 ?hs402 ?hf402 ?hr402 ?hQ402 ?hy402 ?hS402 ?hrest402
          case hi402 => (conv => lhs; simp only [List.getElem?_toArray, List.getElem?_cons_zero, List.getElem?_cons_succ]); try exact rfl
          case hs402 => kernel_rfl
          case hf402 => kernel_rfl
          case hr402 => kernel_rfl
          case hQ402 => exact fun _ _ _ h => h
          case hS402 => exact ⟨keep1 (bw0) e3 (Nat.le_refl _), keep1 (bw0) y0 (Nat.le_refl _), keep1 (bw0) y3 (Nat.le_refl _)⟩
          case hy402 => refine Or.inl ⟨by rfl, ?_⟩; intro w hSw; (try dsimp only at hSw); go_simp; (try with_reducible rfl)
          simp only [Act.put, List.setIfInBounds_toArray, List.set_cons_zero, List.set_cons_succ]
          refine wpAnyH_take (i := 2) (oi := ?oi403) (v := ?v403) ?hi403 ?hs403 ?hf403 ?hr403 ?hQ403 ?hy403 ?hS403 ?hrest403
          case hi403 => (conv => lhs; simp only [List.getElem?_toArray, List.getElem?_cons_zero, List.getElem?_cons_succ]); try exact rfl
          case hs403 => kernel_rfl
          case hf403 => kernel_rfl
          case hr403 => kernel_rfl
          case hQ403 => exact fun _ _ _ h => h
          case hS403 => exact ⟨keep1 (bw0) e3 (Nat.le_refl _), keep1 (bw0) y0 (Nat.le_refl _), keep1 (bw0) y3 (Nat.le_refl _)⟩
          case hy403 => refine Or.inl ⟨by rfl, ?_⟩; intro w hSw; (try dsimp only at hSw); go_simp; (try with_reducible rfl)
          simp only [Act.put, List.setIfInBounds_toArray, List.set_cons_zero, List.set_cons_succ]
          refine wpAnyH_take (i := 3) (oi := ?oi404) (v := ?v404) ?hi404 ?hs404 ?hf404 ?hr404 ?hQ404 ?hy404 ?hS404 ?hrest404
          case hi404 => (conv => lhs; simp only [List.getElem?_toArray, List.getElem?_cons_zero, List.getElem?_cons_succ]); try exact rfl
          case hs404 => kernel_rfl
          case hf404 => kernel_rfl
          case hr404 => kernel_rfl
          case hQ404 => exact fun _ _ _ h => h
          case hS404 => exact ⟨keep1 (bw0) e3 (Nat.le_refl _), keep1 (bw0) y0 (Nat.le_refl _), keep1 (bw0) y3 (Nat.le_refl _)⟩
          case hy404 => refine Or.inl ⟨by rfl, ?_⟩; intro w hSw; (try dsimp only at hSw); go_simp; (try with_reducible rfl)
          simp only [Act.put, List.setIfInBounds_toArray, List.set_cons_zero, List.set_cons_succ]
          refine wpAnyH_take (i := 4) (oi := ?oi405) (v := ?v405) ?hi405 ?hs405 ?hf405 ?hr405 ?hQ405 ?hy405 ?hS405 ?hrest405
          case hi405 => (conv => lhs; simp only [List.getElem?_toArray, List.getElem?_cons_zero, List.getElem?_cons_succ]); try exact rfl
          case hs405 => kernel_rfl
          case hf405 => kernel_rfl
          case hr405 => kernel_rfl
          case hQ405 => exact fun _ _ _ h => h
          case hS405 => exact ⟨keep1 (bw0) e3 (Nat.le_refl _), keep1 (bw0) y0 (Nat.le_refl _), keep1 (bw0) y3 (Nat.le_refl _)⟩
          case hy405 => refine Or.inl ⟨by rfl, ?_⟩; intro w hSw; (try dsimp only at hSw); go_simp; (try with_reducible rfl)
          simp only [Act.put, List.setIfInBounds_toArray, List.set_cons_zero, List.set_cons_succ]
          refine wpAnyH_take (i := 5) (oi := ?oi406) (v := ?v406) ?hi406 ?hs406 ?hf406 ?hr406 ?hQ406 ?hy406 ?hS406 ?hrest406
          case hi406 => (conv => lhs; simp only [List.getElem?_toArray, List.getElem?_cons_zero, List.getElem?_cons_succ]); try exact rfl
          case hs406 => kernel_rfl
          case hf406 => kernel_rfl
          case hr406 => kernel_rfl
          case hQ406 => exact fun _ _ _ h => h
          case hS406 => exact ⟨keep1 (bw0) e3 (Nat.le_refl _), keep1 (bw0) y0 (Nat.le_refl _), keep1 (bw0) y3 (Nat.le_refl _)⟩
          case hy406 => refine Or.inl ⟨by rfl, ?_⟩; intro w hSw; (try dsimp only at hSw); go_simp; (try with_reducible rfl)
          simp only [Act.put, List.setIfInBounds_toArray, List.set_cons_zero, List.set_cons_succ]
          refine wpAnyH_take (i := 6) (oi := ?oi407) (v := ?v407) ?hi407 ?hs407 ?hf407 ?hr407 ?hQ407 ?hy407 ?hS407 ?hrest407
          case hi407 => (conv => lhs; simp only [List.getElem?_toArray, List.getElem?_cons_zero, List.getElem?_cons_succ]); try exact rfl
          case hs407 => kernel_rfl
          case hf407 => kernel_rfl
          case hr407 => kernel_rfl
          case hQ407 => exact fun _ _ _ h => h
          case hS407 => exact ⟨keep1 (bw0) e3 (Nat.le_refl _), keep1 (bw0) y0 (Nat.le_refl _), keep1 (bw0) y3 (Nat.le_refl _)⟩
          case hy407 => refine Or.inl ⟨by rfl, ?_⟩; intro w hSw; (try dsimp only at hSw); go_simp; (try with_reducible rfl)
          simp only [Act.put, List.setIfInBounds_toArray, List.set_cons_zero, List.set_cons_succ]
          refine wpAnyH_take (i := 7) (oi := ?oi408) (v := ?v408) ?hi408 ?hs408 ?hf408 ?hr408 ?hQ408 ?hy408 ?hS408 ?hrest408
          case hi408 => (conv => lhs; simp only [List.getElem?_toArray, List.getElem?_cons_zero, List.getElem?_cons_succ]); try exact rfl
          case hs408 => kernel_rfl
          case hf408 => kernel_rfl
          case hr408 => kernel_rfl
          case hQ408 => exact fun _ _ _ h => h
          case hS408 => exact ⟨keep1 (bw0) e3 (Nat.le_refl _), keep1 (bw0) y0 (Nat.le_refl _), keep1 (bw0) y3 (Nat.le_refl _)⟩
          case hy408 => refine Or.inl ⟨by rfl, ?_⟩; intro w hSw; (try dsimp only at hSw); go_simp; (try with_reducible rfl)
          simp only [Act.put, List.setIfInBounds_toArray, List.set_cons_zero, List.set_cons_succ]
          refine wpAnyH_take (i := 8) (oi := ?oi409) (v := ?v409) ?hi409 ?hs409 ?hf409 ?hr409 ?hQ409 ?hy409 ?hS409 ?hrest409
          case hi409 => (conv => lhs; simp only [List.getElem?_toArray, List.getElem?_cons_zero, List.getElem?_cons_succ]); try exact rfl
          case hs409 => kernel_rfl
          case hf409 => kernel_rfl
          case hr409 => kernel_rfl
          case hQ409 => exact fun _ _ _ h => h
          case hS409 => exact ⟨keep1 (bw0) e3 (Nat.le_refl _), keep1 (bw0) y0 (Nat.le_refl _), keep1 (bw0) y3 (Nat.le_refl _)⟩
          case hy409 => refine Or.inl ⟨by rfl, ?_⟩; intro w hSw; (try dsimp only at hSw); go_simp; (try with_reducible rfl)
          simp only [Act.put, List.setIfInBounds_toArray, List.set_cons_zero, List.set_cons_succ]
          refine wpAnyH_take (i := 9) (oi := ?oi410) (v := ?v410) ?hi410 ?hs410 ?hf410 ?hr410 ?hQ410 ?hy410 ?hS410 ?hrest410
          case hi410 => (conv => lhs; simp only [List.getElem?_toArray, List.getElem?_cons_zero, List.getElem?_cons_succ]); try exact rfl
          case hs410 => kernel_rfl
          case hf410 => kernel_rfl
          case hr410 => kernel_rfl
          case hQ410 => exact fun _ _ _ h => h
          case hS410 => exact ⟨keep1 (bw0) e3 (Nat.le_refl _), keep1 (bw0) y0 (Nat.le_refl _), keep1 (bw0) y3 (Nat.le_refl _)⟩
          case hy410 => refine Or.inl ⟨by rfl, ?_⟩; intro w hSw; (try dsimp only at hSw); go_simp; (try with_reducible rfl)
          simp only [Act.put, List.setIfInBounds_toArray, List.set_cons_zero, List.set_cons_succ]
          refine wpAnyH_take (i := 10) (oi := ?oi411) (v := ?v411) ?hi411 ?hs411 ?hf411 ?hr411 ?hQ411 ?hy411 ?hS411 ?hrest411
          case hi411 => (conv => lhs; simp only [List.getElem?_toArray, List.getElem?_cons_zero, List.getElem?_cons_succ]); try exact rfl
          case hs411 => kernel_rfl
          case hf411 => kernel_rfl
          case hr411 => kernel_rfl
          case hQ411 => exact fun _ _ _ h => h
          case hS411 => exact ⟨keep1 (bw0) e3 (Nat.le_refl _), keep1 (bw0) y0 (Nat.le_refl _), keep1 (bw0) y3 (Nat.le_refl _)⟩
          case hy411 => refine Or.inl ⟨by rfl, ?_⟩; intro w hSw; (try dsimp only at hSw); go_simp; (try with_reducible rfl)
          simp only [Act.put, List.setIfInBounds_toArray, List.set_cons_zero, List.set_cons_succ]
          refine wpAnyH_take (i := 11) (oi := ?oi412) (v := ?v412) ?hi412 ?hs412 ?hf412 ?hr412 ?hQ412 ?hy412 ?hS412 ?hrest412
          case hi412 => (conv => lhs; simp only [List.getElem?_toArray, List.getElem?_cons_zero, List.getElem?_cons_succ]); try exact rfl
          case hs412 => kernel_rfl
          case hf412 => kernel_rfl
          case hr412 => kernel_rfl
          case hQ412 => exact fun _ _ _ h => h
          case hS412 => exact ⟨keep1 (bw0) e3 (Nat.le_refl _), keep1 (bw0) y0 (Nat.le_refl _), keep1 (bw0) y3 (Nat.le_refl _)⟩
          case hy412 => refine Or.inl ⟨by rfl, ?_⟩; intro w hSw; (try dsimp only at hSw); go_simp; (try with_reducible rfl)
          simp only [Act.put, List.setIfInBounds_toArray, List.set_cons_zero, List.set_cons_succ]
          refine wpAnyH_ready (rs := [12]) (by kernel_rfl) (by simp) ?_
          refine AllReadyH.cons (o := ?oi413) ?hi413 (fun K hK => ?br413) AllReadyH.nil
          case hi413 => (conv => lhs; simp only [List.getElem?_toArray, List.getElem?_cons_zero, List.getElem?_cons_succ]); try exact rfl
          case br413 =>
           go_simp
           go_at_call 286
           refine (l14Is_any A' pl c' p _ r0 (Hru.out r0 (belN hbi bw0))).mono ?_
           rintro e r1 ⟨rfl, hw1⟩
           have bw1 : Below wi.heap.size wi r1 := by subst hw1; exact bw0
           refine hK.out _ _ (by exact ⟨keep1 (bw1) e3 (Nat.le_refl _), keep1 (bw1) y0 (Nat.le_refl _), keep1 (bw1) y3 (Nat.le_refl _)⟩) (fun _ => ?_)
           clear hK K
           refine wpAnyH_take (i := 13) (oi := ?oi414) (v := ?v414) ?hi414 ?hs414 ?hf414 ?hr414 ?hQ414 ?hy414 ?hS414 ?hrest414
           case hi414 => (conv => lhs; simp only [List.getElem?_toArray, List.getElem?_cons_zero, List.getElem?_cons_succ]); try exact rfl
           case hs414 => kernel_rfl
           case hf414 => kernel_rfl
           case hr414 => kernel_rfl
           case hQ414 => exact fun _ _ _ h => h
           case hS414 => exact ⟨keep1 (bw1) e3 (Nat.le_refl _), keep1 (bw1) y0 (Nat.le_refl _), keep1 (bw1) y3 (Nat.le_refl _)⟩
           case hy414 => refine Or.inl ⟨by rfl, ?_⟩; intro w hSw; (try dsimp only at hSw); go_simp; (try with_reducible rfl)
           simp only [Act.put, List.setIfInBounds_toArray, List.set_cons_zero, List.set_cons_succ]
           refine wpAnyH_take (i := 14) (oi := ?oi415) (v := ?v415) ?hi415 ?hs415 ?hf415 ?hr415 ?hQ415 ?hy415 ?hS415 ?hrest415
           case hi415 => (conv => lhs; simp only [List.getElem?_toArray, List.getElem?_cons_zero, List.getElem?_cons_succ]); try exact rfl
           case hs415 => kernel_rfl
           case hf415 => kernel_rfl
           case hr415 => kernel_rfl
           case hQ415 => exact fun _ _ _ h => h
           case hS415 => exact ⟨keep1 (bw1) e3 (Nat.le_refl _), keep1 (bw1) y0 (Nat.le_refl _), keep1 (bw1) y3 (Nat.le_refl _)⟩
           case hy415 => refine Or.inl ⟨by rfl, ?_⟩; intro w hSw; (try dsimp only at hSw); go_simp; (try with_reducible rfl)
           simp only [Act.put, List.setIfInBounds_toArray, List.set_cons_zero, List.set_cons_succ]
           refine wpAnyH_take (i := 15) (oi := ?oi416) (v := ?v416) ?hi416 ?hs416 ?hf416 ?hr416 ?hQ416 ?hy416 ?hS416 ?hrest416
           case hi416 => (conv => lhs; simp only [List.getElem?_toArray, List.getElem?_cons_zero, List.getElem?_cons_succ]); try exact rfl
           case hs416 => kernel_rfl
           case hf416 => kernel_rfl
           case hr416 => kernel_rfl
           case hQ416 => exact fun _ _ _ h => h
           case hS416 => exact ⟨keep1 (bw1) e3 (Nat.le_refl _), keep1 (bw1) y0 (Nat.le_refl _), keep1 (bw1) y3 (Nat.le_refl _)⟩
           case hy416 => refine Or.inl ⟨by rfl, ?_⟩; intro w hSw; (try dsimp only at hSw); go_simp; (try with_reducible rfl)
           simp only [Act.put, List.setIfInBounds_toArray, List.set_cons_zero, List.set_cons_succ]
           refine wpAnyH_take (i := 16) (oi := ?oi417) (v := ?v417) ?hi417 ?hs417 ?hf417 ?hr417 ?hQ417 ?hy417 ?hS417 ?hrest417
           case hi417 => (conv => lhs; simp only [List.getElem?_toArray, List.getElem?_cons_zero, List.getElem?_cons_succ]); try exact rfl
           case hs417 => kernel_rfl
           case hf417 => kernel_rfl
           case hr417 => kernel_rfl
           case hQ417 => exact fun _ _ _ h => h
           case hS417 => exact ⟨keep1 (bw1) e3 (Nat.le_refl _), keep1 (bw1) y0 (Nat.le_refl _), keep1 (bw1) y3 (Nat.le_refl _)⟩
           case hy417 => refine Or.inl ⟨by rfl, ?_⟩; intro w hSw; (try dsimp only at hSw); go_simp; (try with_reducible rfl)
           simp only [Act.put, List.setIfInBounds_toArray, List.set_cons_zero, List.set_cons_succ]
           refine wpAnyH_take (i := 17) (oi := ?oi418) (v := ?v418) ?hi418 ?hs418 ?hf418 ?hr418 ?hQ418 ?hy418 ?hS418 ?hrest418
           case hi418 => (conv => lhs; simp only [List.getElem?_toArray, List.getElem?_cons_zero, List.getElem?_cons_succ]); try exact rfl
           case hs418 => kernel_rfl
           case hf418 => kernel_rfl
           case hr418 => kernel_rfl
           case hQ418 => exact fun _ _ _ h => h
           case hS418 => exact ⟨keep1 (bw1) e3 (Nat.le_refl _), keep1 (bw1) y0 (Nat.le_refl _), keep1 (bw1) y3 (Nat.le_refl _)⟩
           case hy418 => refine Or.inl ⟨by rfl, ?_⟩; intro w hSw; (try dsimp only at hSw); go_simp; (try with_reducible rfl)
           simp only [Act.put, List.setIfInBounds_toArray, List.set_cons_zero, List.set_cons_succ]
           refine wpAnyH_take (i := 18) (oi := ?oi419) (v := ?v419) ?hi419 ?hs419 ?hf419 ?hr419 ?hQ419 ?hy419 ?hS419 ?hrest419
           case hi419 => (conv => lhs; simp only [List.getElem?_toArray, List.getElem?_cons_zero, List.getElem?_cons_succ]); try exact rfl
           case hs419 => kernel_rfl
           case hf419 => kernel_rfl
           case hr419 => kernel_rfl
           case hQ419 => exact fun _ _ _ h => h
           case hS419 => exact ⟨keep1 (bw1) e3 (Nat.le_refl _), keep1 (bw1) y0 (Nat.le_refl _), keep1 (bw1) y3 (Nat.le_refl _)⟩
           case hy419 => refine Or.inl ⟨by rfl, ?_⟩; intro w hSw; (try dsimp only at hSw); go_simp; (try with_reducible rfl)
           simp only [Act.put, List.setIfInBounds_toArray, List.set_cons_zero, List.set_cons_succ]
           refine wpAnyH_take (i := 19) (oi := ?oi420) (v := ?v420) ?hi420 ?hs420 ?hf420 ?hr420 ?hQ420 ?hy420 ?hS420 ?hrest420
           case hi420 => (conv => lhs; simp only [List.getElem?_toArray, List.getElem?_cons_zero, List.getElem?_cons_succ]); try exact rfl
           case hs420 => kernel_rfl
           case hf420 => kernel_rfl
           case hr420 => kernel_rfl
           case hQ420 => exact fun _ _ _ h => h
           case hS420 => exact ⟨keep1 (bw1) e3 (Nat.le_refl _), keep1 (bw1) y0 (Nat.le_refl _), keep1 (bw1) y3 (Nat.le_refl _)⟩
           case hy420 => refine Or.inl ⟨by rfl, ?_⟩; intro w hSw; (try dsimp only at hSw); go_simp; (try with_reducible rfl)
           simp only [Act.put, List.setIfInBounds_toArray, List.set_cons_zero, List.set_cons_succ]
           refine wpAnyH_take (i := 20) (oi := ?oi421) (v := ?v421) ?hi421 ?hs421 ?hf421 ?hr421 ?hQ421 ?hy421 ?hS421 ?hrest421
           case hi421 => (conv => lhs; simp only [List.getElem?_toArray, List.getElem?_cons_zero, List.getElem?_cons_succ]); try exact rfl
           case hs421 => kernel_rfl
           case hf421 => kernel_rfl
           case hr421 => kernel_rfl
           case hQ421 => exact fun _ _ _ h => h
           case hS421 => exact ⟨keep1 (bw1) e3 (Nat.le_refl _), keep1 (bw1) y0 (Nat.le_refl _), keep1 (bw1) y3 (Nat.le_refl _)⟩
           case hy421 => refine Or.inl ⟨by rfl, ?_⟩; intro w hSw; (try dsimp only at hSw); go_simp; (try with_reducible rfl)
           simp only [Act.put, List.setIfInBounds_toArray, List.set_cons_zero, List.set_cons_succ]
           refine wpAnyH_take (i := 21) (oi := ?oi422) (v := ?v422) ?hi422 ?hs422 ?hf422 ?hr422 ?hQ422 ?hy422 ?hS422 ?hrest422
           case hi422 => (conv => lhs; simp only [List.getElem?_toArray, List.getElem?_cons_zero, List.getElem?_cons_succ]); try exact rfl
           case hs422 => kernel_rfl
           case hf422 => kernel_rfl
           case hr422 => kernel_rfl
           case hQ422 => exact fun _ _ _ h => h
           case hS422 => exact ⟨keep1 (bw1) e3 (Nat.le_refl _), keep1 (bw1) y0 (Nat.le_refl _), keep1 (bw1) y3 (Nat.le_refl _)⟩
           case hy422 => refine Or.inl ⟨by rfl, ?_⟩; intro w hSw; (try dsimp only at hSw); go_simp; (try with_reducible rfl)
           simp only [Act.put, List.setIfInBounds_toArray, List.set_cons_zero, List.set_cons_succ]
           refine wpAnyH_take (i := 22) (oi := ?oi423) (v := ?v423) ?hi423 ?hs423 ?hf423 ?hr423 ?hQ423 ?hy423 ?hS423 ?hrest423
           case hi423 => (conv => lhs; simp only [List.getElem?_toArray, List.getElem?_cons_zero, List.getElem?_cons_succ]); try exact rfl
           case hs423 => kernel_rfl
           case hf423 => kernel_rfl
           case hr423 => kernel_rfl
           case hQ423 => exact fun _ _ _ h => h
           case hS423 => exact ⟨keep1 (bw1) e3 (Nat.le_refl _), keep1 (bw1) y0 (Nat.le_refl _), keep1 (bw1) y3 (Nat.le_refl _)⟩
           case hy423 => refine Or.inl ⟨by rfl, ?_⟩; intro w hSw; (try dsimp only at hSw); go_simp; (try with_reducible rfl)
           simp only [Act.put, List.setIfInBounds_toArray, List.set_cons_zero, List.set_cons_succ]
           refine wpAnyH_ready (rs := [23]) (by kernel_rfl) (by simp) ?_
           refine AllReadyH.cons (o := ?oi424) ?hi424 (fun K hK => ?br424) AllReadyH.nil
           case hi424 => (conv => lhs; simp only [List.getElem?_toArray, List.getElem?_cons_zero, List.getElem?_cons_succ]); try exact rfl
           case br424 =>
            go_simp
            go_at_call 287
            refine (l14Same_any A' A3 pl c' ul c3 p u hpl hvl r1 (Hru.out r1 (belN hbi bw1)) ((Hr3.out.below bw1).more bw1.size)).mono ?_
            rintro e r2 ⟨rfl, hw2⟩
            have bw2 : Below wi.heap.size wi r2 := by obtain ⟨nq, rfl⟩ := hw2; exact below_drewN bw1 nq
            refine hK.out _ _ (by exact ⟨keep1 (bw2) e3 (Nat.le_refl _), keep1 (bw2) y0 (Nat.le_refl _), keep1 (bw2) y3 (Nat.le_refl _)⟩) (fun _ => ?_)
            clear hK K
            refine wpAnyH_take (i := 24) (oi := ?oi425) (v := ?v425) ?hi425 ?hs425 ?hf425 ?hr425 ?hQ425 ?hy425 ?hS425 ?hrest425
            case hi425 => (conv => lhs; simp only [List.getElem?_toArray, List.getElem?_cons_zero, List.getElem?_cons_succ]); try exact rfl
            case hs425 => kernel_rfl
            case hf425 => kernel_rfl
            case hr425 => kernel_rfl
            case hQ425 => exact fun _ _ _ h => h
            case hS425 => exact ⟨keep1 (bw2) e3 (Nat.le_refl _), keep1 (bw2) y0 (Nat.le_refl _), keep1 (bw2) y3 (Nat.le_refl _)⟩
            case hy425 => refine Or.inl ⟨by rfl, ?_⟩; intro w hSw; (try dsimp only at hSw); go_simp; (try with_reducible rfl)
            simp only [Act.put, List.setIfInBounds_toArray, List.set_cons_zero, List.set_cons_succ]
            refine wpAnyH_take (i := 25) (oi := ?oi426) (v := ?v426) ?hi426 ?hs426 ?hf426 ?hr426 ?hQ426 ?hy426 ?hS426 ?hrest426
            case hi426 => (conv => lhs; simp only [List.getElem?_toArray, List.getElem?_cons_zero, List.getElem?_cons_succ]); try exact rfl
            case hs426 => kernel_rfl
            case hf426 => kernel_rfl
            case hr426 => kernel_rfl
            case hQ426 => exact fun _ _ _ h => h
            case hS426 => exact ⟨keep1 (bw2) e3 (Nat.le_refl _), keep1 (bw2) y0 (Nat.le_refl _), keep1 (bw2) y3 (Nat.le_refl _)⟩
            case hy426 => refine Or.inl ⟨by rfl, ?_⟩; intro w hSw; (try dsimp only at hSw); go_simp; (try with_reducible rfl)
            simp only [Act.put, List.setIfInBounds_toArray, List.set_cons_zero, List.set_cons_succ]
            refine wpAnyH_take (i := 26) (oi := ?oi427) (v := ?v427) ?hi427 ?hs427 ?hf427 ?hr427 ?hQ427 ?hy427 ?hS427 ?hrest427
            case hi427 => (conv => lhs; simp only [List.getElem?_toArray, List.getElem?_cons_zero, List.getElem?_cons_succ]); try exact rfl
            case hs427 => kernel_rfl
            case hf427 => kernel_rfl
            case hr427 => kernel_rfl
            case hQ427 => exact fun _ _ _ h => h
            case hS427 => exact ⟨keep1 (bw2) e3 (Nat.le_refl _), keep1 (bw2) y0 (Nat.le_refl _), keep1 (bw2) y3 (Nat.le_refl _)⟩
            case hy427 => refine Or.inl ⟨by rfl, ?_⟩; intro w hSw; (try dsimp only at hSw); go_simp; (try with_reducible rfl)
            simp only [Act.put, List.setIfInBounds_toArray, List.set_cons_zero, List.set_cons_succ]
            refine wpAnyH_ready (rs := [27]) (by kernel_rfl) (by simp) ?_
            refine AllReadyH.cons (o := ?oi428) ?hi428 (fun K hK => ?br428) AllReadyH.nil
            case hi428 => (conv => lhs; simp only [List.getElem?_toArray, List.getElem?_cons_zero, List.getElem?_cons_succ]); try exact rfl
            case br428 =>
             have ownr := own_below Hown2.out bw2 (Nat.le_refl _)
             have e9 := own_bool ownr hcur
             have f9 := own_frozen ownr k
             have l9 := (own_lt ownr).2
             clear ownr
             go_simp
             refine hK.out _ _ (by exact ⟨farC (by omega) (keep1 (bw2) e3 (Nat.le_refl _)), farC (by omega) (keep1 (bw2) y0 (Nat.le_refl _)), farC (by omega) (keep1 (bw2) y3 (Nat.le_refl _))⟩) (fun _ => ?_)
             clear hK K e9 f9 l9
             refine wpAnyH_done (by kernel_rfl) ?_ _
             have Hf := Lib.hid (HsetB.out r2 bw2 _ (Hv.out))
             go_wp2
             go_roundw
             case rel => exact ⟨k + 1, by omega, by go_num, Hf.out, belC (belN hbi bw2) _ _ (Nat.le_refl _) _⟩
             case measure => simp [intOf]; omega
    ·obtain rfl : k = N := by omega
     have q7 : ¬ (↑k : Int) ≤ ↑n := by have := HN.out; omega
     rw [Nat.sub_self, List.replicate_zero, List.append_nil, ← Hsn.out] at own
     have Own := Lib.hid own
     clear own
     go_wp2
     go_roundw
     case rel => exact ⟨j + 1, _, fitL (ps.take (j + 1)) ns, by omega, by go_num, rfl, rfl, by rw [fitL_len, HLN.out]; exact HN.out, own_less Own.out hsz, belN hbel hbi⟩
     case measure => simp [intOf]; omega
  ·obtain rfl : j = m := by omega
   have e2 := own_bool hown (getD_some (T := fr) (j := n) (by omega))
   have q2 : (0 : Int) ≤ ↑n := by omega
   have q3 : (↑n : Int) < ↑N := by omega
   have Hres := Lib.hid (show fr.getD n false = fitB ps ns by rw [hfr.out, List.take_of_length_le (by have := HLM.out; omega)]; unfold fitB; rw [HLN.out])
   obtain ⟨bz, hbz⟩ : ∃ b, fr.getD n false = b := ⟨_, rfl⟩
   rw [hbz] at e2 Hres
   clear hown hbz
   go_wp2
   go_ret
   exact ⟨ret_bool (by rw [← Hres.out]), hbel⟩

noncomputable def sgnL (s : ByteArray) : List Int := match decB s with | some xs => xs.map fun (n : Nat) => (n : Int) | none => []
noncomputable def unitsB (s : ByteArray) : List (List Int) := unitsP (sgnL (keyB s))
/-- Does a name fit a pattern? -/
noncomputable def globB (p s : ByteArray) : Bool := nameOkB p && (nameOkB s && fitB (unitsB p) (unitsB s))
theorem sgnL_len (s : ByteArray) : (sgnL s).length ≤ s.size := by
 unfold sgnL
 split
 ·rename_i xs h; rw [List.length_map]; exact (decB_bd h).1
 ·simp
theorem dec_units {w w' : World} {T : TypeId} {s : ByteArray} {e : Ending} (h : DecPost w T (decB s) e w') : ∃ A n c b, e = .returned (.tuple #[.slice A n c, .bool b]) ∧ n = (sgnL s).length ∧ n ≤ c ∧ Reads w' w'.heap.size 1 A n (II (sgnL s)) ∧ Below w.heap.size w w' := by
 obtain ⟨hb, h⟩ := h
 rcases h with ⟨xs, v, h1, h2, h3⟩ | ⟨v, h1, h2, h3⟩
 ·have hs : sgnL s = xs.map fun (n : Nat) => (n : Int) := by unfold sgnL; rw [h1]
  obtain ⟨A, c, rfl, hc, _, hr⟩ := own_vals h3
  refine ⟨A, _, c, _, h2, by rw [hs, List.length_map], hc, ?_, hb⟩
  rw [hs, ← II_of]; exact hr
 ·have hs : sgnL s = [] := by unfold sgnL; rw [h1]
  obtain ⟨A, c, rfl, hc, _, hr⟩ := own_vals h3
  refine ⟨A, _, c, _, h2, by rw [hs]; rfl, hc, ?_, hb⟩
  rw [hs]; exact hr
theorem unitsB_bd {s : ByteArray} (h : nameOkB s = true) : (unitsB s).length ≤ 20000 ∧ ∀ u ∈ unitsB s, u.length ≤ 10000000 := by
 have h1 := keyB_size h
 have h2 := sgnL_len (keyB s)
 have h3 := units_len (sgnL (keyB s))
 unfold unitsB
 exact ⟨by omega, fun u hu => by have := units_each u hu; omega⟩

set_option maxRecDepth 100000 in
set_option maxHeartbeats 2000000 in
theorem unitsOf_impl (s : ByteArray) (hn : nameOkB s = true) (hs : s.size ≤ 2000000) (w : World) (hT : Tab w) :
  Calls Tryz.prog 185 #[.string s] w fun e w' => ∃ A m c, e = .returned (.slice A m c) ∧ LAt w' w'.heap.size A m (unitsB s) ∧ Below w.heap.size w w' := by
 have hk := keyP_ok hn
 have hz := keyB_size hn
 have hl := sgnL_len (keyB s)
 have HU := Lib.hid (show unitsB s = unitsP (sgnL (keyB s)) from rfl)
 have Hkey := Lib.hid (keyOf_impl s hs w hT)
 rw [hk] at Hkey
 simp only at Hkey
 obtain ⟨k, hkk⟩ : ∃ k, keyB s = k := ⟨_, rfl⟩
 simp only [hkk] at Hkey hz hl HU
 clear hk hT hkk hn
 go_enter Tryz.func185, Tryz.ntmps185
 go_wp2_with fail
 refine Hkey.out.mono ?_
 rintro e w1 ⟨rfl, hb1⟩
 go_wp2_with fail
 refine (decode_impl k (by omega) w1).mono ?_
 rintro e w2 hD
 obtain ⟨A, n, c, b, rfl, hn, hc, hr, hb2⟩ := dec_units hD
 have Hr := Lib.hid hr
 have HN := Lib.hid hn
 have hn2 : n ≤ 10000000 := by omega
 clear hr hD hn
 go_wp2_with fail
 refine (units_impl A n c (sgnL k) hn2 w2 Hr.out).mono ?_
 rintro e w3 ⟨A', m, c', rfl, hL, hb3⟩
 have HL := Lib.hid hL
 clear hL
 go_wp2
 go_ret
 exact ⟨_, _, _, rfl, by rw [HU.out]; exact HL.out, belN (belN hb1 hb2) hb3⟩
set_option maxRecDepth 100000 in
set_option maxHeartbeats 2000000 in
theorem l14Key_any (s : ByteArray) (hn : nameOkB s = true) (hs : s.size ≤ 2000000) (w : World) :
  Calls Tryz.prog 288 #[.string s] w fun e w' => e = .returned (.string (keyB s)) ∧ Below w.heap.size w w' := by
 have hk := keyP_ok hn
 have Hkey := Lib.hid (keyOf_spec s hs w)
 rw [hk] at Hkey
 simp only at Hkey
 obtain ⟨k, hkk⟩ : ∃ k, keyB s = k := ⟨_, rfl⟩
 simp only [hkk] at Hkey ⊢
 clear hk hkk hn
 go_enter Tryz.func288, Tryz.ntmps288
 go_wp2_with fail
 refine Hkey.out.mono ?_
 rintro e w1 ⟨rfl, hb1⟩
 go_wp2
 go_ret
 exact ⟨rfl, hb1⟩
set_option maxRecDepth 100000 in
set_option maxHeartbeats 2000000 in
theorem unitsOf_spec (s : ByteArray) (hn : nameOkB s = true) (hs : s.size ≤ 2000000) (w : World) :
  Calls Tryz.prog 247 #[.string s] w fun e w' => ∃ A m c, e = .returned (.slice A m c) ∧ LAt w' w'.heap.size A m (unitsB s) ∧ Below w.heap.size w w' := by
 have hz := keyB_size hn
 have hl := sgnL_len (keyB s)
 have HU := Lib.hid (show unitsB s = unitsP (sgnL (keyB s)) from rfl)
 have Hkey := Lib.hid (l14Key_any s hn hs w)
 obtain ⟨k, hkk⟩ : ∃ k, keyB s = k := ⟨_, rfl⟩
 simp only [hkk] at Hkey hz hl HU
 clear hkk hn
 go_enter Tryz.func247, Tryz.ntmps247
 go_wp2_with fail
 refine Hkey.out.mono ?_
 rintro e w1 ⟨rfl, hb1⟩
 go_wp2_with fail
 refine (decode_spec k (by omega) w1).mono ?_
 rintro e w2 hD
 obtain ⟨A, n, c, b, rfl, hn, hc, hr, hb2⟩ := dec_units hD
 have Hr := Lib.hid hr
 have hn2 : n ≤ 10000000 := by omega
 clear hr hD hn
 go_wp2_with fail
 refine (units_spec A n c (sgnL k) hn2 hc w2 Hr.out).mono ?_
 rintro e w3 ⟨A', m, c', rfl, hL, hb3⟩
 have HL := Lib.hid hL
 clear hL
 go_wp2
 go_ret
 exact ⟨_, _, _, rfl, by rw [HU.out]; exact HL.out, belN (belN hb1 hb2) hb3⟩

set_option maxRecDepth 100000 in
set_option maxHeartbeats 2000000 in
theorem glob_impl (p s : ByteArray) (hp : p.size ≤ 2000000) (hs : s.size ≤ 2000000) (w : World) (hT : Tab w) :
  Calls Tryz.prog 108 #[.string p, .string s] w fun e w' => e = .returned (.bool (globB p s)) ∧ Below w.heap.size w w' := by
 have Hn1 := Lib.hid (fun W hW => nameOk_impl p hp W hW)
 have Hn2 := Lib.hid (fun W hW => nameOk_impl s hs W hW)
 have Hu1 := Lib.hid (fun h W hW => unitsOf_impl p h hp W hW)
 have Hu2 := Lib.hid (fun h W hW => unitsOf_impl s h hs W hW)
 have HB1 := Lib.hid (fun h => unitsB_bd (s := p) h)
 have HB2 := Lib.hid (fun h => unitsB_bd (s := s) h)
 have HG := Lib.hid (show globB p s = (nameOkB p && (nameOkB s && fitB (unitsB p) (unitsB s))) from rfl)
 have HT := Lib.hid hT
 clear hT
 rcases h1 : nameOkB p with _ | _
 ·have Hg := Lib.hid (show globB p s = false by rw [HG.out, h1]; rfl)
  simp only [h1] at Hn1
  clear h1 Hu1 Hu2 HB1 HB2 HG
  go_enter Tryz.func108, Tryz.ntmps108
  go_wp2_with fail
  refine (Hn1.out w HT.out).mono ?_
  rintro e w1 ⟨rfl, hb1⟩
  go_wp2
  go_ret
  exact ⟨ret_bool Hg.out.symm, hb1⟩
 ·rcases h2 : nameOkB s with _ | _
  ·have Hg := Lib.hid (show globB p s = false by rw [HG.out, h1, h2]; rfl)
   simp only [h1] at Hn1
   simp only [h2] at Hn2
   clear h1 h2 Hu1 Hu2 HB1 HB2 HG
   go_enter Tryz.func108, Tryz.ntmps108
   go_wp2_with fail
   refine (Hn1.out w HT.out).mono ?_
   rintro e w1 ⟨rfl, hb1⟩
   go_wp2_with fail
   refine (Hn2.out w1 (HT.out.bl hb1)).mono ?_
   rintro e w2 ⟨rfl, hb2⟩
   go_wp2
   go_ret
   exact ⟨ret_bool Hg.out.symm, belN hb1 hb2⟩
  ·have Hg := Lib.hid (show globB p s = fitB (unitsB p) (unitsB s) by rw [HG.out, h1, h2]; rfl)
   have Hu1' := Lib.hid (Hu1.out h1)
   have Hu2' := Lib.hid (Hu2.out h2)
   obtain ⟨k1, k2⟩ := HB1.out h1
   obtain ⟨k3, k4⟩ := HB2.out h2
   simp only [h1] at Hn1
   simp only [h2] at Hn2
   obtain ⟨ps, hps⟩ : ∃ l, unitsB p = l := ⟨_, rfl⟩
   obtain ⟨ns, hns⟩ : ∃ l, unitsB s = l := ⟨_, rfl⟩
   simp only [hps] at Hu1' k1 k2 Hg
   simp only [hns] at Hu2' k3 k4 Hg
   have K2 := Lib.hid k2
   have K4 := Lib.hid k4
   clear h1 h2 Hu1 Hu2 HB1 HB2 HG hps hns k2 k4
   go_enter Tryz.func108, Tryz.ntmps108
   go_wp2_with fail
   refine (Hn1.out w HT.out).mono ?_
   rintro e w1 ⟨rfl, hb1⟩
   go_wp2_with fail
   refine (Hn2.out w1 (HT.out.bl hb1)).mono ?_
   rintro e w2 ⟨rfl, hb2⟩
   have B2 := belN hb1 hb2
   go_wp2_with fail
   refine (Hu1'.out w2 (HT.out.bl B2)).mono ?_
   rintro e w3 ⟨A3, m3, c3, rfl, hL3, hb3⟩
   have B3 := belN B2 hb3
   have hm3 := hL3.len
   have HL3 := Lib.hid hL3
   clear hL3
   go_wp2_with fail
   refine (Hu2'.out w3 (HT.out.bl B3)).mono ?_
   rintro e w4 ⟨A4, m4, c4, rfl, hL4, hb4⟩
   have B4 := belN B3 hb4
   have hm4 := hL4.len
   have HL4 := Lib.hid hL4
   clear hL4
   go_wp2_with fail
   refine (fits_impl A3 A4 m3 c3 m4 c4 ps ns (by omega) (by omega) K2.out K4.out w4 (HL3.out.next hb4) HL4.out).mono ?_
   rintro e w5 ⟨rfl, hb5⟩
   go_wp2
   go_ret
   exact ⟨ret_bool Hg.out.symm, belN B4 hb5⟩

set_option maxRecDepth 100000 in
set_option maxHeartbeats 2000000 in
theorem glob_spec (p s : ByteArray) (hp : p.size ≤ 2000000) (hs : s.size ≤ 2000000) (w : World) :
  Calls Tryz.prog 177 #[.string p, .string s] w fun e w' => e = .returned (.bool (globB p s)) ∧ Below w.heap.size w w' := by
 have Hn1 := Lib.hid (fun W => nameOk_spec p hp W)
 have Hn2 := Lib.hid (fun W => nameOk_spec s hs W)
 have Hu1 := Lib.hid (fun h W => unitsOf_spec p h hp W)
 have Hu2 := Lib.hid (fun h W => unitsOf_spec s h hs W)
 have HB1 := Lib.hid (fun h => unitsB_bd (s := p) h)
 have HB2 := Lib.hid (fun h => unitsB_bd (s := s) h)
 have HG := Lib.hid (show globB p s = (nameOkB p && (nameOkB s && fitB (unitsB p) (unitsB s))) from rfl)
 rcases h1 : nameOkB p with _ | _
 ·have Hg := Lib.hid (show globB p s = false by rw [HG.out, h1]; rfl)
  simp only [h1] at Hn1
  clear h1 Hu1 Hu2 HB1 HB2 HG
  go_enter Tryz.func177, Tryz.ntmps177
  go_wp2_with fail
  refine (Hn1.out w).mono ?_
  rintro e w1 ⟨rfl, hb1⟩
  go_wp2
  go_ret
  exact ⟨ret_bool Hg.out.symm, hb1⟩
 ·rcases h2 : nameOkB s with _ | _
  ·have Hg := Lib.hid (show globB p s = false by rw [HG.out, h1, h2]; rfl)
   simp only [h1] at Hn1
   simp only [h2] at Hn2
   clear h1 h2 Hu1 Hu2 HB1 HB2 HG
   go_enter Tryz.func177, Tryz.ntmps177
   go_wp2_with fail
   refine (Hn1.out w).mono ?_
   rintro e w1 ⟨rfl, hb1⟩
   go_wp2_with fail
   refine (Hn2.out w1).mono ?_
   rintro e w2 ⟨rfl, hb2⟩
   go_wp2
   go_ret
   exact ⟨ret_bool Hg.out.symm, belN hb1 hb2⟩
  ·have Hg := Lib.hid (show globB p s = fitB (unitsB p) (unitsB s) by rw [HG.out, h1, h2]; rfl)
   have Hu1' := Lib.hid (Hu1.out h1)
   have Hu2' := Lib.hid (Hu2.out h2)
   obtain ⟨k1, k2⟩ := HB1.out h1
   obtain ⟨k3, k4⟩ := HB2.out h2
   simp only [h1] at Hn1
   simp only [h2] at Hn2
   obtain ⟨ps, hps⟩ : ∃ l, unitsB p = l := ⟨_, rfl⟩
   obtain ⟨ns, hns⟩ : ∃ l, unitsB s = l := ⟨_, rfl⟩
   simp only [hps] at Hu1' k1 k2 Hg
   simp only [hns] at Hu2' k3 k4 Hg
   have K2 := Lib.hid k2
   have K4 := Lib.hid k4
   clear h1 h2 Hu1 Hu2 HB1 HB2 HG hps hns k2 k4
   go_enter Tryz.func177, Tryz.ntmps177
   go_wp2_with fail
   refine (Hn1.out w).mono ?_
   rintro e w1 ⟨rfl, hb1⟩
   go_wp2_with fail
   refine (Hn2.out w1).mono ?_
   rintro e w2 ⟨rfl, hb2⟩
   have B2 := belN hb1 hb2
   go_wp2_with fail
   refine (Hu1'.out w2).mono ?_
   rintro e w3 ⟨A3, m3, c3, rfl, hL3, hb3⟩
   have B3 := belN B2 hb3
   have hm3 := hL3.len
   have HL3 := Lib.hid hL3
   clear hL3
   go_wp2_with fail
   refine (Hu2'.out w3).mono ?_
   rintro e w4 ⟨A4, m4, c4, rfl, hL4, hb4⟩
   have B4 := belN B3 hb4
   have hm4 := hL4.len
   have HL4 := Lib.hid hL4
   clear hL4
   go_wp2_with fail
   refine (fits_spec A3 A4 m3 c3 m4 c4 ps ns (by omega) (by omega) K2.out K4.out w4 (HL3.out.next hb4) HL4.out).mono ?_
   rintro e w5 ⟨rfl, hb5⟩
   go_wp2
   go_ret
   exact ⟨ret_bool Hg.out.symm, belN B4 hb5⟩

end Go.Proofs.YthdbomkddpnhaaaGreatDoor

