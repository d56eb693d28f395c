/- Pages of entries: copies, sizes, equality; whether they are right, in both packages. -/
import Derived.Test.YtijfjgenbdbafaaDoorEnts
namespace Go.Proofs.YtijfjgenbdbafaaDoor
open Go Go.RowKit

/-- Pages as they lie in memory. -/
def PagesAt (w : World) (B : Nat) (A : Option Addr) (n : Nat) (ps : List (List EntD)) : Prop :=
  ∃ vs, Reads w B 1 A n vs ∧ ps.length = n ∧ ∀ (i : Nat) (hi : i < ps.length), ∃ A' c, vs[i]? = some (.slice A' ps[i].length c) ∧ Reads w B 4 A' ps[i].length (ES ps[i])
theorem PagesAt.len {w : World} {B : Nat} {A : Option Addr} {n : Nat} {ps : List (List EntD)} (h : PagesAt w B A n ps) : ps.length = n := by obtain ⟨_, _, h, _⟩ := h; exact h
theorem PagesAt.below {w w' : World} {B : Nat} {A : Option Addr} {n : Nat} {ps : List (List EntD)} (h : PagesAt w B A n ps) (hb : Below B w w') : PagesAt w' B A n ps := by
  obtain ⟨vs, h1, h2, h3⟩ := h
  refine ⟨vs, h1.below hb, h2, fun i hi => ?_⟩
  obtain ⟨A', c, h4, h5⟩ := h3 i hi
  exact ⟨A', c, h4, h5.below hb⟩
theorem PagesAt.more {w : World} {B B' : Nat} {A : Option Addr} {n : Nat} {ps : List (List EntD)} (h : PagesAt w B A n ps) (hB : B ≤ B') : PagesAt w B' A n ps := by
  obtain ⟨vs, h1, h2, h3⟩ := h
  refine ⟨vs, h1.more hB, h2, fun i hi => ?_⟩
  obtain ⟨A', c, h4, h5⟩ := h3 i hi
  exact ⟨A', c, h4, h5.more hB⟩
theorem PagesAt.at_ {w : World} {B : Nat} {A : Option Addr} {n : Nat} {ps : List (List EntD)} (h : PagesAt w B A n ps) {k : Nat} (hk : k < n) :
    ∃ (hk' : k < ps.length) (b o : Nat) (A' : Option Addr) (c : Nat), A = some ⟨b, o, none⟩ ∧ b < B ∧ w.cell? ⟨b, o + k, none⟩ = some (.slice A' ps[k].length c) ∧ Reads w B 4 A' ps[k].length (ES ps[k]) := by
  obtain ⟨vs, h1, h2, h3⟩ := h
  have hk' : k < ps.length := by omega
  obtain ⟨A', c, h4, h5⟩ := h3 k hk'
  obtain ⟨ad, u, rfl, hb, hu, hc⟩ := h1.at_ hk
  obtain ⟨ad0, u0, e0, _, _, hc0⟩ := h1.at_ (k := 0) (by omega)
  injection e0 with e0
  subst e0
  have ha0 : ad.add 0 = ad := by simp [Addr.add]
  rw [ha0] at hc0
  obtain ⟨b, o, rfl⟩ := flat_addr hc0
  have ha : ∀ j, (Addr.add ⟨b, o, none⟩ j) = ⟨b, o + j, none⟩ := fun j => by unfold Addr.add; split <;> simp_all
  rw [ha] at hc
  rw [h4] at hu
  injection hu with hu
  exact ⟨hk', b, o, A', c, rfl, hb, by rw [hu]; exact hc, h5⟩

/-- How much pages have of the size. -/
def szSS (ps : List (List EntD)) : Nat := ps.length + (ps.map szS).sum
theorem szS_len (l : List EntD) : l.length ≤ szS l := by unfold szS; omega
theorem sum_mem {α : Type} (f : α → Nat) : ∀ (l : List α) (x : α), x ∈ l → f x ≤ (l.map f).sum
  | a :: l, x, h => by
    rcases List.mem_cons.1 h with rfl | h
    · simp
    · have := sum_mem f l x h
      simp; omega
theorem szSS_row (ps : List (List EntD)) (l : List EntD) (h : l ∈ ps) : szS l ≤ szSS ps := by have := sum_mem szS ps l h; unfold szSS; omega
theorem szSS_flat (ps : List (List EntD)) : ps.flatten.length ≤ szSS ps := by
  unfold szSS
  induction ps with
  | nil => simp
  | cons l ps ih => have := szS_len l; simp at ih ⊢; omega

set_option maxRecDepth 100000 in
set_option maxHeartbeats 1000000 in
theorem szEntSS_any (A : Option Addr) (n c : Nat) (ps : List (List EntD)) (hz : ∀ l ∈ ps, l.length ≤ 9223372036854775807 ∧ ∀ e ∈ l, e.s.size ≤ 9223372036854775807) (hn : n ≤ 9223372036854775807) (k : Int) (h0 : 0 ≤ k) (hk : k ≤ 1048576) (w : World) (hr : PagesAt w w.heap.size A n ps) :
    Calls Tryd.prog 20 #[.slice A n c, .int .i64 k] w fun e w' => ∃ r : Int, e = .returned (.int .i64 r) ∧ (r < 0 ∨ r = k - szSS ps) ∧ Below w.heap.size w w' := by
  have hl := hr.len
  have Hr := Lib.hid hr
  have Hz := Lib.hid hz
  clear hr hz
  by_cases hb : k - n < 0
  · go_enter Tryd.func20, Tryd.ntmps20
    go_wp2
    go_ret
    exact ⟨_, rfl, .inl (by omega), bel0 w⟩
  · go_enter Tryd.func20, Tryd.ntmps20
    go_wp2
    go_loopw [1, 5] (fun m i wr => ∃ (j : Nat) (q : Int), j ≤ n ∧ i = .int .i64 j ∧ m = .int .i64 q ∧ 0 ≤ q ∧ q ≤ k ∧ Hid (q + ((ps.take j).map szS).sum = k - n) ∧ Below w.heap.size w wr)
      (fun _ i _ => n - (intOf i).toNat)
    case atStart => exact ⟨0, k - n, by omega, rfl, by go_num, by omega, by omega, by simp [Hid], bel0 w⟩
    case round =>
      obtain ⟨j, q, hj, rfl, rfl, hq0, hqk, hsum, hbel⟩ := hrel
      by_cases hlt : j < n
      · obtain ⟨hkx, b, o, A', c', rfl, hadb, z0, hrow⟩ := (Hr.out.below hbel).at_ hlt
        have q0 : (0 : Int) ≤ ↑j := by omega
        have q1 : (↑j : Int) < ↑n := by omega
        have hzj := Hz.out _ (List.getElem_mem hkx)
        have Hs := Lib.hid (show ((ps.take (j + 1)).map szS).sum = ((ps.take j).map szS).sum + szS ps[j] by
          rw [List.take_succ_eq_append_getElem hkx, List.map_append, List.sum_append]; simp)
        have Hrow := Lib.hid (hrow.more hbel.size)
        clear hrow
        go_wp2_with fail
        refine (szEntS_any A' ps[j].length c' ps[j] hzj.2 hzj.1 q hq0 (by omega) _ Hrow.out).mono ?_
        rintro e w1 ⟨r, rfl, hr, hb1⟩
        by_cases hneg : r < 0
        · go_wp2
          go_ret
          exact ⟨_, rfl, .inl (by omega), belN hbel hb1⟩
        · obtain rfl : r = q - szS ps[j] := by omega
          go_wp2_with fail
          go_roundw
          case rel => exact ⟨j + 1, q - szS ps[j], by omega, by go_num, rfl, by omega, by omega, by have := hsum.out; have := Hs.out; show _ = _; omega, belN hbel hb1⟩
          case measure => simp [intOf]; omega
      · have Hs := Lib.hid (show ps.take j = ps from List.take_of_length_le (by omega))
        go_wp2
        go_ret
        exact ⟨_, rfl, .inr (by have := hsum.out; rw [Hs.out] at this; unfold szSS; omega), hbel⟩

set_option maxRecDepth 100000 in
set_option maxHeartbeats 1000000 in
theorem eqEntSS_self (A A' : Option Addr) (n c c' : Nat) (ps : List (List EntD)) (hz : ∀ l ∈ ps, l.length ≤ 10000000) (hn : n ≤ 10000000) (w : World) (hr : PagesAt w w.heap.size A n ps) (hr' : PagesAt w w.heap.size A' n ps) :
    Calls Tryd.prog 24 #[.slice A n c, .slice A' n c'] w fun e w' => e = .returned (.bool true) ∧ Below w.heap.size w w' := by
  have Hr := Lib.hid hr
  have Hr' := Lib.hid hr'
  have Hz := Lib.hid hz
  clear hr hr' hz
  go_enter Tryd.func24, Tryd.ntmps24
  go_wp2
  go_loopw [5] (fun i wr => ∃ (j : Nat), j ≤ n ∧ i = .int .i64 j ∧ Below w.heap.size w wr)
    (fun i _ => n - (intOf i).toNat)
  case atStart => exact ⟨0, by omega, rfl, bel0 w⟩
  case round =>
    obtain ⟨j, hj, rfl, hbel⟩ := hrel
    by_cases hlt : j < n
    · obtain ⟨hkx, b, o, R1, c1, rfl, hadb, z0, hrow⟩ := (Hr.out.below hbel).at_ hlt
      obtain ⟨_, b', o', R2, c2, rfl, hadb', z0', hrow'⟩ := (Hr'.out.below hbel).at_ hlt
      have q0 : (0 : Int) ≤ ↑j := by omega
      have q1 : (↑j : Int) < ↑n := by omega
      have hzj := Hz.out _ (List.getElem_mem hkx)
      have Hrow := Lib.hid (hrow.more hbel.size)
      have Hrow' := Lib.hid (hrow'.more hbel.size)
      clear hrow hrow'
      go_wp2_with fail
      go_region_held3 (fun w' => w'.cell? ⟨b, o + j, none⟩ = some (.slice R1 ps[j].length c1) ∧ w'.cell? ⟨b', o' + j, none⟩ = some (.slice R2 ps[j].length c2)) (first | go_keep | (refine ⟨keep1 hb1 ?_, keep1 hb1 ?_⟩ <;> go_keep))
        (first
          | (go_at_call 19; refine (eqEntS_self R1 R2 ps[j].length c1 c2 ps[j] hzj _ Hrow.out.drew Hrow'.out.drew).mono ?_; rintro e w1 ⟨rfl, hb1⟩))
      go_wp2
      go_roundw
      case rel => exact ⟨j + 1, by omega, by go_num, belN hbel.drew hb1⟩
      case measure => simp [intOf]; omega
    · go_wp2
      go_ret
      exact ⟨rfl, hbel⟩

/-! ### Copies -/
def rowVals (gs : List Nat) (ps : List (List EntD)) : List Value := List.zipWith (fun g l => Value.slice (some ⟨g, 0, none⟩) l.length l.length) gs ps
def RowsOwn (w : World) (lo : Nat) (e : TypeId) (gs : List Nat) (ps : List (List EntD)) : Prop :=
  gs.length = ps.length ∧ gs.Pairwise (· < ·) ∧ ∀ (i g : Nat) (l : List EntD), gs[i]? = some g → ps[i]? = some l → w.ownsRow lo e 4 (.slice (some ⟨g, 0, none⟩) l.length l.length) l.length (ES l)
theorem rowVals_append (gs : List Nat) (ps : List (List EntD)) (g : Nat) (l : List EntD) (h : gs.length = ps.length) : rowVals (gs ++ [g]) (ps ++ [l]) = rowVals gs ps ++ [.slice (some ⟨g, 0, none⟩) l.length l.length] := by
  unfold rowVals; rw [List.zipWith_append h]; rfl
theorem rowVals_len (gs : List Nat) (ps : List (List EntD)) (h : gs.length = ps.length) : (rowVals gs ps).length = ps.length := by unfold rowVals; simp [h]
theorem own_lt {w : World} {base : Nat} {e : TypeId} {size n g c : Nat} {xs : List Value} (h : w.ownsRow base e size (.slice (some ⟨g, 0, none⟩) n c) n xs) : base ≤ g ∧ g < w.heap.size := by
  obtain ⟨hb, cur, hg, _⟩ := own_some h
  exact ⟨hb, (Array.getElem?_eq_some_iff.1 hg).1⟩
theorem own_same {w w' : World} {base : Nat} {e : TypeId} {size n g c : Nat} {xs : List Value} (h : w.ownsRow base e size (.slice (some ⟨g, 0, none⟩) n c) n xs) (hg : w'.heap[g]? = w.heap[g]?) : w'.ownsRow base e size (.slice (some ⟨g, 0, none⟩) n c) n xs := by
  obtain ⟨hb, cur, hh, hn, hc, hs, ht⟩ := own_some h
  exact ⟨h.1, .inr ⟨g, c, cur, rfl, hb, hg.trans hh, hn, hc, hs, ht⟩⟩
theorem RowsOwn.nil_ (w : World) (lo : Nat) (e : TypeId) : RowsOwn w lo e [] [] := ⟨rfl, .nil, fun i g l h => by simp at h⟩
theorem RowsOwn.below {w w' : World} {lo : Nat} {e : TypeId} {gs : List Nat} {ps : List (List EntD)} (h : RowsOwn w lo e gs ps) (hb : Below w.heap.size w w') : RowsOwn w' lo e gs ps :=
  ⟨h.1, h.2.1, fun i g l h1 h2 => own_below (h.2.2 i g l h1 h2) hb (Nat.le_refl _)⟩
theorem RowsOwn.far {w : World} {lo : Nat} {e : TypeId} {gs : List Nat} {ps : List (List EntD)} (h : RowsOwn w lo e gs ps) (g k : Nat) (hg : g < lo) (u : Value) : RowsOwn (w.setCell ⟨g, k, none⟩ u) lo e gs ps :=
  ⟨h.1, h.2.1, fun i g' l h1 h2 => own_same (h.2.2 i g' l h1 h2) (Below.heap_setCell w ⟨g, k, none⟩ u g' (by
    have := (own_lt (h.2.2 i g' l h1 h2)).1
    show g' ≠ g
    omega))⟩
theorem RowsOwn.snoc {w : World} {lo : Nat} {e : TypeId} {gs : List Nat} {ps : List (List EntD)} {B g : Nat} {l : List EntD} (h : RowsOwn w lo e gs ps) (hB : ∀ x ∈ gs, x < B) (hg : B ≤ g) (hown : w.ownsRow lo e 4 (.slice (some ⟨g, 0, none⟩) l.length l.length) l.length (ES l)) :
    RowsOwn w lo e (gs ++ [g]) (ps ++ [l]) := by
  obtain ⟨h1, h2, h3⟩ := h
  refine ⟨by simp [h1], List.pairwise_append.2 ⟨h2, by simp, fun a ha b hb => by simp at hb; subst hb; exact Nat.lt_of_lt_of_le (hB a ha) hg⟩, fun i g' l' hg' hl' => ?_⟩
  by_cases hi : i < gs.length
  · rw [List.getElem?_append_left hi] at hg'
    rw [List.getElem?_append_left (by omega)] at hl'
    exact h3 i g' l' hg' hl'
  · rw [List.getElem?_append_right (by omega)] at hg'
    rw [List.getElem?_append_right (by omega)] at hl'
    have hi0 : i - gs.length = 0 := by
      have := (List.getElem?_eq_some_iff.1 hg').1
      simp at this; omega
    rw [hi0] at hg'
    rw [show i - ps.length = 0 by omega] at hl'
    simp at hg' hl'
    subst hg'
    subst hl'
    exact hown
theorem RowsOwn.lt {w : World} {lo : Nat} {e : TypeId} {gs : List Nat} {ps : List (List EntD)} (h : RowsOwn w lo e gs ps) : ∀ x ∈ gs, lo ≤ x ∧ x < w.heap.size := by
  intro x hx
  obtain ⟨i, hi, rfl⟩ := List.mem_iff_getElem.1 hx
  have hip : i < ps.length := by rw [← h.1]; exact hi
  exact own_lt (h.2.2 i gs[i] ps[i] (List.getElem?_eq_getElem hi) (List.getElem?_eq_getElem hip))
theorem RowsOwn.pages {w : World} {lo lo' : Nat} {e e' : TypeId} {gs : List Nat} {ps : List (List EntD)} {g c : Nat} (h : RowsOwn w lo e gs ps) (hown : w.ownsRow lo' e' 1 (.slice (some ⟨g, 0, none⟩) ps.length c) ps.length (rowVals gs ps)) :
    PagesAt w w.heap.size (some ⟨g, 0, none⟩) ps.length ps := by
  refine ⟨rowVals gs ps, Reads.of_own hown, rfl, fun i hi => ?_⟩
  have hig : i < gs.length := by rw [h.1]; exact hi
  refine ⟨some ⟨gs[i], 0, none⟩, ps[i].length, ?_, Reads.of_own (h.2.2 i gs[i] ps[i] (List.getElem?_eq_getElem hig) (List.getElem?_eq_getElem hi))⟩
  unfold rowVals
  rw [List.getElem?_zipWith, List.getElem?_eq_getElem hig, List.getElem?_eq_getElem hi]
theorem set_mid {α : Type} (l xs : List α) (j : Nat) (u : α) (h : l.length = j) (hj : j < xs.length) : (l ++ xs.drop j).set j u = l ++ [u] ++ xs.drop (j + 1) := by
  rw [List.set_append_right _ _ (by omega), h, Nat.sub_self, List.drop_eq_getElem_cons hj, List.set_cons_zero, List.append_assoc]; rfl
theorem own_cell1 {w : World} {base : Nat} {e : TypeId} {n g c : Nat} {xs : List Value} (h : w.ownsRow base e 1 (.slice (some ⟨g, 0, none⟩) n c) n xs) (k : Nat) (hk : k < n) : ∃ u, w.cell? ⟨g, k, none⟩ = some u := by
  have hl := h.1
  exact ⟨xs[k]'(by omega), by rw [h.cellAt k (by omega)]; exact List.getElem?_eq_getElem (by omega)⟩

set_option maxRecDepth 100000 in
set_option maxHeartbeats 2000000 in
theorem toEntSS_any (A : Option Addr) (n c : Nat) (ps : List (List EntD)) (hz : ∀ l ∈ ps, l.length ≤ 10000000) (hn : n ≤ 10000000) (w : World) (hr : PagesAt w w.heap.size A n ps) :
    Calls Tryd.prog 22 #[.slice A n c] w fun e w' => e = .returned (.slice (some ⟨w.heap.size, 0, none⟩) n n) ∧
      (∃ gs, w'.ownsRow w.heap.size 25 1 (.slice (some ⟨w.heap.size, 0, none⟩) n n) n (rowVals gs ps) ∧ RowsOwn w' (w.heap.size + 1) 37 gs ps) ∧ Below w.heap.size w w' := by
  have hl := hr.len
  have Hr := Lib.hid hr
  have Hz := Lib.hid hz
  clear hr hz
  have hmk := run_make_any (P := Tryd.prog) 32 25 (.slice none 0 0) 1 24 Tryd.underlying32 (by kernel_rfl) n (by omega) (by omega)
  have Hown := Lib.hid (own_made w (Value.slice none 0 0).cells 25 n 1 (by unfold maxLen; omega))
  obtain ⟨M, hM⟩ : ∃ M, madeCells (Value.slice none 0 0).cells (n * 1) = M := ⟨_, rfl⟩
  rw [hM] at hmk Hown
  clear hM
  have hML : M.toList.length = n := by have := Hown.out.1; omega
  go_enter Tryd.func22, Tryd.ntmps22
  go_wp2
  clear hmk
  go_loopw [4] (fun i wr => ∃ (j : Nat) (gs : List Nat), j ≤ n ∧ i = .int .i64 j ∧ wr.ownsRow w.heap.size 25 1 (.slice (some ⟨w.heap.size, 0, none⟩) n n) n (rowVals gs (ps.take j) ++ M.toList.drop j) ∧ RowsOwn wr (w.heap.size + 1) 37 gs (ps.take j) ∧ Below w.heap.size w wr)
    (fun i _ => n - (intOf i).toNat)
  case atStart => exact ⟨0, [], by omega, rfl, by simpa [rowVals] using Hown.out, RowsOwn.nil_ _ _ _, belA (bel0 w) _⟩
  case round =>
    obtain ⟨j, gs, hj, rfl, hown, hrows, hbel⟩ := hrel
    by_cases hlt : j < n
    · obtain ⟨hkx, b, o, A', c', rfl, hadb, z0, hrow⟩ := (Hr.out.below hbel).at_ hlt
      have q0 : (0 : Int) ≤ ↑j := by omega
      have q1 : (↑j : Int) < ↑n := by omega
      have hzj := Hz.out _ (List.getElem_mem hkx)
      have Hrow := Lib.hid (hrow.more hbel.size)
      have hgw := (own_lt hown).2
      clear hrow
      go_wp2_with fail
      refine (toEntS_any A' ps[j].length c' ps[j] hzj _ Hrow.out).mono ?_
      rintro e w1 ⟨rfl, hown', hb1⟩
      have own1 := own_below hown hb1 (Nat.le_refl _)
      have rows1 := hrows.below hb1
      have hglt := hrows.lt
      obtain ⟨u0, c0⟩ := own_cell1 own1 j hlt
      have f0 := own_frozen own1 j
      have ne : b ≠ w.heap.size := by omega
      have hoz : ((ps.take j).length) = j := by rw [List.length_take]; omega
      have hvz : (rowVals gs (ps.take j)).length = j := by rw [rowVals_len _ _ hrows.1, hoz]
      have own2 := own_set own1 j (.slice (some ⟨wr.heap.size, 0, none⟩) ps[j].length ps[j].length)
      rw [set_mid _ _ _ _ hvz (by omega), ← rowVals_append _ _ _ _ hrows.1, List.take_append_getElem hkx] at own2
      have rows2 := (rows1.far w.heap.size j (by omega) (.slice (some ⟨wr.heap.size, 0, none⟩) ps[j].length ps[j].length)).snoc (B := wr.heap.size) (g := wr.heap.size) (l := ps[j]) (fun x hx => (hglt x hx).2) (Nat.le_refl _)
        (own_same (own_more hown' (by omega)) (Below.heap_setCell w1 ⟨w.heap.size, j, none⟩ _ wr.heap.size (show wr.heap.size ≠ w.heap.size by omega)))
      rw [List.take_append_getElem hkx] at rows2
      have Own2 := Lib.hid own2
      have Rows2 := Lib.hid rows2
      clear own1 rows1 own2 rows2 hown hrows hown' z0
      go_wp2_with fail
      go_roundw
      case rel => exact ⟨j + 1, gs ++ [wr.heap.size], by omega, by go_num, Own2.out, Rows2.out, belC (belN hbel hb1) _ _ (Nat.le_refl _) _⟩
      case measure => simp [intOf]; omega
    · obtain rfl : j = n := by omega
      rw [List.drop_eq_nil_of_le (by omega), List.append_nil, List.take_of_length_le (by omega)] at hown
      rw [List.take_of_length_le (by omega)] at hrows
      go_wp2
      go_ret
      exact ⟨rfl, ⟨gs, hown, hrows⟩, hbel⟩

end Go.Proofs.YtijfjgenbdbafaaDoor
