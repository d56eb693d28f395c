/- A volume in memory of a call's own: copied into, marked. -/
import Derived.Test.YthdbomkddpnhaaaGreatDoorPHeld
import Derived.Test.YthdbomkddpnhaaaGreatDoorPVolA
namespace Go.Proofs.YthdbomkddpnhaaaGreatDoor
open Go Go.RowKit

theorem InAt.low2 {I : World → Prop} {lo hi : Nat} {w : World} (h : InAt I lo hi w) : ∃ w0 : World, w0.heap.size = hi ∧ (∀ i, i < hi → w0.heap[i]? = w.heap[i]?) ∧ I w0 := by
 refine ⟨{ w with heap := w.heap.extract 0 hi }, ?_, fun i hi2 => ?_, h.2 _ ?_ fun i h1 h2 => ?_⟩
 ·have := h.1; simp; omega
 ·simp [Array.getElem?_extract]; omega
 ·have := h.1; simp; omega
 ·simp [Array.getElem?_extract]; omega
theorem own_less {w : World} {lo lo' : Nat} {e : TypeId} {s n : Nat} {v : Value} {xs : List Value} (h : w.ownsRow lo e s v n xs) (hl : lo' ≤ lo) : w.ownsRow lo' e s v n xs := by
 refine ⟨h.1, ?_⟩
 rcases h.2 with h2 | ⟨g, cap, cur, hv, hb, r⟩
 ·exact .inl h2
 ·exact .inr ⟨g, cap, cur, hv, Nat.le_trans hl hb, r⟩

theorem IRows.less {w : World} {lo lo' : Nat} {xs : List InoD} {vs : List Value} (h : IRows w lo xs vs) (hl : lo' ≤ lo) : IRows w lo' xs vs :=
 ⟨h.1, fun i hi => by obtain ⟨g', h5, h6⟩ := h.2 i hi; exact ⟨g', h5, own_less h6 hl⟩⟩

/-- A volume of a call's own. -/
def OwnVol (lo : Nat) (v : Value) (V : VolD) (w : World) : Prop := ∃ g vs, v = .agg #[.int .i64 V.nx, .slice (some ⟨g, 0, none⟩) V.xs.length V.xs.length] ∧
 w.ownsRow lo 70 5 (.slice (some ⟨g, 0, none⟩) V.xs.length V.xs.length) V.xs.length (IC V.xs vs) ∧ IRows w lo V.xs vs
theorem OwnVol.isC {lo : Nat} {v : Value} {V : VolD} {w : World} (h : OwnVol lo v V w) : IsVolC w v V := by
 obtain ⟨g, vs, rfl, h1, h2⟩ := h
 exact ⟨_, _, rfl, h2.vat rfl h1, Nat.le_refl _⟩
theorem own_vol_in {lo : Nat} {v : Value} {V : VolD} {w : World} (h : OwnVol lo v V w) : InAt (OwnVol lo v V) lo w.heap.size w := by
 obtain ⟨g, vs, rfl, h1, h2⟩ := h
 refine ⟨Nat.le_refl _, fun w' h3 h4 => ⟨g, vs, rfl, (own_in h1).2 w' h3 h4, h2.1, fun i hi => ?_⟩⟩
 obtain ⟨g', h5, h6⟩ := h2.2 i hi
 exact ⟨g', h5, (own_in h6).2 w' h3 h4⟩

set_option maxRecDepth 100000 in
set_option maxHeartbeats 1000000 in
theorem toVol_in (v : Value) (V : VolD) (sm : szV V ≤ 1048576) (w : World) (h : IsVol w v V) :
  Calls Tryz.prog 17 #[v] w fun e w' => ∃ v' lo hi, e = .returned v' ∧ w.heap.size ≤ lo ∧ InAt (OwnVol lo v' V) lo hi w' ∧ Below w.heap.size w w' := by
 have hr := v_rows sm
 have hl := v_len sm
 obtain ⟨A, c, rfl, h⟩ := h
 obtain ⟨nx, xs⟩ := V
 simp only at h hr hl ⊢
 have H := Lib.hid h
 have Hr := Lib.hid hr
 clear h hr sm
 go_enter Tryz.func17, Tryz.ntmps17
 go_wp2_with fail
 obtain ⟨W0, hW0⟩ : ∃ W0, ((w.alloc (.cells #[.int .i64 nx, .slice A xs.length c] 24)).alloc (.cells #[.int .i64 0, .slice none 0 0] 30)).alloc (.cells #[.int .i64 nx, .slice none 0 0] 30) = W0 := ⟨_, rfl⟩
 have B0 : Below w.heap.size w W0 := by rw [← hW0]; exact belA (belA (belA (bel0 w) _) _) _
 have S0 : W0.heap.size = w.heap.size + 3 := by rw [← hW0]; simp
 have hO : Blk W0 (w.heap.size + 2) 30 #[.int .i64 nx, .slice none 0 0] := by rw [← hW0]; exact Blk.new' _ _ _ _ (by simp)
 have hR : Blk W0 (w.heap.size + 1) 30 #[.int .i64 0, .slice none 0 0] := by rw [← hW0]; exact (Blk.new' _ _ _ _ (by simp)).alloc _
 rw [hW0]
 clear hW0
 refine (toInodeS_any A xs.length c xs Hr.out hl W0 ((H.out.below B0).more B0.size)).mono ?_
 rintro e w1 ⟨rfl, ⟨vs, hown, hrows⟩, hb1⟩
 have B1 := belN B0 hb1
 have hO1 := hO.below hb1 hO.lt
 have hR1 := hR.below hb1 hR.lt
 rw [S0] at hown hrows ⊢
 have hGlt := (own_lt hown).2
 have Hown := Lib.hid hown
 have Hrows := Lib.hid hrows
 clear hO hR hown hrows
 have f1 := hO1.frozen 1
 have c0 := hO1.get 0 rfl
 have c1 := hO1.get 1 rfl
 have l1 := hO1.lt
 have r0 := hR1.get 0 rfl
 have r1 := hR1.get 1 rfl
 have g0 := hR1.frozen 0
 have g1 := hR1.frozen 1
 have l2 := hR1.lt
 go_wp2
 refine bodyPost_ret (v := .agg #[.int .i64 nx, .slice (some ⟨w.heap.size + 3, 0, none⟩) xs.length xs.length]) (by simp [results, Tryz.results17, go_sem, r0, r1]) rfl ⟨_, w.heap.size + 3, _, rfl, by omega, own_vol_in ⟨_, vs, rfl, ?_, ?_⟩, ?_⟩
 ·exact own_far (own_far (own_far Hown.out (by simp)) (by simp)) (by simp)
 ·refine IRows.less (lo := w.heap.size + 3 + 1) ?_ (by omega)
  exact ((Hrows.out.far _ _ (by omega) _).far _ _ (by omega) _).far _ _ (by omega) _
 ·exact belC (belC (belC B1 _ _ (by omega) _) _ _ (by omega) _) _ _ (by omega) _

/-- A row of entries of a length in a block between marks. -/
def EAt (w : World) (lo hi : Nat) (v : Value) (m : Nat) : Prop := ∃ (g : Nat) (cur : Array Value), v = .slice (some ⟨g, 0, none⟩) m m ∧ lo ≤ g ∧ g < hi ∧ w.heap[g]? = some (.cells cur 72 (0, 0)) ∧ cur.size = m * 4
section
variable {w w' : World} {lo hi : Nat} {v : Value} {m : Nat}
theorem EAt.own (h : EAt w lo hi v m) (hm : m ≤ 10000000) : ∃ (g : Nat) (xs : List Value), v = .slice (some ⟨g, 0, none⟩) m m ∧ lo ≤ g ∧ g < hi ∧ w.ownsRow lo 72 4 (.slice (some ⟨g, 0, none⟩) m m) m xs := by
 obtain ⟨g, cur, rfl, h1, h2, h3, h4⟩ := h
 exact ⟨g, cur.toList, rfl, h1, h2, by rw [Array.length_toList]; exact h4, .inr ⟨g, m, cur, rfl, h1, h3, Nat.le_refl _, max_small (by omega), h4, by rw [← h4, ← Array.length_toList, List.take_length]⟩⟩
theorem EAt.below (h : EAt w lo hi v m) (hb : Below w.heap.size w w') : EAt w' lo hi v m := by
 obtain ⟨g, cur, h0, h1, h2, h3, h4⟩ := h
 exact ⟨g, cur, h0, h1, h2, (hb.block g (Array.getElem?_eq_some_iff.1 h3).1).trans h3, h4⟩
theorem EAt.far (h : EAt w lo hi v m) {g o : Nat} {cs : Array Value} (hg : w.heap[g]? = some (.cells cs 70 (0, 0))) (u : Value) : EAt (w.setCell ⟨g, o, none⟩ u) lo hi v m := by
 obtain ⟨g', cur, h0, h1, h2, h3, h4⟩ := h
 refine ⟨g', cur, h0, h1, h2, (Below.heap_setCell w ⟨g, o, none⟩ u g' ?_).trans h3, h4⟩
 rintro rfl
 rw [hg] at h3
 injection h3 with h3
 injection h3 with _ h3
 exact absurd h3 (by decide)
theorem EAt.step (h : EAt w lo hi v m) {g m' : Nat} {xs xs' : List Value} (hg : w.grownBy w' (some g)) (ho : w.ownsRow lo 72 4 (.slice (some ⟨g, 0, none⟩) m' m') m' xs) (ho' : w'.ownsRow lo 72 4 (.slice (some ⟨g, 0, none⟩) m' m') m' xs') : EAt w' lo hi v m := by
 obtain ⟨g', cur, h0, h1, h2, h3, h4⟩ := h
 by_cases he : g' = g
 ·subst he
  obtain ⟨_, cur0, h5, _, _, h6, _⟩ := own_some ho
  obtain ⟨_, cur1, h7, _, _, h8, _⟩ := own_some ho'
  rw [h3] at h5
  injection h5 with h5
  injection h5 with h5
  subst h5
  exact ⟨g', cur1, h0, h1, h2, h7, by omega⟩
 ·exact ⟨g', cur, h0, h1, h2, (hg.block g' (Array.getElem?_eq_some_iff.1 h3).1 (by intro e; injection e with e; exact he e)).trans h3, h4⟩
end

/-- How many numbers the first inodes' marks take. -/
def mkCnt (xs : List InoD) (j : Nat) : Nat := ((xs.take j).map fun x => 4 + 4 * x.es.length).sum
theorem mkCnt_succ {xs : List InoD} {j : Nat} (hj : j < xs.length) : mkCnt xs (j + 1) = mkCnt xs j + (4 + 4 * xs[j].es.length) := by
 unfold mkCnt; rw [List.take_succ_eq_append_getElem hj, List.map_append, List.sum_append]; simp
theorem mkCnt_le (xs : List InoD) (j : Nat) : mkCnt xs j ≤ 4 * szIs xs := by
 have : ∀ (l : List InoD) (j : Nat), mkCnt l j ≤ 4 * szIs l := by
  intro l
  induction l with
  | nil => intro j; simp [mkCnt]
  | cons a l ih =>
   intro j
   cases j with
   | zero => simp [mkCnt]
   | succ j =>
    have h := ih j
    have h2 := szS_n a.es
    unfold mkCnt szIs at *
    simp only [List.take_succ_cons, List.map_cons, List.sum_cons, List.length_cons]
    unfold szI at *
    omega
 exact this xs j

set_option maxRecDepth 100000 in
set_option maxHeartbeats 2000000 in
theorem markInodeS_any (lo up g n c : Nat) (xs : List InoD) (vs : List Value) (cs : List Value) (k : Int) (hk0 : 0 ≤ k) (hk : k ≤ 1000000) (sm : szIs xs ≤ 1048576) (hn : xs.length = n) (w : World)
  (hcs : ∀ (i : Nat) (hi : i < xs.length), ∃ v, vs[i]? = some v ∧ cs[i * 5 + 4]? = some v ∧ EAt w lo up v xs[i].es.length)
  (hg1 : lo ≤ g) (hg2 : g < up) (hown : w.ownsRow lo 70 5 (.slice (some ⟨g, 0, none⟩) n c) n cs) :
  Calls Tryz.prog 97 #[.slice (some ⟨g, 0, none⟩) n c, .int .i64 k] w fun e w' => e = .returned (.int .i64 (k + mkCnt xs n)) ∧ Betw lo up w w' := by
 have hnb : n ≤ 10000000 := by have := szIs_len xs; omega
 have Hcnt := Lib.hid (fun j => mkCnt_le xs j)
 have Hrow := Lib.hid (fun x (hx : x ∈ xs) => show x.es.length ≤ 1048576 by have h1 := szIs_mem xs x hx; have h2 := szS_n x.es; unfold szI at h1; omega)
 have Hsm := Lib.hid sm
 have HN := Lib.hid hn
 have Hcs := Lib.hid hcs
 have Hown := Lib.hid hown
 clear hown hcs sm hn
 go_enter Tryz.func97, Tryz.ntmps97
 go_wp2
 go_loopw [1, 5] (fun m i wr => ∃ (j : Nat) (q : Int) (ds : List Value), j ≤ n ∧ i = .int .i64 j ∧ m = .int .i64 q ∧ Hid (q = k + mkCnt xs j) ∧ wr.ownsRow lo 70 5 (.slice (some ⟨g, 0, none⟩) n c) n ds ∧
   Hid (∀ (i : Nat) (hi : i < xs.length), ∃ v, vs[i]? = some v ∧ ds[i * 5 + 4]? = some v ∧ EAt wr lo up v xs[i].es.length) ∧ Hid (Betw lo up w wr))
  (fun _ i _ => n - (intOf i).toNat)
 case atStart => exact ⟨0, k, cs, by omega, rfl, rfl, by simp [Hid, mkCnt], Hown.out, Hcs.out, Betw.refl _ _ _⟩
 case round =>
  obtain ⟨j, q, ds, hj, rfl, rfl, hq, hown, hE, hbt⟩ := hrel
  have hq' := hq.out
  have hc1 := Hcnt.out j
  have hsm := Hsm.out
  have b0 : 0 ≤ q := by omega
  have b1 : q ≤ 6000000 := by omega
  clear hq' hc1 hsm
  by_cases hlt : j < n
  ·have hjx : j < xs.length := by have := HN.out; omega
   obtain ⟨⟨u0, c0⟩, ⟨u1, c1⟩, ⟨u2, c2⟩, ⟨u3, c3⟩, _⟩ := own_cells5 hown j hlt
   have f0 := own_frozen hown (j * 5)
   have f1 := own_frozen hown (j * 5 + 1)
   have f2 := own_frozen hown (j * 5 + 2)
   have hlt0 := (own_lt hown).2
   have q0 : (0 : Int) ≤ ↑j := by omega
   have q1 : (↑j : Int) < ↑n := by omega
   obtain ⟨v, hv1, hv2, hv3⟩ := hE.out j hjx
   have hmj := Hrow.out _ (List.getElem_mem hjx)
   have Hst := Lib.hid (mkCnt_succ hjx)
   obtain ⟨mj, hmj'⟩ : ∃ m, xs[j].es.length = m := ⟨_, rfl⟩
   rw [hmj'] at hv3 hmj Hst
   have HMJ := Lib.hid hmj'
   have Hv1 := Lib.hid hv1
   have Hv2 := Lib.hid hv2
   have Hv3 := Lib.hid hv3
   clear hmj' hv1 hv2 hv3
   go_wp2_with fail
   refine (markText_any _ (by omega) _).mono ?_
   rintro e w1 ⟨rfl, hb1⟩
   have owa := own_set hown (j * 5) (.int .i64 q)
   have owb := own_set owa (j * 5 + 1) (.int .i64 (q + 1))
   have owc := own_set owb (j * 5 + 2) (.int .i64 (q + 1 + 1))
   have own1 := own_below owc hb1 (Nat.le_refl _)
   have hgb1 := gb_below (only_sc (only_sc (only_sc (grown_refl wr (some g)) (j * 5) (.int .i64 q)) (j * 5 + 1) (.int .i64 (q + 1))) (j * 5 + 2) (.int .i64 (q + 1 + 1))) hb1
   have E1 : ∀ v' m', EAt wr lo up v' m' → EAt w1 lo up v' m' := fun v' m' h => by
    obtain ⟨_, x0, y0, _⟩ := own_some hown
    obtain ⟨_, x1, y1, _⟩ := own_some owa
    obtain ⟨_, x2, y2, _⟩ := own_some owb
    exact (((h.far y0 _).far y1 _).far y2 _).below hb1
   have own2 := own_set own1 (j * 5 + 3) (.string (markB (q + 1 + 1 + 1)))
   have hgb2 := only_sc hgb1 (j * 5 + 3) (.string (markB (q + 1 + 1 + 1)))
   have E2 : ∀ v' m', EAt wr lo up v' m' → EAt (w1.setCell ⟨g, j * 5 + 3, none⟩ (.string (markB (q + 1 + 1 + 1)))) lo up v' m' := fun v' m' h => by
    obtain ⟨_, x0, y0, _⟩ := own_some own1
    exact (E1 v' m' h).far y0 _
   obtain ⟨gj, xe, rfl, hgj1, hgj2, hoe⟩ := (E2 _ _ Hv3.out).own (by omega)
   have hds : ∀ i, ((((ds.set (j * 5) (.int .i64 q)).set (j * 5 + 1) (.int .i64 (q + 1))).set (j * 5 + 2) (.int .i64 (q + 1 + 1))).set (j * 5 + 3) (.string (markB (q + 1 + 1 + 1))))[i * 5 + 4]? = ds[i * 5 + 4]? := fun i => by
    rw [List.getElem?_set_ne (by omega), List.getElem?_set_ne (by omega), List.getElem?_set_ne (by omega), List.getElem?_set_ne (by omega)]
   have z4 : (w1.setCell ⟨g, j * 5 + 3, none⟩ (.string (markB (q + 1 + 1 + 1)))).cell? ⟨g, j * 5 + 4, none⟩ = some (.slice (some ⟨gj, 0, none⟩) mj mj) := by
    rw [own2.cellAt (j * 5 + 4) (by omega), hds]; exact Hv2.out
   have z4' : w1.cell? ⟨g, j * 5 + 4, none⟩ = some (.slice (some ⟨gj, 0, none⟩) mj mj) := by
    rw [own1.cellAt (j * 5 + 4) (by omega), List.getElem?_set_ne (by omega), List.getElem?_set_ne (by omega), List.getElem?_set_ne (by omega)]; exact Hv2.out
   obtain ⟨_, _, _, ⟨u3', c3'⟩, _⟩ := own_cells5 own1 j hlt
   have f3 := own_frozen own1 (j * 5 + 3)
   have l1 := (own_lt own1).2
   have Own2 := Lib.hid own2
   have Hoe := Lib.hid hoe
   have HE2 := Lib.hid E2
   have Hgb2 := Lib.hid hgb2
   have Hds := Lib.hid hds
   clear c0 c1 c2 c3 f0 f1 f2 owa owb owc own1 own2 hown hoe E1 E2 hgb1 hgb2 hds
   go_wp2_with fail
   refine (markEntS_any lo gj mj mj xe (q + 1 + 1 + 1 + 1) (by omega) (by omega) (by omega) _ Hoe.out).mono ?_
   rintro e w3 ⟨rfl, own3e, hg3⟩
   have hne : g ≠ gj := by
    obtain ⟨_, x0, y0, _⟩ := own_some Own2.out
    obtain ⟨_, x1, y1, _⟩ := own_some Hoe.out
    rintro rfl
    rw [y0] at y1
    injection y1 with y1
    injection y1 with _ y1
    exact absurd y1 (by decide)
   have Own3 := Lib.hid (own_grown Own2.out hg3 hne)
   have Hbt := Lib.hid ((hbt.out.grown Hgb2.out hg1 hg2).grown hg3 hgj1 hgj2)
   have HE3 := Lib.hid (show ∀ (i : Nat) (hi : i < xs.length), ∃ v, vs[i]? = some v ∧ ((((ds.set (j * 5) (.int .i64 q)).set (j * 5 + 1) (.int .i64 (q + 1))).set (j * 5 + 2) (.int .i64 (q + 1 + 1))).set (j * 5 + 3) (.string (markB (q + 1 + 1 + 1))))[i * 5 + 4]? = some v ∧ EAt w3 lo up v xs[i].es.length from fun i hi => by
    obtain ⟨v, hv1, hv2, hv3⟩ := hE.out i hi
    exact ⟨v, hv1, by rw [Hds.out]; exact hv2, (HE2.out _ _ hv3).step hg3 Hoe.out own3e⟩)
   clear z4 z4' c3' f3 l1 own3e hg3
   go_wp2
   go_roundw
   case rel => exact ⟨j + 1, q + 1 + 1 + 1 + 1 + 4 * mj, _, by omega, by go_num, by go_num, by have := hq.out; have := Hst.out; show _ = _; omega, Own3.out, HE3.out, Hbt.out⟩
   case measure => simp [intOf]; omega
  ·obtain rfl : j = n := by omega
   clear hown
   go_wp2
   go_ret
   exact ⟨ret_int hq.out, hbt.out⟩

theorem markVol_in (v : Value) (V : VolD) (sm : szV V ≤ 1048576) (k : Int) (hk0 : 0 ≤ k) (hk : k ≤ 1000000) (lo up : Nat) (w : World) (h : InAt (OwnVol lo v V) lo up w) :
  Calls Tryz.prog 37 #[v, .int .i64 k] w fun e w' => e = .returned (.int .i64 (k + mkCnt V.xs V.xs.length)) ∧ Betw lo up w w' := by
 obtain ⟨w0, hw1, hw2, g, vs, rfl, ho, hr⟩ := h.low2
 have hup := h.1
 obtain ⟨nx, xs⟩ := V
 simp only at ho hr ⊢
 have hgg := own_lt ho
 obtain ⟨_, cur, hcur, hc1, hc2, hc3, hc4⟩ := own_some ho
 have own1 : w.ownsRow lo 70 5 (.slice (some ⟨g, 0, none⟩) xs.length xs.length) xs.length (IC xs vs) := own_same ho (hw2 g (by omega)).symm
 have hcs : ∀ (i : Nat) (hi : i < xs.length), ∃ v, vs[i]? = some v ∧ (IC xs vs)[i * 5 + 4]? = some v ∧ EAt w lo up v xs[i].es.length := fun i hi => by
  obtain ⟨g', h5, h6⟩ := hr.2 i hi
  have hgg' := own_lt h6
  obtain ⟨_, cur', hcur', _, _, hs', _⟩ := own_some h6
  exact ⟨_, h5, (IC_get xs vs i hi _ h5).2.2.2.2, g', cur', rfl, hgg'.1, by omega, (hw2 g' (by omega)).symm.trans hcur', hs'⟩
 have Hm := Lib.hid (fun (W : World) (hb : Below w.heap.size w W) => markInodeS_any lo up g xs.length xs.length xs vs (IC xs vs) k hk0 hk sm rfl W (fun i hi => by obtain ⟨v, h1, h2, h3⟩ := hcs i hi; exact ⟨v, h1, h2, h3.below hb⟩) hgg.1 (by omega) (own_below own1 hb (Nat.le_refl _)))
 have hgl : g < w.heap.size := (own_lt own1).2
 clear ho hr hcs own1 hcur hc1 hc2 hc3 hc4 hgg
 obtain ⟨W1, hW1⟩ : ∃ W1, w.alloc (.cells #[.int .i64 nx, .slice (some ⟨g, 0, none⟩) xs.length xs.length] 30) = W1 := ⟨_, rfl⟩
 have B1 : Below w.heap.size w W1 := by rw [← hW1]; exact belA (bel0 w) _
 have hV : Blk W1 w.heap.size 30 #[.int .i64 nx, .slice (some ⟨g, 0, none⟩) xs.length xs.length] := by rw [← hW1]; exact Blk.new' _ _ _ _ rfl
 have HW1 := Lib.hid hW1
 have v1 := hV.get 1 rfl
 clear hW1 hV
 go_enter Tryz.func37, Tryz.ntmps37
 go_wp2_with fail
 rw [HW1.out]
 refine (Hm.out W1 B1).mono ?_
 rintro e w2 ⟨rfl, hbt⟩
 go_wp2
 go_ret
 exact ⟨rfl, ⟨hbt.os.trans B1.os, hbt.tape.trans B1.tape, hbt.output.trans B1.output, Nat.le_trans B1.size hbt.size, fun i h1 h2 => (hbt.block i (Nat.lt_of_lt_of_le h1 B1.size) h2).trans (B1.block i h1)⟩⟩

/-- A row of texts of a call's own. -/
def OwnT (lo : Nat) (v : Value) (xs : List ByteArray) (w : World) : Prop := w.ownsRow lo 9 1 v xs.length (SS xs)
theorem own_inT {w : World} {lo : Nat} {v : Value} {xs : List ByteArray} {n : Nat} (hn : xs.length = n) (h : w.ownsRow lo 9 1 v n (SS xs)) : InAt (OwnT lo v xs) lo w.heap.size w := by subst hn; exact own_in h
theorem eqT_in (lo lo' : Nat) (v v' : Value) (xs : List ByteArray) (hn : xs.length ≤ 10000000) (w : World) (h : OwnT lo v xs w) (h' : OwnT lo' v' xs w) :
  Calls Tryz.prog 36 #[v, v'] w fun e w' => e = .returned (.bool true) ∧ Below w.heap.size w w' := by
 obtain ⟨A, c, rfl, _, _, hr⟩ := own_vals h
 obtain ⟨A', c', rfl, _, _, hr'⟩ := own_vals h'
 exact eqStringS_self A A' _ c c' xs hn w hr hr'
theorem markT_in (v : Value) (xs : List ByteArray) (hn : xs.length ≤ 10000000) (k : Int) (hk0 : 0 ≤ k) (hk : k ≤ 100000000) (lo hi : Nat) (w : World) (h : InAt (OwnT lo v xs) lo hi w) :
  Calls Tryz.prog 38 #[v, .int .i64 k] w fun e w' => e = .returned (.int .i64 (k + (xs.length : Int))) ∧ InAt (OwnT lo v (marks k xs.length)) lo hi w' ∧ Betw lo hi w w' := by
 refine (markStringS_any lo v xs.length xs k hk0 hk hn w h.is).mono fun e w' hh => ?_
 obtain ⟨he, hown, hg⟩ := hh
 obtain ⟨h1, h2⟩ := InAt.grow h hown hg
 refine ⟨he, ?_, h2⟩
 unfold OwnT
 rw [marks_len]
 exact h1
theorem heldT_in (lo : Nat) (v : Value) (n : Nat) (hn : n ≤ 10000000) (k : Int) (hk0 : 0 ≤ k) (hk : k ≤ 100000000) (w : World) (h : OwnT lo v (marks k n) w) :
  Calls Tryz.prog 39 #[v, .int .i64 k] w fun e w' => e = .returned (.int .i64 (k + (n : Int))) ∧ Below w.heap.size w w' := by
 unfold OwnT at h
 obtain ⟨A, c, rfl, _, _, hr⟩ := own_vals h
 rw [marks_len] at hr ⊢
 exact heldStringS_any A n c k hk0 hk hn w hr

end Go.Proofs.YthdbomkddpnhaaaGreatDoor

