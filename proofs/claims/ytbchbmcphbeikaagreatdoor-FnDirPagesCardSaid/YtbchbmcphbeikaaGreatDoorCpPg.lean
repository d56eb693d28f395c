/- Copies of pages. -/
import Derived.Test.YtbchbmcphbeikaaGreatDoorInsP
namespace Go.Proofs.YtbchbmcphbeikaaGreatDoor
open Go Go.RowKit

theorem OwnD.grownR {w w' : World} {lo : Nat} {r : Option Nat} {p : PgD} (h : OwnD w lo p) (hg : w.grownBy w' r) (hne : r ≠ some p.g) : OwnD w' lo p := by
  refine ⟨?_, h.2⟩
  obtain ⟨cur, h1, h2, h4, h5, h6, h7⟩ := own_heap h.1
  refine own_of_heap h1 ?_ h4 h5 h6 h7
  rw [hg.block p.g (Array.getElem?_eq_some_iff.1 h2).1 (fun e => hne e.symm)]
  exact h2
theorem own_blk {w : World} {lo base m : Nat} {v : Value} {xs : List Value} {p : PgD} (h0 : w.ownsRow base 30 1 v m xs) (h : OwnD w lo p) : v.ownBlock ≠ some p.g := by
  rcases h0.2 with ⟨rfl, _⟩ | ⟨g0, c0, cur, rfl, _⟩
  · intro e; cases e
  · intro e
    injection e with e
    exact pg_ne h0 h e.symm
theorem OwnP.app {w w' : World} {lo base m : Nat} {v : Value} {xs : List Value} {L : List PgD} (h : OwnP w lo L) (h0 : w.ownsRow base 30 1 v m xs) (hg : w.grownBy w' v.ownBlock) : OwnP w' lo L :=
  ⟨fun p hp => (h.1 p hp).grownR hg (own_blk h0 (h.1 p hp)), h.2⟩
theorem OwnD.more {w : World} {lo lo' : Nat} {p : PgD} (h : OwnD w lo p) (hl : lo' ≤ lo) : OwnD w lo' p := ⟨own_more h.1 hl, h.2⟩
theorem PV_set (L : List PgD) (k : Nat) (q : PgD) : (PV L).set k q.val = PV (L.set k q) := by unfold PV; rw [List.map_set]
theorem OwnP.ins {w : World} {lo i : Nat} {L : List PgD} {r : PgD} (h : OwnP w lo L) (hr : OwnD w lo r) (hne : ∀ x ∈ L, x.g ≠ r.g) : OwnP w lo (L.take i ++ r :: L.drop i) := by
  have hp := h.2
  rw [← List.take_append_drop i L, List.pairwise_append] at hp
  refine ⟨fun p hp' => ?_, List.pairwise_append.2 ⟨hp.1, List.pairwise_cons.2 ⟨fun x hx => fun e => hne x (List.mem_of_mem_drop hx) e.symm, hp.2.1⟩, fun a ha b hb => ?_⟩⟩
  · rcases List.mem_append.1 hp' with h1 | h1
    · exact h.1 p (List.mem_of_mem_take h1)
    · rcases List.mem_cons.1 h1 with rfl | h1
      · exact hr
      · exact h.1 p (List.mem_of_mem_drop h1)
  · rcases List.mem_cons.1 hb with rfl | hb
    · exact hne a (List.mem_of_mem_take ha)
    · exact hp.2.2 a ha b hb
theorem _root_.List.take_set_succ' {α : Type} (l : List α) (k : Nat) (x : α) (h : k < l.length) : (l.set k x).take (k + 1) = l.take k ++ [x] := by
  rw [List.take_succ_eq_append_getElem (by rw [List.length_set]; exact h), List.getElem_set_self, List.take_set_of_le (Nat.le_refl _)]
/-- The end of a page is read. -/
theorem OwnD.sub {w : World} {lo : Nat} {p : PgD} (h : OwnD w lo p) (i : Nat) : Reads w w.heap.size 4 (some ⟨p.g, i * 4, none⟩) (p.xs.length - i) (ES (p.xs.drop i)) := by
  refine ⟨by rw [ES_length, List.length_drop], fun _ => ⟨_, rfl, h.lt.2, fun j u hu => own_src h.1 (i * 4) j u (by rw [ES_drop]; exact hu)⟩⟩
/-- A page all of which is shown. -/
def full (p : PgD) : Prop := p.n = p.xs.length ∧ p.k = p.c
theorem full_con {p : PgD} (h : full p) : p.con = p.xs := by unfold PgD.con; rw [h.1, List.take_length]

set_option maxRecDepth 100000 in
set_option maxHeartbeats 4000000 in
theorem copyPages_impl (A : Option Addr) (n c : Nat) (ps : List (List EntD)) (hn : n ≤ 10000) (hz : ∀ l ∈ ps, 1 ≤ l.length ∧ l.length ≤ 100000) (w : World) (hr : PagesAt w w.heap.size A n ps) :
    Calls Tryz.prog 27 #[.slice A n c] w fun e w' => ∃ (v : Value) (L : List PgD), e = .returned v ∧ L.map PgD.con = ps ∧ (∀ p ∈ L, full p) ∧ OwnP w' w.heap.size L ∧ w'.ownsRow w.heap.size 30 1 v L.length (PV L) ∧ Below w.heap.size w w' := by
  have hl := hr.len
  have Hr := Lib.hid hr
  have Hz := Lib.hid hz
  clear hr hz
  go_enter Tryz.func27, Tryz.ntmps27
  go_wp2
  go_loopw [3, 8] (fun v i wr => ∃ (L : List PgD) (j : Nat), j ≤ n ∧ i = .int .i64 j ∧ L.map PgD.con = ps.take j ∧ (∀ p ∈ L, full p) ∧ Hid (OwnP wr w.heap.size L) ∧ Hid (wr.ownsRow w.heap.size 30 1 v L.length (PV L)) ∧ Below w.heap.size w wr)
    (fun _ i _ => n - (intOf i).toNat)
  case atStart => exact ⟨[], 0, by omega, rfl, rfl, fun p h => absurd h (List.not_mem_nil), OwnP.nil_ _ _, own_nilC _ _ _ _, bel0 w⟩
  case round =>
    obtain ⟨L, j, hj, rfl, hcon, hfull, HO, Own, hbel⟩ := hrel
    have hLl : L.length = j := by have := congrArg List.length hcon; rw [List.length_map, List.length_take] at this; omega
    by_cases hlt : j < n
    · obtain ⟨hk, b, o, A', c', rfl, hb, y0, hr'⟩ := ((Hr.out.below hbel).more hbel.size).at_ hlt
      have q0 : (0 : Int) ≤ (j : Int) := by omega
      have q1 : (j : Int) < (n : Int) := by omega
      have hzl := Hz.out _ (List.getElem_mem hk)
      obtain ⟨l, hll⟩ : ∃ l, ps[j] = l := ⟨_, rfl⟩
      rw [hll] at y0 hr' hzl
      go_wp2_with fail
      refine (copyEnts_impl A' l.length c' l (by omega) wr hr').mono ?_
      rintro e w1 ⟨v1, rfl, own1, hb1⟩
      obtain ⟨g1, c1, rfl⟩ := own_form1 own1 (by omega)
      have B1 := belN hbel hb1
      have HO1 := Lib.hid (HO.out.bl hb1)
      have Own1 := Lib.hid (own_below Own.out hb1 (Nat.le_refl _))
      obtain ⟨p, hp⟩ : ∃ p : PgD, p = ⟨g1, c1, l, l.length, c1⟩ := ⟨_, rfl⟩
      have hpv : p.val = .slice (some ⟨g1, 0, none⟩) l.length c1 := by rw [hp]; rfl
      have hpd : OwnD w1 w.heap.size p := by rw [hp]; exact ⟨own_more own1 hbel.size, Nat.le_refl _⟩
      have hpf : full p := by rw [hp]; exact ⟨rfl, rfl⟩
      have hpc : p.con = l := by rw [full_con hpf, hp]
      have hpn : ∀ q ∈ L, q.g ≠ p.g := fun q hq => by
        have h1 := (HO.out.1 q hq).lt.2
        have h2 := (own_some own1).1
        rw [hp]
        show q.g ≠ g1
        omega
      have HP := Lib.hid (HO1.out.snoc hpd hpn)
      have sz := B1.size
      have hb0 : Below w.heap.size w (w1.alloc (.cells #[.slice (some ⟨g1, 0, none⟩) l.length c1] 30)) := belA B1 _
      clear own1 hp hr' y0 Own
      go_wp2_with (at_builtin; go_must (refine wpList_app _ rfl _ _ _ rfl Tryz.el_pg ((own_below Own1.out (belA (bel0 _) _) (Nat.le_refl _))) rfl (reads_new _ _ _ _ 1 (by rfl)) rfl (PV_cells [⟨g1, c1, l, l.length, c1⟩]) (max_small (by omega)) (by omega) (by simp; omega) ?_); intro v3 w3 own3 hg3 _ hb3)
      have HP3 := Lib.hid ((HP.out.bl (belA (bel0 _) (.cells #[.slice (some ⟨g1, 0, none⟩) l.length c1] 30))).app (own_below Own1.out (belA (bel0 _) _) (Nat.le_refl _)) hg3)
      have hb4 : Below w.heap.size w w3 := hb0.trans hb3
      have own4 : w3.ownsRow w.heap.size 30 1 v3 (L ++ [p]).length (PV (L ++ [p])) := by
        rw [PV_append, List.length_append]
        show w3.ownsRow _ _ 1 v3 (L.length + 1) (PV L ++ [p.val])
        rw [hpv]
        exact own3
      have Own4 := Lib.hid own4
      have hcon2 : (L ++ [p]).map PgD.con = ps.take (j + 1) := by
        rw [List.map_append, hcon, List.take_succ_eq_append_getElem hk, hll]
        simp [hpc]
      clear own3 own4
      go_wp2
      first
        | exact ⟨⟨L ++ [p], j + 1, by omega, by go_num, hcon2, fun q hq => (List.mem_append.1 hq).elim (hfull q) (fun h => by rw [List.mem_singleton] at h; rw [h]; exact hpf), HP3.out, Own4.out, hb4⟩, by simp [intOf]; omega⟩
        | (go_roundw; case rel => exact ⟨L ++ [p], j + 1, by omega, by go_num, hcon2, fun q hq => (List.mem_append.1 hq).elim (hfull q) (fun h => by rw [List.mem_singleton] at h; rw [h]; exact hpf), HP3.out, Own4.out, hb4⟩; case measure => (simp [intOf]; omega))
    · have q1 : ¬ ((j : Int) < (n : Int)) := by omega
      rw [List.take_of_length_le (by omega)] at hcon
      go_wp2
      go_ret
      exact ⟨_, rfl, L, hcon, hfull, HO.out, Own.out, hbel⟩

end Go.Proofs.YtbchbmcphbeikaaGreatDoor
