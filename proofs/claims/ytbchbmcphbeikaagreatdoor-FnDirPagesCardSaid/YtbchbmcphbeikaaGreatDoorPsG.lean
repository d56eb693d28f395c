/- What is drawn: directories on pages (l19Some): some few and small pages of one's own. -/
import Derived.Test.YtbchbmcphbeikaaGreatDoorPsE
import Derived.Test.YtbchbmcphbeikaaGreatDoorDraw
import Derived.Deep.RegionHeld3
namespace Go.Proofs.YtbchbmcphbeikaaGreatDoor
open Go Go.RowKit

theorem Curs.drew {w : World} {g : Nat} {A : Option Addr} {n cp : Nat} {bs : List UInt8} (h : Curs w g A n cp bs) : Curs w.drew g A n cp bs := h.below (bel0 w).drew
/-- How it stands while pages are drawn: pages of one's own, a cursor. -/
def PgSt (N : Nat) (w : World) (g : Nat) (A : Option Addr) (n cp : Nat) (bs : List UInt8) (wr : World) (v : Value) : Prop :=
  ∃ L, OwnP wr w.heap.size L ∧ wr.ownsRow w.heap.size 30 1 v L.length (PV L) ∧ SmL N L ∧ Curs wr g A n cp bs ∧ w.grownBy wr (some g) ∧ g < w.heap.size
section
variable {N : Nat} {w wr w2 : World} {g : Nat} {A : Option Addr} {n cp : Nat} {bs : List UInt8} {v : Value}
theorem PgSt.cu (h : PgSt N w g A n cp bs wr v) : Curs wr g A n cp bs := by obtain ⟨L, _, _, _, h, _⟩ := h; exact h
theorem PgSt.gr (h : PgSt N w g A n cp bs wr v) : w.grownBy wr (some g) := by obtain ⟨L, _, _, _, _, h, _⟩ := h; exact h
theorem PgSt.step (h : PgSt N w g A n cp bs wr v) (hc : Curs w2 g A n cp bs) (hg : wr.grownBy w2 (some g)) : PgSt N w g A n cp bs w2 v := by
  obtain ⟨L, h1, h2, h3, _, h5, h6⟩ := h
  exact ⟨L, h1.grown hg (fun p hp => by have := (h1.1 p hp).lt.1; omega), own_g h2 hg h6, h3, hc, h5.trans hg, h6⟩
theorem PgSt.out (h : PgSt N w g A n cp bs wr v) {v2 : Value} {b : Bool} (ho : PgOut N wr.heap.size (.returned (.tuple #[v2, .bool b])) w2) (hb : Below wr.heap.size wr w2) : PgSt N w g A n cp bs w2 v2 := by
  obtain ⟨_, _, _, _, h4, h5, h6⟩ := h
  obtain ⟨v', L, b', he, o1, o2, o3⟩ := ho
  simp only [Ending.returned.injEq, Value.tuple.injEq, Array.mk.injEq, List.cons.injEq, Value.bool.injEq, and_true] at he
  obtain ⟨rfl, rfl⟩ := he
  exact ⟨L, o1.more h5.size, own_more o2 h5.size, o3, h4.below hb, gb_below h5 hb, h6⟩
theorem sum_le {α : Type} (f : α → Nat) (B : Nat) : ∀ (l : List α), (∀ x ∈ l, f x ≤ B) → (l.map f).sum ≤ l.length * B
  | [], _ => by simp
  | a :: l, h => by
    have h1 := h a (List.mem_cons_self ..)
    have h2 := sum_le f B l (fun x hx => h x (List.mem_cons_of_mem _ hx))
    simp only [List.map_cons, List.sum_cons, List.length_cons, Nat.add_mul, Nat.one_mul]
    omega
theorem smL_sz {L : List PgD} (h : SmL N L) (hN : N ≤ 1000) : szSS (L.map PgD.con) ≤ 1048576 ∧ ∀ l ∈ L.map PgD.con, ∀ x ∈ l, x.s.size ≤ N := by
  obtain ⟨h9, hp⟩ := h
  have h1 : ∀ l ∈ L.map PgD.con, szS l ≤ 5 + 5 * 1000 := fun l hl => by
    obtain ⟨p, hpl, rfl⟩ := List.mem_map.1 hl
    obtain ⟨_, h5, hs⟩ := hp p hpl
    have := sum_le (fun e : EntD => e.s.size) 1000 p.con (fun x hx => Nat.le_trans (hs x hx) hN)
    have h6 : p.con.length * 1000 ≤ 5 * 1000 := Nat.mul_le_mul_right _ h5
    unfold szS
    omega
  have h2 := sum_le szS (5 + 5 * 1000) _ h1
  refine ⟨?_, fun l hl x hx => ?_⟩
  · unfold szSS
    rw [List.length_map] at h2 ⊢
    have : L.length * (5 + 5 * 1000) ≤ 9 * (5 + 5 * 1000) := Nat.mul_le_mul_right _ h9
    omega
  · obtain ⟨p, hpl, rfl⟩ := List.mem_map.1 hl
    exact (hp p hpl).2.2 x hx
theorem PgSt.read (h : PgSt N w g A n cp bs wr v) (hN : N ≤ 1000) : ∃ ps, IsSS wr v ps ∧ szSS ps ≤ 1048576 ∧ ∀ l ∈ ps, ∀ x ∈ l, x.s.size ≤ N := by
  obtain ⟨L, h1, h2, h3, _⟩ := h
  obtain ⟨A', c', rfl, hp⟩ := pages_of h1 h2
  have hl : (L.map PgD.con).length = L.length := List.length_map _
  refine ⟨L.map PgD.con, ⟨A', c', by rw [hl], by rw [hl]; exact hp.at_⟩, smL_sz h3 hN⟩
theorem ES_set2 (x : EntD) (t : List EntD) (s : ByteArray) : (ES (x :: t)).set 2 (.string s) = ES (⟨x.h, x.i, s, x.d⟩ :: t) := rfl
theorem ES_set3 (x : EntD) (t : List EntD) (d : Int) : (ES (x :: t)).set 3 (.int .i64 d) = ES (⟨x.h, x.i, x.s, d⟩ :: t) := rfl
theorem pgSt_put (h : PgSt N w g A n cp bs wr v) {L : List PgD} (h1 : OwnP wr w.heap.size L) (h2 : wr.ownsRow w.heap.size 30 1 v L.length (PV L)) (h3 : SmL N L) (hL : 0 < L.length)
    (k : Nat) (u : Value) (e : EntD) (t : List EntD) (hx : L[0].xs = e :: t) (e' : EntD) (hs : e'.s.size ≤ N) (hu : (ES (e :: t)).set k u = ES (e' :: t)) : PgSt N w g A n cp bs (wr.setCell ⟨L[0].g, k, none⟩ u) v := by
  have hcu := h.cu
  have hgr := h.gr
  have hg : g < w.heap.size := by obtain ⟨_, _, _, _, _, _, h⟩ := h; exact h
  obtain ⟨g0, c0, rfl⟩ := own_form1 h2 hL
  have hd := h1.1 _ (List.getElem_mem hL)
  have hgb : wr.grownBy (wr.setCell ⟨L[0].g, k, none⟩ u) (some L[0].g) := only_sc (grown_refl _ _) k u
  obtain ⟨p, hp⟩ : ∃ p, L[0] = p := ⟨_, rfl⟩
  have hlo := hd.lt
  have hne := pg_ne h2 hd
  rw [hp] at hd hlo hx hne
  have hc3 := h3.2 p (by rw [← hp]; exact List.getElem_mem hL)
  obtain ⟨pg, pc, px, pn, pk⟩ := p
  simp only at hx hlo hne
  subst hx
  have hq : OwnD (wr.setCell ⟨pg, k, none⟩ u) w.heap.size ⟨pg, pc, e' :: t, pn, pk⟩ := by
    refine ⟨?_, by have := hd.2; simpa using this⟩
    have := own_set hd.1 k u
    simp only at this
    rw [hu] at this
    exact this
  have hn1 : 1 ≤ pn := by have := hc3.1; unfold PgD.con at this; simp at this; omega
  rw [hp] at hgb
  have hbl : Below w.heap.size wr (wr.setCell ⟨pg, k, none⟩ u) := (Below.refl _ _).setCell (p := ⟨pg, k, none⟩) hlo.1 u
  rw [hp]
  refine ⟨L.set 0 ⟨pg, pc, e' :: t, pn, pk⟩, h1.set hL (by rw [hp]; exact hgb) hq (.inl (by rw [hp])), ?_, ⟨by rw [List.length_set]; exact h3.1, fun x hx => ?_⟩, hcu.bel hbl hg, gb_bel0 hgr hbl, hg⟩
  · rw [List.length_set, ← PV_set]
    have : (PV L).set 0 (PgD.val ⟨pg, pc, e' :: t, pn, pk⟩) = PV L := by
      have h0 : (PV L)[0]? = some (PgD.val ⟨pg, pc, e' :: t, pn, pk⟩) := by rw [PV_get L 0 hL, hp]; rfl
      apply List.ext_getElem? ; intro i
      rw [List.getElem?_set]
      split
      · rename_i h; subst h; rw [if_pos (by rw [PV_length]; exact hL), h0]
      · rfl
    rw [this]
    exact own_keepG h2 hgb (fun e => hne (by simp only [Value.ownBlock, Option.some.injEq] at e; exact e.symm))
  · rcases List.mem_or_eq_of_mem_set hx with hx | rfl
    · exact h3.2 x hx
    · obtain ⟨c1, c2, c3⟩ := hc3
      unfold PgD.con at *
      obtain ⟨m, rfl⟩ : ∃ m, pn = m + 1 := ⟨pn - 1, by omega⟩
      simp only [List.take_succ_cons, List.length_cons] at *
      refine ⟨c1, c2, fun y hy => ?_⟩
      rcases List.mem_cons.1 hy with rfl | hy
      · exact hs
      · exact c3 y (List.mem_cons_of_mem _ hy)
/-- The first page, its first entry. -/
theorem PgSt.at_ {g0 m c0 : Nat} (h : PgSt N w g A n cp bs wr (.slice (some ⟨g0, 0, none⟩) m c0)) (hm : 0 < m) :
    ∃ pg k c', wr.cell? ⟨g0, 0, none⟩ = some (.slice (some ⟨pg, 0, none⟩) k c') ∧ 1 ≤ k ∧ w.heap.size ≤ g0 ∧ (∃ u, wr.cell? ⟨pg, 2, none⟩ = some u) ∧ (∃ u, wr.cell? ⟨pg, 3, none⟩ = some u) ∧ wr.frozen? ⟨pg, 2, none⟩ = false ∧ wr.frozen? ⟨pg, 3, none⟩ = false ∧ pg ≠ g0 ∧
      (∀ s : ByteArray, s.size ≤ N → PgSt N w g A n cp bs (wr.setCell ⟨pg, 2, none⟩ (.string s)) (.slice (some ⟨g0, 0, none⟩) m c0)) ∧ (∀ x : Int, PgSt N w g A n cp bs (wr.setCell ⟨pg, 3, none⟩ (.int .i64 x)) (.slice (some ⟨g0, 0, none⟩) m c0)) := by
  have h' := h
  obtain ⟨L, h1, h2, h3, _⟩ := h
  obtain rfl : m = L.length := by
    obtain ⟨A, c, e, _⟩ := own_vals h2
    simp only [Value.slice.injEq] at e
    exact e.2.1
  have hL : 0 < L.length := hm
  have hd := h1.1 _ (List.getElem_mem hL)
  have hs := h3.2 _ (List.getElem_mem hL)
  have hy := h2.cellAt 0 (by omega)
  rw [PV_get L 0 hL] at hy
  have hx1 : 1 ≤ L[0].n ∧ L[0].n ≤ L[0].xs.length := by have := hs.1; have h5 := hd.2; unfold PgD.con at this; rw [List.length_take] at this; omega
  obtain ⟨e, t, hx⟩ : ∃ e t, L[0].xs = e :: t := by
    rcases hq : L[0].xs with _ | ⟨e, t⟩
    · rw [hq] at hx1; simp at hx1; omega
    · exact ⟨e, t, rfl⟩
  have hsz := hs.2.2 e (by unfold PgD.con; rw [hx]; obtain ⟨m, hm⟩ : ∃ m, L[0].n = m + 1 := ⟨L[0].n - 1, by omega⟩; rw [hm]; simp)
  refine ⟨L[0].g, L[0].n, L[0].k, hy, hx1.1, (own_some h2).1, ?_, ?_, own_frozen hd.1 2, own_frozen hd.1 3, pg_ne h2 hd, fun s hs' => ?_, fun x => ?_⟩
  · refine ⟨_, (hd.1.cellAt 2 (by rw [hx]; simp; omega)).trans (by rw [hx]; rfl)⟩
  · refine ⟨_, (hd.1.cellAt 3 (by rw [hx]; simp; omega)).trans (by rw [hx]; rfl)⟩
  · exact pgSt_put h' h1 h2 h3 hL 2 (.string s) e t hx ⟨e.h, e.i, s, e.d⟩ hs' rfl
  · exact pgSt_put h' h1 h2 h3 hL 3 (.int .i64 x) e t hx ⟨e.h, e.i, e.s, x⟩ hsz rfl
end

set_option maxRecDepth 100000 in
set_option maxHeartbeats 4000000 in
theorem l19Some_any (g : Nat) (A : Option Addr) (n cp : Nat) (bs : List UInt8) (hn : n ≤ 9223372036854775806) (most : Int) (hm : most ≤ 1000) (w : World) (h : Curs w g A n cp bs) :
    Calls Tryz.prog 22 #[.pointer (some ⟨g, 0, none⟩), .int .i64 most] w fun e w' => ∃ v, e = .returned v ∧ PgSt 25 w g A n cp bs w' v := by
  have Hb := Lib.hid (fun m hm W hW => l1Below_any g A n cp bs hn m hm W hW)
  have Ho := Lib.hid (fun m hm W hW => l1Once_any g A n cp bs hn m hm W hW)
  have Hn := Lib.hid (fun W hW => l4Name_any g A n cp bs hn W hW)
  have hlt := h.lt
  have st0 : PgSt 25 w g A n cp bs (w.alloc (.cells #[] 30)) (.slice (some ⟨w.heap.size, 0, none⟩) 0 0) := ⟨[], OwnP.nil_ _ _, own_lit0 w _ 1 _ (Nat.le_refl _), ⟨by simp, fun p hp => absurd hp (List.not_mem_nil)⟩, h.alloc _, gb_bel0 (grown_refl _ _) (belA (bel0 w) _), hlt⟩
  have St0 := Lib.hid st0
  clear st0
  go_enter Tryz.func22, Tryz.ntmps22
  go_wp2_with fail
  refine (Hb.out most (by omega) _ (h.alloc _)).mono ?_
  rintro e w1 ⟨k, rfl, hk0, hk1, hc1, hg1⟩
  have St1 := Lib.hid (St0.out.step hc1 hg1)
  have hk : 0 ≤ k ∧ k ≤ 1000 := by
    rcases Int.lt_or_le 0 most with h | h
    · have := hk1 h; omega
    · have := hk0 h; omega
  obtain ⟨k, rfl⟩ : ∃ j : Nat, k = (j : Int) := ⟨k.toNat, by omega⟩
  clear hk0 hk1 hc1 hg1 h
  go_wp2
  go_loopw [5, 6] (fun v i wr => ∃ k : Nat, i = .int .i64 k ∧ k ≤ 1000 ∧ Hid (PgSt 25 w g A n cp bs wr v)) (fun _ i _ => (intOf i).toNat)
  case atStart => exact ⟨k, rfl, by omega, St1.out⟩
  case round =>
    obtain ⟨k, rfl, hk, St⟩ := hrel
    by_cases h0 : k = 0
    · subst h0
      obtain ⟨L, hO, hY, hSm, _⟩ := St.out
      obtain ⟨A0, c0, rfl, _, _, _⟩ := own_vals hY
      rcases Nat.eq_zero_or_pos L.length with hL | hL
      · rw [hL]
        rw [hL] at St
        clear hO hY hSm hL
        go_wp2
        go_ret
        exact ⟨_, rfl, St.out⟩
      · obtain ⟨g0, c1, he⟩ := own_form1 hY hL
        simp only [Value.slice.injEq, true_and] at he
        obtain ⟨rfl, rfl⟩ := he
        obtain ⟨m, hm'⟩ : ∃ m, L.length = m := ⟨_, rfl⟩
        rw [hm'] at St hL ⊢
        have q0 : (m : Int) > 0 := by omega
        have q0b : (0 : Int) < (m : Int) := by omega
        clear hO hY hSm hm'
        go_wp2_with fail
        refine (Ho.out 12 (by omega) _ St.out.cu).mono ?_
        rintro e w2 ⟨b1, rfl, hc2, hg2⟩
        have St2 := Lib.hid (St.out.step hc2 hg2)
        clear hc2 hg2
        rcases b1 with _ | _
        · go_wp2_with fail
          refine (Ho.out 12 (by omega) _ St2.out.cu).mono ?_
          rintro e w3 ⟨b2, rfl, hc3, hg3⟩
          have St3 := Lib.hid (St2.out.step hc3 hg3)
          clear hc3 hg3
          rcases b2 with _ | _
          · go_wp2
            go_ret
            exact ⟨_, rfl, St3.out⟩
          · go_wp2_with fail
            obtain ⟨pg, kk, cc, y0, k1, l0, _, _, _, _, _, _, _⟩ := St3.out.at_ hL
            have kI : (0 : Int) < (kk : Int) := by omega
            have kJ : (kk : Int) > 0 := by omega
            have kN : 0 < kk := k1
            have ng0 : (some g0 : Option Nat) ≠ some g := fun e => by injection e with e; omega
            go_region_held3 (fun w' => w'.cell? ⟨g0, 0, none⟩ = some (.slice (some ⟨pg, 0, none⟩) kk cc))
              (first | go_keep | exact hg10.cell y0 ng0 | exact hg10.cell (w := w3.drew) y0 ng0)
              (first
                | (go_at_call 20; refine (Hn.out _ St3.out.cu.drew).mono ?_; rintro e w10 ⟨s, rfl, hs, hc10, hg10⟩; have St10 := Lib.hid ((St3.out.step St3.out.cu.drew (gb_new (bel0 w3).drew)).step hc10 hg10); obtain ⟨pg', kk', cc', y10, _, _, ⟨u2, c2⟩, ⟨u3, c3⟩, f2, f3, nn, hp2, hp3⟩ := St10.out.at_ hL; have yy : w10.cell? ⟨g0, 0, none⟩ = _ := hg10.cell y0 ng0; rw [y10] at yy; simp only [Option.some.injEq, Value.slice.injEq, Addr.mk.injEq, and_true] at yy; obtain ⟨rfl, rfl, rfl⟩ := yy; have St12 := Lib.hid (hp2 s hs); clear hp2 hp3))
            go_wp2
            go_ret
            exact ⟨_, rfl, St12.out⟩
        · go_wp2_with fail
          obtain ⟨pg, kk, cc, y0, k1, l0, _, _, _, _, _, _, _⟩ := St2.out.at_ hL
          have kI : (0 : Int) < (kk : Int) := by omega
          have kJ : (kk : Int) > 0 := by omega
          have kN : 0 < kk := k1
          have ng0 : (some g0 : Option Nat) ≠ some g := fun e => by injection e with e; omega
          go_region_held3 (fun w' => w'.cell? ⟨g0, 0, none⟩ = some (.slice (some ⟨pg, 0, none⟩) kk cc))
            (first | go_keep | exact hg10.cell y0 ng0 | exact hg10.cell (w := w2.drew) y0 ng0)
            (first
              | (go_at_call 21; refine (Hb.out 2 (by omega) _ St2.out.cu.drew).mono ?_; rintro e w10 ⟨x, rfl, _, _, hc10, hg10⟩; have St10 := Lib.hid ((St2.out.step St2.out.cu.drew (gb_new (bel0 w2).drew)).step hc10 hg10); obtain ⟨pg', kk', cc', y10, _, _, ⟨u2, c2⟩, ⟨u3, c3⟩, f2, f3, nn, hp2, hp3⟩ := St10.out.at_ hL; have yy : w10.cell? ⟨g0, 0, none⟩ = _ := hg10.cell y0 ng0; rw [y10] at yy; simp only [Option.some.injEq, Value.slice.injEq, Addr.mk.injEq, and_true] at yy; obtain ⟨rfl, rfl, rfl⟩ := yy; have St11 := Lib.hid (hp3 x); clear hp2 hp3))
          go_wp2_with fail
          refine (Ho.out 12 (by omega) _ St11.out.cu).mono ?_
          rintro e w3 ⟨b2, rfl, hc3, hg3⟩
          have St3 := Lib.hid (St11.out.step hc3 hg3)
          clear hc3 hg3
          rcases b2 with _ | _
          · go_wp2
            go_ret
            exact ⟨_, rfl, St3.out⟩
          · go_wp2_with fail
            obtain ⟨pg, kk, cc, y0, k1, l0, _, _, _, _, _, _, _⟩ := St3.out.at_ hL
            have kI : (0 : Int) < (kk : Int) := by omega
            have kJ : (kk : Int) > 0 := by omega
            have kN : 0 < kk := k1
            have ng0 : (some g0 : Option Nat) ≠ some g := fun e => by injection e with e; omega
            go_region_held3 (fun w' => w'.cell? ⟨g0, 0, none⟩ = some (.slice (some ⟨pg, 0, none⟩) kk cc))
              (first | go_keep | exact hg10.cell y0 ng0 | exact hg10.cell (w := w3.drew) y0 ng0)
              (first
                | (go_at_call 20; refine (Hn.out _ St3.out.cu.drew).mono ?_; rintro e w10 ⟨s, rfl, hs, hc10, hg10⟩; have St10 := Lib.hid ((St3.out.step St3.out.cu.drew (gb_new (bel0 w3).drew)).step hc10 hg10); obtain ⟨pg', kk', cc', y10, _, _, ⟨u2, c2⟩, ⟨u3, c3⟩, f2, f3, nn, hp2, hp3⟩ := St10.out.at_ hL; have yy : w10.cell? ⟨g0, 0, none⟩ = _ := hg10.cell y0 ng0; rw [y10] at yy; simp only [Option.some.injEq, Value.slice.injEq, Addr.mk.injEq, and_true] at yy; obtain ⟨rfl, rfl, rfl⟩ := yy; have St12 := Lib.hid (hp2 s hs); clear hp2 hp3))
            go_wp2
            go_ret
            exact ⟨_, rfl, St12.out⟩
    · have hk0 : (k : Int) > 0 := by omega
      have hk0b : (0 : Int) < (k : Int) := by omega
      have w4 : IntKind.i64.wrap ((k : Int) - 1) = ((k - 1 : Nat) : Int) := by rw [IntKind.wrap_i64]; omega
      go_wp2_with fail
      refine (Hn.out _ St.out.cu).mono ?_
      rintro e w2 ⟨s, rfl, hs, hc2, hg2⟩
      have St2 := Lib.hid (St.out.step hc2 hg2)
      clear hc2 hg2 St
      go_wp2_with fail
      refine (Ho.out 5 (by omega) _ St2.out.cu).mono ?_
      rintro e w3 ⟨b, rfl, hc3, hg3⟩
      have St3 := Lib.hid (St2.out.step hc3 hg3)
      clear hc3 hg3 St2
      rcases b with _ | _
      · go_wp2_with fail
        refine (Hb.out 9 (by omega) _ St3.out.cu).mono ?_
        rintro e w5 ⟨x, rfl, _, hx1, hc5, hg5⟩
        have St5 := Lib.hid (St3.out.step hc5 hg5)
        have hx := hx1 (by omega)
        have wx : IntKind.i64.wrap (1 + x) = 1 + x := by rw [IntKind.wrap_i64]; omega
        obtain ⟨ps, his, hsz, hnm⟩ := St5.out.read (by omega)
        clear hc5 hg5 St3 hx1
        go_wp2_with fail
        refine (dpAdd_spec 25 _ ps hsz hnm s (by omega) hs _ _ his).mono ?_
        rintro e w6 ⟨hpo, hb6⟩
        obtain ⟨v6, b6, rfl, HPO⟩ := pgOut_ret hpo
        have St6 := Lib.hid (St5.out.out HPO.out hb6)
        clear hpo HPO his hsz hnm hb6 St5
        go_wp2
        first
          | exact ⟨⟨k - 1, by go_num, by omega, St6.out⟩, by simp [intOf]; omega⟩
          | (go_roundw; case rel => exact ⟨k - 1, by go_num, by omega, St6.out⟩; case measure => (simp [intOf]; omega))
      · obtain ⟨ps, his, hsz, hnm⟩ := St3.out.read (by omega)
        go_wp2_with fail
        refine (dpDrop_spec 25 _ ps hsz hnm s (by omega) _ his).mono ?_
        rintro e w6 ⟨hpo, hb6⟩
        obtain ⟨v6, b6, rfl, HPO⟩ := pgOut_ret hpo
        have St6 := Lib.hid (St3.out.out HPO.out hb6)
        clear hpo HPO his hsz hnm hb6 St3
        go_wp2
        first
          | exact ⟨⟨k - 1, by go_num, by omega, St6.out⟩, by simp [intOf]; omega⟩
          | (go_roundw; case rel => exact ⟨k - 1, by go_num, by omega, St6.out⟩; case measure => (simp [intOf]; omega))

end Go.Proofs.YtbchbmcphbeikaaGreatDoor
