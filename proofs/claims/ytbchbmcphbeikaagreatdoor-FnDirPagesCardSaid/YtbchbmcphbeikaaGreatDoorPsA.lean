/- The reference's rows of pages: copies, rows with one more, rows that grow at a step of a drawn region. -/
import Derived.Test.YtbchbmcphbeikaaGreatDoorCpPg
import Derived.Deep.RegionHeld3
import Derived.StillTailTactics
import Derived.BigQuiet
import Derived.Test.YtbchbmcphbeikaaGreatDoorRegH
namespace Go.Proofs.YtbchbmcphbeikaaGreatDoor
open Go Go.RowKit

set_option maxRecDepth 100000 in
set_option maxHeartbeats 4000000 in
theorem l18Copy_any (A : Option Addr) (n c : Nat) (ps : List (List EntD)) (hn : n ≤ 10000) (hz : ∀ l ∈ ps, 1 ≤ l.length ∧ l.length ≤ 100000) (w : World) (hr : PagesAt w w.heap.size A n ps) :
    Calls Tryz.prog 71 #[.slice A n c] w fun e w' => ∃ (v : Value) (L : List PgD), e = .returned v ∧ L.map PgD.con = ps ∧ (∀ p ∈ L, full p) ∧ OwnP w' w.heap.size L ∧ w'.ownsRow w.heap.size 30 1 v L.length (PV L) ∧ Below w.heap.size w w' := by
  have hl := hr.len
  have Hr := Lib.hid hr
  have Hz := Lib.hid hz
  clear hr hz
  have hlit0 := World.ownsRow_lit (e := 30) (size := 1) w #[] 0 (Nat.le_refl _) (by unfold maxLen; omega) rfl
  go_enter Tryz.func71, Tryz.ntmps71
  go_wp2
  go_loopw [3, 4] (fun v i wr => ∃ (L : List PgD) (j : Nat), j ≤ n ∧ i = .int .i64 j ∧ L.map PgD.con = ps.take j ∧ (∀ p ∈ L, full p) ∧ Hid (OwnP wr w.heap.size L) ∧ Hid (wr.ownsRow w.heap.size 30 1 v L.length (PV L)) ∧ Below w.heap.size w wr)
    (fun _ i _ => n - (intOf i).toNat)
  case atStart => exact ⟨[], 0, by omega, rfl, rfl, fun p h => absurd h (List.not_mem_nil), OwnP.nil_ _ _, hlit0, belA (bel0 w) _⟩
  case round =>
    obtain ⟨L, j, hj, rfl, hcon, hfull, HO, Own, hbel⟩ := hrel
    have hLl : L.length = j := by have := congrArg List.length hcon; rw [List.length_map, List.length_take] at this; omega
    by_cases hlt : j < n
    · obtain ⟨hk, b, o, A', c', rfl, hb, y0, hr'⟩ := ((Hr.out.below hbel).more hbel.size).at_ hlt
      have q0 : (0 : Int) ≤ (j : Int) := by omega
      have q1 : (j : Int) < (n : Int) := by omega
      have hzl := Hz.out _ (List.getElem_mem hk)
      obtain ⟨l, hll⟩ : ∃ l, ps[j] = l := ⟨_, rfl⟩
      rw [hll] at y0 hr' hzl
      have hlit := World.ownsRow_lit (e := 40) (size := 4) wr #[] 0 (Nat.le_refl _) (by unfold maxLen; omega) rfl
      have HA := Lib.hid (show Reads (wr.alloc (.cells #[] 40)) (wr.alloc (.cells #[] 40)).heap.size 4 A' l.length (ES l) from (hr'.below (belA (bel0 wr) _)).more (by simp))
      go_wp2_with (first
        | (at_builtin
           refine wpList_app _ rfl _ _ _ rfl Tryz.el_ent hlit rfl HA.out rfl (ES_cells _) (by unfold maxLen; omega) (by omega) (by simp) ?_
           intro v1 w1 own1 _ _ hb1'
           rw [Nat.zero_add] at own1
           have hb1 : Below wr.heap.size wr w1 := (belA (bel0 wr) _).trans hb1'
           obtain ⟨g1, c1, rfl⟩ := own_form1 own1 (by omega)
           have B1 := belN hbel hb1
           have HO1 := Lib.hid (HO.out.bl hb1)
           have Own1 := Lib.hid (own_below Own.out hb1 (Nat.le_refl _))
           have Own1e := Lib.hid own1
           have sz := B1.size
           have hb0 : Below w.heap.size w (w1.alloc (.cells #[.slice (some ⟨g1, 0, none⟩) l.length c1] 30)) := belA B1 _
           clear own1 hb1' hlit HA y0 hr')
        | (at_builtin
           go_must (refine wpList_app _ rfl _ _ _ rfl Tryz.el_pg ((own_below Own1.out (belA (bel0 _) _) (Nat.le_refl _))) rfl (reads_new _ _ _ _ 1 (by rfl)) rfl (PV_cells [⟨g1, c1, l, l.length, c1⟩]) (max_small (by omega)) (by omega) (by simp; omega) ?_)
           intro v3 w3 own3 hg3 _ hb3
           have Own3 := Lib.hid own3
           clear own3))
      have own1 := Own1e.out
      obtain ⟨p, hp⟩ : ∃ p : PgD, p = ⟨g1, c1, l, l.length, c1⟩ := ⟨_, rfl⟩
      have hpv : p.val = .slice (some ⟨g1, 0, none⟩) l.length c1 := by rw [hp]; rfl
      have hpd : OwnD w1 w.heap.size p := by rw [hp]; exact ⟨own_more own1 hbel.size, Nat.le_refl _⟩
      have hpf : full p := by rw [hp]; exact ⟨rfl, rfl⟩
      have hpc : p.con = l := by rw [full_con hpf, hp]
      have hpn : ∀ q ∈ L, q.g ≠ p.g := fun q hq => by
        have h1 := (HO.out.1 q hq).lt.2
        have h2 := (own_some own1).1
        rw [hp]
        show q.g ≠ g1
        omega
      have HP := Lib.hid (HO1.out.snoc hpd hpn)
      have own3 := Own3.out
      have HP3 := Lib.hid ((HP.out.bl (belA (bel0 _) (.cells #[.slice (some ⟨g1, 0, none⟩) l.length c1] 30))).app (own_below Own1.out (belA (bel0 _) _) (Nat.le_refl _)) hg3)
      have hb4 : Below w.heap.size w w3 := hb0.trans hb3
      have own4 : w3.ownsRow w.heap.size 30 1 v3 (L ++ [p]).length (PV (L ++ [p])) := by
        rw [PV_append, List.length_append]
        show w3.ownsRow _ _ 1 v3 (L.length + 1) (PV L ++ [p.val])
        rw [hpv]
        exact own3
      have Own4 := Lib.hid own4
      have hcon2 : (L ++ [p]).map PgD.con = ps.take (j + 1) := by
        rw [List.map_append, hcon, List.take_succ_eq_append_getElem hk, hll]
        simp [hpc]
      clear own3 own4
      first
        | exact ⟨⟨L ++ [p], j + 1, by omega, by go_num, hcon2, fun q hq => (List.mem_append.1 hq).elim (hfull q) (fun h => by rw [List.mem_singleton] at h; rw [h]; exact hpf), HP3.out, Own4.out, hb4⟩, by simp [intOf]; omega⟩
        | (go_roundw; case rel => exact ⟨L ++ [p], j + 1, by omega, by go_num, hcon2, fun q hq => (List.mem_append.1 hq).elim (hfull q) (fun h => by rw [List.mem_singleton] at h; rw [h]; exact hpf), HP3.out, Own4.out, hb4⟩; case measure => (simp [intOf]; omega))
    · have q1 : ¬ ((j : Int) < (n : Int)) := by omega
      rw [List.take_of_length_le (by omega)] at hcon
      go_wp2
      go_ret
      exact ⟨_, rfl, L, hcon, hfull, HO.out, Own.out, hbel⟩

def PgRow (lo : Nat) (M : List PgD) (e : Ending) (w' : World) : Prop := ∃ v, e = .returned v ∧ w'.ownsRow lo 30 1 v M.length (PV M)
theorem pgRow_end {lo m : Nat} {M : List PgD} {v : Value} {xs : List Value} {w' : World} (h : w'.ownsRow lo 30 1 v m xs) (hm : m = M.length) (hx : xs = PV M) : PgRow lo M (.returned v) w' := ⟨v, rfl, by rw [← hm, ← hx]; exact h⟩

/-- The head, the tail of a row of pages are read. -/
theorem phead {w : World} {lo g n c : Nat} {L : List PgD} (h : w.ownsRow lo 30 1 (.slice (some ⟨g, 0, none⟩) n c) n (PV L)) {k : Nat} (hk : k ≤ n) : Reads w w.heap.size 1 (some ⟨g, 0, none⟩) k (PV (L.take k)) := by
  have := reads_take (Reads.of_own h) k hk
  rw [Nat.mul_one, PV_take] at this
  exact this
theorem ptail {w : World} {lo g n c : Nat} {L : List PgD} (h : w.ownsRow lo 30 1 (.slice (some ⟨g, 0, none⟩) n c) n (PV L)) {k : Nat} (hk : k < n) :
    ∃ A : Addr, (if c = k + 1 then (some ⟨g, 0, none⟩ : Option Addr) else some ⟨g, k + 1, none⟩) = some A ∧ Reads w w.heap.size 1 (some A) (n - (k + 1)) (PV (L.drop (k + 1))) := by
  have hl : L.length = n := by have := h.1; rw [PV_length] at this; omega
  obtain ⟨cur, hb, hh, c1, c2, c3, c4⟩ := own_heap h
  have hg := (Array.getElem?_eq_some_iff.1 hh).1
  have hl2 : (PV (L.drop (k + 1))).length = (n - (k + 1)) * 1 := by rw [PV_length, List.length_drop]; omega
  by_cases hc : c = k + 1
  · exact ⟨⟨g, 0, none⟩, by rw [if_pos hc], hl2, fun hp => by omega⟩
  · exact ⟨⟨g, k + 1, none⟩, by rw [if_neg hc], hl2, fun _ => ⟨_, rfl, hg, fun j u hu => own_src h (k + 1) j u (by rw [PV_drop]; exact hu)⟩⟩

set_option maxRecDepth 100000 in
set_option maxHeartbeats 4000000 in
theorem l18Without_any (lo g n c : Nat) (L : List PgD) (k : Nat) (hkn : k < n) (hn : n ≤ 1000) (w : World) (hown : w.ownsRow lo 30 1 (.slice (some ⟨g, 0, none⟩) n c) n (PV L)) :
    Calls Tryz.prog 104 #[.slice (some ⟨g, 0, none⟩) n c, .int .i64 k] w fun e w' => PgRow w.heap.size (L.take k ++ L.drop (k + 1)) e w' ∧ Below w.heap.size w w' := by
  have hl : L.length = n := by have := hown.1; rw [PV_length] at this; omega
  obtain ⟨cur, _, _, hc1, hc2, _⟩ := own_heap hown
  unfold maxLen at hc2
  obtain ⟨A2, hA2, hrt⟩ := ptail hown hkn
  have hrh := phead hown (show k ≤ n by omega)
  have Hrt := Lib.hid hrt
  have Hrh := Lib.hid hrh
  have HL := Lib.hid hl
  have hlit := Lib.hid (World.ownsRow_lit (e := 30) (size := 1) w #[] 0 (Nat.le_refl _) (by unfold maxLen; omega) rfl)
  have q1 : (0 : Int) ≤ (k : Int) := by omega
  have q2 : k ≤ c := by omega
  have q3 : (k : Int) ≤ (c : Int) := by omega
  have q4 : (0 : Int) ≤ (k : Int) + 1 := by omega
  have q5 : (k : Int) + 1 ≤ (n : Int) := by omega
  have q6 : ((k : Int) + 1).toNat = k + 1 := by omega
  have q7 : IntKind.i64.wrap ((k : Int) + 1) = (k : Int) + 1 := by rw [IntKind.wrap_i64]; omega
  have q8 : k + 1 ≤ n := by omega
  clear hrt hrh hown hl
  go_enter Tryz.func104, Tryz.ntmps104
  go_wp2_with (first
    | (at_builtin; refine wpList_app _ rfl _ _ _ rfl Tryz.el_pg hlit.out rfl ((Hrh.out.below (belA (bel0 w) _)).more (Nat.le_succ _)) rfl (PV_cells _) (by unfold maxLen; omega) (by omega) (by simp) ?_; intro v2 w2 own2 _ _ hb2; rw [Nat.zero_add] at own2; have Own2 := Lib.hid own2; have B2 := Lib.hid ((belA (bel0 w) (.cells #[] 30)).trans hb2); clear own2 hb2)
    | (at_builtin; refine wpList_app _ rfl _ _ _ rfl Tryz.el_pg Own2.out rfl ((Hrt.out.below B2.out).more B2.out.size) rfl (PV_cells _) (by unfold maxLen; omega) (by omega) (B2.out.size) ?_; intro v4 w4 own4 _ _ hb4; have Own4 := Lib.hid own4; have B4 := Lib.hid (B2.out.trans hb4); clear own4 hb4))
  have h4 := Own4.out
  have hcnt : k + (n - (k + 1)) = (L.take k ++ L.drop (k + 1)).length := by have := HL.out; simp; omega
  refine bodyPost_ret (v := v4) (by simp [results, Tryz.results104, go_sem]) rfl ⟨pgRow_end h4 hcnt (by simp [PV]), B4.out⟩

set_option maxRecDepth 100000 in
set_option maxHeartbeats 4000000 in
theorem l18Pages_any (lo g n c : Nat) (L : List PgD) (k : Nat) (hkn : k < n) (a b : PgD) (hn : n ≤ 1000) (w : World) (hown : w.ownsRow lo 30 1 (.slice (some ⟨g, 0, none⟩) n c) n (PV L)) :
    Calls Tryz.prog 93 #[.slice (some ⟨g, 0, none⟩) n c, .int .i64 k, .slice (some ⟨a.g, 0, none⟩) a.n a.k, .slice (some ⟨b.g, 0, none⟩) b.n b.k] w fun e w' => PgRow w.heap.size (L.take k ++ a :: b :: L.drop (k + 1)) e w' ∧ Below w.heap.size w w' := by
  have hl : L.length = n := by have := hown.1; rw [PV_length] at this; omega
  obtain ⟨cur, _, _, hc1, hc2, _⟩ := own_heap hown
  unfold maxLen at hc2
  obtain ⟨A2, hA2, hrt⟩ := ptail hown hkn
  have hrh := phead hown (show k ≤ n by omega)
  have Hrt := Lib.hid hrt
  have Hrh := Lib.hid hrh
  have HL := Lib.hid hl
  have hlit := Lib.hid (World.ownsRow_lit (e := 30) (size := 1) w #[] 0 (Nat.le_refl _) (by unfold maxLen; omega) rfl)
  have q1 : (0 : Int) ≤ (k : Int) := by omega
  have q2 : k ≤ c := by omega
  have q3 : (k : Int) ≤ (c : Int) := by omega
  have q4 : (0 : Int) ≤ (k : Int) + 1 := by omega
  have q5 : (k : Int) + 1 ≤ (n : Int) := by omega
  have q6 : ((k : Int) + 1).toNat = k + 1 := by omega
  have q7 : IntKind.i64.wrap ((k : Int) + 1) = (k : Int) + 1 := by rw [IntKind.wrap_i64]; omega
  have q8 : k + 1 ≤ n := by omega
  clear hrt hrh hown hl
  go_enter Tryz.func93, Tryz.ntmps93
  go_wp2_with (first
    | (at_builtin; refine wpList_app _ rfl _ _ _ rfl Tryz.el_pg hlit.out rfl ((Hrh.out.below (belA (bel0 w) _)).more (Nat.le_succ _)) rfl (PV_cells _) (by unfold maxLen; omega) (by omega) (by simp) ?_; intro v2 w2 own2 _ _ hb2; rw [Nat.zero_add] at own2; have Own2 := Lib.hid own2; have B2 := Lib.hid ((belA (bel0 w) (.cells #[] 30)).trans hb2); clear own2 hb2)
    | (at_builtin; refine wpList_app _ rfl _ _ _ rfl Tryz.el_pg (Own2.out.alloc _) rfl (reads_new _ #[.slice (some ⟨a.g, 0, none⟩) a.n a.k, .slice (some ⟨b.g, 0, none⟩) b.n b.k] 30 1 2 (by rfl)) rfl (PV_cells [a, b]) (by unfold maxLen; omega) (by omega) (by have := B2.out.size; simp; omega) ?_; intro v3 w3 own3 _ _ hb3; have Own3 := Lib.hid own3; have B3 := Lib.hid ((belA B2.out _).trans hb3); clear own3 hb3)
    | (at_builtin; refine wpList_app _ rfl _ _ _ rfl Tryz.el_pg Own3.out rfl ((Hrt.out.below B3.out).more B3.out.size) rfl (PV_cells _) (by unfold maxLen; omega) (by omega) (B3.out.size) ?_; intro v4 w4 own4 _ _ hb4; have Own4 := Lib.hid own4; have B4 := Lib.hid (B3.out.trans hb4); clear own4 hb4))
  have h4 := Own4.out
  have hcnt : k + 2 + (n - (k + 1)) = (L.take k ++ a :: b :: L.drop (k + 1)).length := by have := HL.out; simp; omega
  refine bodyPost_ret (v := v4) (by simp [results, Tryz.results93, go_sem]) rfl ⟨pgRow_end h4 hcnt (by simp [PV, PgD.val]), B4.out⟩

def IntoPost (N m lo : Nat) (r : Ending) (w' : World) : Prop := ∃ (v : Value) (xs : List EntD), r = .returned v ∧ xs.length = m ∧ (∀ x ∈ xs, x.s.size ≤ N) ∧ w'.ownsRow lo 40 4 v m (ES xs)
theorem into_end {N m lo : Nat} {v : Value} {xs : List EntD} {w' : World} (h1 : xs.length = m) (h2 : ∀ x ∈ xs, x.s.size ≤ N) (h3 : w'.ownsRow lo 40 4 v m (ES xs)) : IntoPost N m lo (.returned v) w' := ⟨v, xs, rfl, h1, h2, h3⟩
theorem sm_snoc {N : Nat} {o : List EntD} {e : EntD} (h : ∀ x ∈ o, x.s.size ≤ N) (he : e.s.size ≤ N) : ∀ x ∈ o ++ [e], x.s.size ≤ N := fun x hx => by
  rcases List.mem_append.1 hx with h1 | h1
  · exact h x h1
  · rw [List.mem_singleton] at h1; rw [h1]; exact he

set_option maxRecDepth 100000 in
set_option maxHeartbeats 4000000 in
theorem l18Into_any (N : Nat) (A : Option Addr) (n c : Nat) (ds : List EntD) (hz : ∀ x ∈ ds, x.s.size ≤ N) (eh ei : Int) (es : ByteArray) (ed : Int) (he : es.size ≤ N) (hn : n ≤ 1000) (w : World) (hr : Reads w w.heap.size 4 A n (ES ds)) :
    Calls Tryz.prog 92 #[.slice A n c, .agg #[.int .i64 eh, .int .i64 ei, .string es, .int .i64 ed]] w fun r w' => IntoPost N (n + 1) w.heap.size r w' ∧ Below w.heap.size w w' := by
  have hl : ds.length = n := by have := hr.1; rw [ES_length] at this; omega
  obtain ⟨w6, hw6⟩ : ∃ W, w.alloc (.cells #[.int .i64 eh, .int .i64 ei, .string es, .int .i64 ed] 40) = W := ⟨_, rfl⟩
  have X : Blk w6 w.heap.size 40 #[.int .i64 eh, .int .i64 ei, .string es, .int .i64 ed] := by rw [← hw6]; exact Blk.new' _ _ _ _ rfl
  have B6 : Below w.heap.size w w6 := by rw [← hw6]; exact belA (bel0 w) _
  obtain ⟨W7, hW7⟩ : ∃ W, w6.alloc (.cells #[] 40) = W := ⟨_, rfl⟩
  have o7 : W7.ownsRow w6.heap.size 40 4 (.slice (some ⟨w6.heap.size, 0, none⟩) 0 0) 0 (ES []) := by rw [← hW7]; exact World.ownsRow_lit (e := 40) (size := 4) w6 #[] 0 (Nat.le_refl _) (by unfold maxLen; omega) rfl
  have b7 : Below w6.heap.size w6 W7 := by rw [← hW7]; exact belA (bel0 w6) _
  have Hr := Lib.hid hr
  have HL := Lib.hid hl
  have Hz := Lib.hid hz
  have HX := Lib.hid X
  have hs6 := B6.size
  clear hr hl hz X
  go_enter Tryz.func92, Tryz.ntmps92
  go_wp2
  try rw [hw6]
  try rw [hW7]
  have O7 := Lib.hid o7
  clear o7 hW7 hw6
  go_loopw [5, 6, 7] (fun out put ii wr => ∃ (j : Nat) (o : List EntD) (bb : Bool) (u : Value) (m : Nat), j ≤ n ∧ ii = .int .i64 j ∧ put = .bool bb ∧ out = u ∧ Hid (m = j + bb.toNat) ∧ Hid (o.length = m) ∧ Hid (∀ x ∈ o, x.s.size ≤ N) ∧ Hid (wr.ownsRow w6.heap.size 40 4 u m (ES o)) ∧ Below w6.heap.size w6 wr)
    (fun _ _ ii _ => n - (intOf ii).toNat)
  case atStart => exact ⟨0, [], false, _, 0, by omega, rfl, rfl, rfl, rfl, rfl, fun x h => absurd h (List.not_mem_nil), O7.out, b7⟩
  case round =>
    obtain ⟨j, o, bb, u, m, hj, rfl, rfl, rfl, hm, hlen, hsm, hown, hbel7⟩ := hrel
    have hm13 : m ≤ 1001 := by have h1 := hm.out; cases bb <;> simp only [Bool.toNat_true, Bool.toNat_false] at h1 <;> omega
    have B8 := belN B6 hbel7
    have hs8 := hbel7.size
    have X8 := HX.out.below hbel7 HX.out.lt
    by_cases hlt : j < n
    · obtain ⟨hkx, b, oo, rfl, hadb, z0, z1, z2, z3⟩ := reads_ent (Hr.out.below B8) hlt
      have q0 : (0 : Int) ≤ ↑j := by omega
      have q1 : (↑j : Int) < ↑n := by omega
      have hez := Hz.out _ (List.getElem_mem hkx)
      obtain ⟨e, he'⟩ : ∃ e, ds[j] = e := ⟨_, rfl⟩
      rw [he'] at z0 z1 z2 z3 hez
      clear he'
      have x0 := X8.get (x := .int .i64 eh) 0 rfl
      have x1 := X8.get (x := .int .i64 ei) 1 rfl
      have x2 := X8.get (x := .string es) 2 rfl
      have x3 := X8.get (x := .int .i64 ed) 3 rfl
      have lX := X8.lt
      rcases bb with _ | _
      · go_wp2_with fail
        go_region_held3 (fun w' => w'.cell? ⟨w.heap.size, 0, none⟩ = some (.int .i64 eh) ∧ w'.cell? ⟨w.heap.size, 1, none⟩ = some (.int .i64 ei) ∧ w'.cell? ⟨w.heap.size, 2, none⟩ = some (.string es) ∧ w'.cell? ⟨w.heap.size, 3, none⟩ = some (.int .i64 ed) ∧ w'.cell? ⟨b, oo + j * 4, none⟩ = some (.int .i64 e.h) ∧ w'.cell? ⟨b, oo + j * 4 + 1, none⟩ = some (.int .i64 e.i)) (first | go_keep | (refine ⟨keep1 hb8 ?_, keep1 hb8 ?_, keep1 hb8 ?_, keep1 hb8 ?_, keep1 hb8 ?_, keep1 hb8 ?_⟩ <;> go_keep))
          (first | (go_at_call 39; refine (l5Less_any ⟨eh, ei, es, ed⟩ _ _ _).mono ?_; rintro r w8 ⟨rfl, hb8⟩))
        have hq8 : Below wr.heap.size wr w8 := (bel0 wr).drew.trans hb8
        have hown8 := own_below hown.out hq8 (Nat.le_refl _)
        have y0 := keep1 hq8 z0 (by omega)
        have y1 := keep1 hq8 z1 (by omega)
        have y2 := keep1 hq8 z2 (by omega)
        have y3 := keep1 hq8 z3 (by omega)
        have X9 := X8.below hq8 X8.lt
        have a0 := X9.get (x := .int .i64 eh) 0 rfl
        have a1 := X9.get (x := .int .i64 ei) 1 rfl
        have a2 := X9.get (x := .string es) 2 rfl
        have a3 := X9.get (x := .int .i64 ed) 3 rfl
        have z8 := hq8.size
        have BB := belN hbel7 hq8
        clear z0 z1 z2 z3 x0 x1 x2 x3 lX
        have lX := X9.lt
        rcases hls : lessB ⟨eh, ei, es, ed⟩ e.h e.i with _ | _
        · try rw [hls]
          go_wp2_with (at_builtin; refine wpList_app _ rfl _ _ _ rfl Tryz.el_ent (hown8.alloc _) rfl (reads_new (_) #[.int .i64 e.h, .int .i64 e.i, .string e.s, .int .i64 e.d] 40 4 1 rfl) rfl (by simp [Value.oneCell']) (by unfold maxLen; omega) (by omega) (by simp; omega) ?_; intro v9 w9 ow9 _ _ bw9; have Ow9 := Lib.hid ow9; have Cw9 := Lib.hid bw9; clear ow9 bw9)
          go_roundw
          case rel =>
            have h9 := Ow9.out
            refine ⟨j + 1, o ++ [e], false, v9, m + 1, by omega, by go_num, rfl, rfl, ?_, ?_, ?_, ?_, ?_⟩
            · show _ = _; have := hm.out; simp only [Bool.toNat_false] at this ⊢; omega
            · show _ = _; simp only [List.length_append, List.length_cons, List.length_nil]; have := hlen.out; omega
            · show ∀ x ∈ _, _; exact sm_snoc hsm.out hez
            · show World.ownsRow _ _ _ _ _ _ _; simp only [ES_append]; exact h9
            · exact (belA BB _).trans Cw9.out
          case measure => simp [intOf]; omega
        · try rw [hls]
          go_wp2_with (first
            | (at_builtin; refine wpList_app _ rfl _ _ _ rfl Tryz.el_ent (hown8.alloc _) rfl (reads_new (_) #[.int .i64 eh, .int .i64 ei, .string es, .int .i64 ed] 40 4 1 rfl) rfl (by simp [Value.oneCell']) (by unfold maxLen; omega) (by omega) (by simp; omega) ?_; intro v9 w9 ow9 _ _ bw9; have Ow9 := Lib.hid ow9; have Cw9 := Lib.hid bw9; have l9 : w6.heap.size ≤ w9.heap.size := ((belA BB _).trans bw9).size; have u0 := (bw9.cell (p := ⟨b, oo + j * 4, none⟩) (show b < w6.heap.size by omega)).trans (keep1 (belA (bel0 w8) (.cells #[.int .i64 eh, .int .i64 ei, .string es, .int .i64 ed] 40)) y0 (by omega)); have u1 := (bw9.cell (p := ⟨b, oo + j * 4 + 1, none⟩) (show b < w6.heap.size by omega)).trans (keep1 (belA (bel0 w8) (.cells #[.int .i64 eh, .int .i64 ei, .string es, .int .i64 ed] 40)) y1 (by omega)); have u2 := (bw9.cell (p := ⟨b, oo + j * 4 + 2, none⟩) (show b < w6.heap.size by omega)).trans (keep1 (belA (bel0 w8) (.cells #[.int .i64 eh, .int .i64 ei, .string es, .int .i64 ed] 40)) y2 (by omega)); have u3 := (bw9.cell (p := ⟨b, oo + j * 4 + 3, none⟩) (show b < w6.heap.size by omega)).trans (keep1 (belA (bel0 w8) (.cells #[.int .i64 eh, .int .i64 ei, .string es, .int .i64 ed] 40)) y3 (by omega)); clear y0 y1 y2 y3; clear ow9 bw9)
            | (at_builtin; refine wpList_app _ rfl _ _ _ rfl Tryz.el_ent (Ow9.out.alloc _) rfl (reads_new (_) #[.int .i64 e.h, .int .i64 e.i, .string e.s, .int .i64 e.d] 40 4 1 rfl) rfl (by simp [Value.oneCell']) (by unfold maxLen; omega) (by omega) (by simp; omega) ?_; intro v10 w10 ow10 _ _ bw10; have Ow10 := Lib.hid ow10; have Cw10 := Lib.hid bw10; clear ow10 bw10))
          go_roundw
          case rel =>
            have h9 := Ow10.out
            refine ⟨j + 1, o ++ [⟨eh, ei, es, ed⟩] ++ [e], true, v10, m + 1 + 1, by omega, by go_num, rfl, rfl, ?_, ?_, ?_, ?_, ?_⟩
            · show _ = _; have := hm.out; simp only [Bool.toNat_true, Bool.toNat_false] at this ⊢; omega
            · show _ = _; simp only [List.length_append, List.length_cons, List.length_nil]; have := hlen.out; omega
            · show ∀ x ∈ _, _; exact sm_snoc (sm_snoc hsm.out he) hez
            · show World.ownsRow _ _ _ _ _ _ _; simp only [ES_append]; exact h9
            · exact (belA ((belA BB _).trans Cw9.out) _).trans Cw10.out
          case measure => simp [intOf]; omega
      · go_wp2_with fail
        go_quiet (fail)
        go_wp2_with (at_builtin; refine wpList_app _ rfl _ _ _ rfl Tryz.el_ent (hown.out.alloc _) rfl (reads_new (_) #[.int .i64 e.h, .int .i64 e.i, .string e.s, .int .i64 e.d] 40 4 1 rfl) rfl (by simp [Value.oneCell']) (by unfold maxLen; omega) (by omega) (by simp; omega) ?_; intro v9 w9 ow9 _ _ bw9; have Ow9 := Lib.hid ow9; have Cw9 := Lib.hid bw9; clear ow9 bw9)
        go_roundw
        case rel =>
          have h9 := Ow9.out
          refine ⟨j + 1, o ++ [e], true, v9, m + 1, by omega, by go_num, rfl, rfl, ?_, ?_, ?_, ?_, ?_⟩
          · show _ = _; have := hm.out; simp only [Bool.toNat_true] at this ⊢; omega
          · show _ = _; simp only [List.length_append, List.length_cons, List.length_nil]; have := hlen.out; omega
          · show ∀ x ∈ _, _; exact sm_snoc hsm.out hez
          · show World.ownsRow _ _ _ _ _ _ _; simp only [ES_append]; exact h9
          · exact (belA (below_drewN hbel7 _) _).trans Cw9.out
        case measure => simp [intOf]; omega
    · obtain rfl : n = j := by omega
      have x0 := X8.get (x := .int .i64 eh) 0 rfl
      have x1 := X8.get (x := .int .i64 ei) 1 rfl
      have x2 := X8.get (x := .string es) 2 rfl
      have x3 := X8.get (x := .int .i64 ed) 3 rfl
      have lX := X8.lt
      rcases bb with _ | _
      · go_wp2_with (at_builtin; refine wpList_app _ rfl _ _ _ rfl Tryz.el_ent (hown.out.alloc _) rfl (reads_new (_) #[.int .i64 eh, .int .i64 ei, .string es, .int .i64 ed] 40 4 1 rfl) rfl (by simp [Value.oneCell']) (by unfold maxLen; omega) (by omega) (by simp; omega) ?_; intro v9 w9 ow9 _ _ bw9; have Ow9 := Lib.hid ow9; have Cw9 := Lib.hid bw9; clear ow9 bw9)
        have h9 := Ow9.out
        refine bodyPost_ret (v := v9) (by simp [results, Tryz.results92, go_sem]) rfl ⟨into_end (xs := o ++ [⟨eh, ei, es, ed⟩]) (by simp only [List.length_append, List.length_cons, List.length_nil]; have := hlen.out; have := hm.out; simp only [Bool.toNat_false] at this; omega) (sm_snoc hsm.out he) ?_, ?_⟩
        · have hc : m + 1 = n + 1 := by have := hm.out; simp only [Bool.toNat_false] at this; omega
          rw [ES_append, ← hc]
          exact own_more h9 hs6
        · exact B6.trans (((belA hbel7 _).trans Cw9.out).mono B6.size)
      · go_wp2
        refine bodyPost_ret (v := u5) (by simp [results, Tryz.results92, go_sem]) rfl ⟨into_end (xs := o) (by have := hlen.out; have := hm.out; simp only [Bool.toNat_true] at this; omega) hsm.out ?_, B8⟩
        have hc : m = n + 1 := by have := hm.out; simp only [Bool.toNat_true] at this; omega
        rw [← hc]
        exact own_more hown.out hs6

section
variable {P : Program} (w : World)
theorem step_appX {ops : Array Oper} {o : Oper} {a : Act} {K : Act → World → Prop} {Q : Exit → Act → World → Prop} {E : Prop} (hgd : o.guard = none) (s x : Operand) (t : TypeId)
    (ho : o.op = .call { callee := .builtin .append, args := #[s, x], argTypes := #[t, t] })
    {e : TypeId} {z : Value} {size bytes : Nat} (hE : ElemOk P t e z size bytes)
    {base : Nat} {v : Value} {n : Nat} {xs : List Value} (hown : w.ownsRow base e size v n xs) (hs : a.eval s = v)
    {B : Nat} {A : Option Addr} {m c : Nat} {news : List Value} (hr : Reads w B size A m news) (hx : a.eval x = .slice A m c) (h1 : ∀ u ∈ news, u.oneCell' = true)
    (h63 : n + m ≤ maxLen) (hbytes : (n + m) * bytes ≤ 140737488355328) (hbase : base ≤ w.heap.size)
    (h : ∀ v' w', w'.ownsRow base e size v' (n + m) (xs ++ news) → w.grownBy w' v.ownBlock → (v'.ownBlock = v.ownBlock ∨ v'.ownBlock = some w.heap.size) → Below base w w' → K (a.put o.dst v') w') :
    if Region.wanted o (yielded ops a.tmps) = true then Oper.wp P o a w K Q else E := by
  obtain ⟨i, hi, hz, hsize, hby⟩ := info_parts hE.hi
  exact step_append_any w hgd s x t ho base e i z size bytes hE.ht hi hz hsize hby hE.hzs hE.hsz v n xs hs hown B A m c news hx hr h1 h63 hbytes hbase fun v' w' h2 h3 h4 => h v' w' h2 h3 h4 (below_grownBy hown h3 hbase)
end

theorem own_lit0 (w : World) (e : TypeId) (size base : Nat) (hb : base ≤ w.heap.size) : (w.alloc (.cells #[] e)).ownsRow base e size (.slice (some ⟨w.heap.size, 0, none⟩) 0 0) 0 [] :=
  own_more (World.ownsRow_lit (e := e) (size := size) w #[] 0 (Nat.le_refl _) (by unfold maxLen; omega) (by simp)) hb
theorem own_keepG {w w' : World} {base n size g : Nat} {e : TypeId} {v : Value} {xs : List Value} (h : w.ownsRow base e size v n xs) (hg : w.grownBy w' (some g)) (hne : v.ownBlock ≠ some g) : w'.ownsRow base e size v n xs := by
  refine ⟨h.1, ?_⟩
  rcases h.2 with h2 | ⟨g', cap, cur, rfl, hb, hh, r⟩
  · exact .inl h2
  · exact .inr ⟨g', cap, cur, rfl, hb, (hg.block g' (Array.getElem?_eq_some_iff.1 hh).1 (fun e => hne (by rw [← e]; rfl))).trans hh, r⟩

end Go.Proofs.YtbchbmcphbeikaaGreatDoor
