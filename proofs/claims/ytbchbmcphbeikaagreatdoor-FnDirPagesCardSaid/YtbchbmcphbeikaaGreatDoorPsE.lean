/- The reference's PgDrop, DpAdd and DpDrop on pages: some few and small pages of one's own. -/
import Derived.Test.YtbchbmcphbeikaaGreatDoorPsD
import Derived.Test.YtbchbmcphbeikaaGreatDoorDpI
import Derived.Test.YtbchbmcphbeikaaGreatDoorAdd
namespace Go.Proofs.YtbchbmcphbeikaaGreatDoor
open Go Go.RowKit

theorem ok_two {ps : List (List EntD)} (h : okPB ps = true) (h1 : ps.length ≠ 1) : ∀ l ∈ ps, 2 ≤ l.length := by
  intro l hl
  have h2 := (okPB_iff.1 h).2.1 l hl
  unfold pgB at h2
  simp at h2
  have h3 : 0 < ps.length := List.length_pos_of_mem hl
  omega
theorem fzL_of {N : Nat} {ps : List (List EntD)} {L : List PgD} (hok : okPB ps = true) (hz : ∀ l ∈ ps, ∀ x ∈ l, x.s.size ≤ N) (hcon : L.map PgD.con = ps) (hf : ∀ p ∈ L, full p) : FzL N L := fun p hp => by
  obtain ⟨_, h4, _⟩ := ok_small hok
  have hm : p.con ∈ ps := by rw [← hcon]; exact List.mem_map_of_mem hp
  have h1 := h4 _ hm
  have h2 := hz _ hm
  rw [full_con (hf p hp)] at h1 h2
  exact ⟨hf p hp, h1.1, by omega, h2⟩
theorem fillPg {N lo : Nat} {r : Ending} {w' : World} (h : FillOut N lo r w') : ∃ v, r = .returned v ∧ Hid (PgOut N lo (.returned (.tuple #[v, .bool true])) w') := by
  obtain ⟨v, M, rfl, h1, h2, h3⟩ := h
  exact ⟨v, rfl, Lib.hid ⟨v, M, true, rfl, h1, h2, h3⟩⟩

set_option maxRecDepth 100000 in
set_option maxHeartbeats 4000000 in
theorem pgDrop_spec (N : Nat) (A : Option Addr) (n c : Nat) (ps : List (List EntD)) (x y : Int) (hok : okPB ps = true) (hzN : ∀ l ∈ ps, ∀ x ∈ l, x.s.size ≤ N) (w : World) (hr : PagesAt w w.heap.size A n ps) :
    Calls Tryz.prog 72 #[.slice A n c, .int .i64 x, .int .i64 y] w fun r w' => PgOut N w.heap.size r w' ∧ Below w.heap.size w w' := by
  have hl := hr.len
  obtain ⟨h8, hz4, hz⟩ := ok_small hok
  have h2 := ok_two hok
  have Hp := Lib.hid (fun W (hb : Below w.heap.size w W) => (hr.below hb).more hb.size)
  have HzN := Lib.hid hzN
  have Hok := Lib.hid hok
  clear hr hzN
  go_enter Tryz.func72, Tryz.ntmps72
  go_wp2_with fail
  refine (pagesOk_spec A n c ps hz (by omega) w (Hp.out _ (bel0 w))).mono ?_
  rintro r w2 ⟨rfl, B2⟩
  rw [hok]
  clear hok
  go_wp2_with fail
  refine (l18Copy_any A n c ps (by omega) (fun l hl => by have := hz4 l hl; omega) w2 (Hp.out _ B2)).mono ?_
  rintro r w3 ⟨v, L, rfl, hcon, hfull, hO, hown, hb3⟩
  obtain ⟨Ax, cx, rfl, _, _, _⟩ := own_vals hown
  have hLl : L.length = n := by rw [← hl, ← hcon, List.length_map]
  rw [hLl] at hown ⊢
  have B3 := belN B2 hb3
  have HO := Lib.hid (hO.more B2.size)
  have Own := Lib.hid (own_more hown B2.size)
  have HSm := Lib.hid (smL_of Hok.out HzN.out hcon)
  have HF := Lib.hid hfull
  have HC := Lib.hid hcon
  clear hO hown B2 hb3 hfull hcon
  go_wp2_with fail
  refine (l18At_any A n c ps x y (fun l hl => by have := hz4 l hl; omega) (by omega) w3 (Hp.out _ B3)).mono ?_
  rintro r w4 ⟨rfl, hcase⟩
  rcases hcase with ⟨i, k, hi, hk, rfl, _⟩ | ⟨rfl, hf⟩
  rotate_left
  · clear hf
    go_wp2
    refine bodyPost_ret (v := .tuple #[.slice Ax n cx, .bool false]) (by simp [results, Tryz.results72, go_sem]) rfl ⟨pgOut_end rfl HO.out hLl Own.out HSm.out, B3⟩
  have hiL : i < L.length := by omega
  obtain ⟨g0, cq, he0⟩ := own_form1 Own.out (by omega)
  simp only [Value.slice.injEq, true_and] at he0
  obtain ⟨rfl, rfl⟩ := he0
  obtain ⟨p, hp, mp, dp, vp, yp, cp, nep⟩ := pgf HO.out Own.out HF.out (k := i) hiL
  have hpx : p.xs = ps[i] := by
    rw [← cp, ← hp]
    have : (L.map PgD.con)[i]'(by rw [List.length_map]; exact hiL) = ps[i] := by simp only [HC.out]
    simpa using this
  have hpl : k < p.xs.length := by rw [hpx]; exact hk
  have hp4 : p.xs.length ≤ 4 := by rw [hpx]; exact (hz4 _ (List.getElem_mem hi)).2
  have hpN := Lib.hid (show ∀ e ∈ p.xs, e.s.size ≤ N by rw [hpx]; exact HzN.out _ (List.getElem_mem hi))
  have hpc : p.xs.length ≤ p.c := by obtain ⟨_, _, _, h, _⟩ := own_some dp.1; exact h
  obtain ⟨m, hm⟩ : ∃ m, p.xs.length = m := ⟨_, rfl⟩
  have Hm := Lib.hid hm
  rw [hm] at yp vp
  have ypa := keep1 (belA (bel0 w3) (.cells #[] 40)) yp
  have hd1 := dp.1
  rw [hm] at hd1
  have Hhd := Lib.hid (own_head (k := k) hd1 (by omega))
  obtain ⟨At, hAt, htl⟩ := own_tail (k := k) hd1 (by omega)
  have Htl := Lib.hid htl
  have hlit := Lib.hid (own_lit0 w3 40 4 w3.heap.size (Nat.le_refl _))
  have YA := Lib.hid (own_below Own.out (belA (bel0 w3) (.cells #[] 40)) (Nat.le_refl _))
  have q0 : (0 : Int) ≤ (i : Int) := by omega
  have q0b : ¬ ((i : Int) < 0) := by omega
  have q1 : (i : Int) < (n : Int) := by omega
  have q2 : (0 : Int) ≤ (k : Int) := by omega
  have q3 : (k : Int) ≤ (p.c : Int) := by omega
  have q4 : k ≤ p.c := by omega
  have q5 : (0 : Int) ≤ (k : Int) + 1 := by omega
  have q6 : (k : Int) + 1 ≤ (m : Int) := by omega
  have q7 : ((k : Int) + 1).toNat = k + 1 := by omega
  have q8 : IntKind.i64.wrap ((k : Int) + 1) = (k : Int) + 1 := by rw [IntKind.wrap_i64]; omega
  have q9 : k + 1 ≤ m := by omega
  have LG := (own_some Own.out).1
  clear hd1 htl dp
  have hz3 := Lib.hid (fzL_of Hok.out HzN.out HC.out HF.out)
  by_cases hm1 : m = 1
  · obtain rfl : k = 0 := by omega
    obtain rfl : n = 1 := by
      rcases Nat.decEq n 1 with h | h
      · exfalso
        have := h2 (by omega) _ (List.getElem_mem hi)
        rw [← hpx, Hm.out] at this
        omega
      · exact h
    obtain rfl : i = 0 := by omega
    subst hm1
    clear h2
    have f3 := own_frozen YA.out 0
    have W7 := Lib.hid (World.cell?_setCell_same _ _ (.slice (some ⟨w3.heap.size, 0, none⟩) 0 0) ypa)
    have B7 := Lib.hid (belC (belA B3 (.cells #[] 40)) g0 0 LG (.slice (some ⟨w3.heap.size, 0, none⟩) 0 0))
    go_wp2_with fail
    refine (fill_0 N w.heap.size g0 cx 0 (some ⟨w3.heap.size, 0, none⟩) _ B7.out.size W7.out).mono ?_
    rintro e w8 ⟨hfo, hb8⟩
    obtain ⟨v8, rfl, HPO⟩ := fillPg hfo
    have B8 := B7.out.trans hb8
    clear hfo hb8
    go_wp2
    refine bodyPost_ret (v := .tuple #[v8, .bool true]) (by simp [results, Tryz.results72, go_sem]) rfl ⟨HPO.out, B8⟩
  · clear hlit
    have hlit := Lib.hid (own_lit0 w3 40 4 w3.heap.size (Nat.le_refl _))
    go_wp2_with (first
      | (at_builtin; refine wpList_app _ rfl _ _ _ rfl Tryz.el_ent hlit.out rfl ((Hhd.out.below (belA (bel0 w3) _)).more (Nat.le_succ _)) rfl (ES_cells _) (by unfold maxLen; omega) (by omega) (by simp) ?_; intro v5 w5 own5 hg5 hor5 hb5x; rw [Nat.zero_add, List.nil_append] at own5; have hb5 := (belA (bel0 w3) (.cells #[] 40)).trans hb5x; have y5 := keep1 hb5 yp; have O5 := Lib.hid own5; clear own5 hg5 hor5 hb5x)
      | (at_builtin; refine wpList_app _ rfl _ _ _ rfl Tryz.el_ent O5.out rfl ((Htl.out.below hb5).more hb5.size) rfl (ES_cells _) (by unfold maxLen; omega) (by omega) hb5.size ?_; intro v6 w6 own6 hg6 hor6 hb6x; obtain ⟨g6, c6, rfl⟩ := own_form1 own6 (by omega); have hb6 := hb5.trans hb6x; have y6 := keep1 hb6 yp; have f6 := own_frozen (own_below Own.out hb6 (Nat.le_refl _)) i; have O6 := Lib.hid own6; clear own6 hg6 hor6 hb6x))
    obtain ⟨q, hq⟩ : ∃ z : PgD, z = ⟨g6, c6, p.xs.take k ++ p.xs.drop (k + 1), k + (m - (k + 1)), c6⟩ := ⟨_, rfl⟩
    have hqv : q.val = .slice (some ⟨g6, 0, none⟩) (k + (m - (k + 1))) c6 := by rw [hq]; rfl
    have hql : (p.xs.take k ++ p.xs.drop (k + 1)).length = k + (m - (k + 1)) := by rw [List.length_append, List.length_take, List.length_drop, Hm.out]; omega
    have hqd : OwnD w6 w.heap.size q := by
      rw [hq]
      refine ⟨?_, by simp only [hql]; exact Nat.le_refl _⟩
      simp only [hql]
      have h := own_more O6.out B3.size
      simp only [← ES_append] at h
      exact h
    have HP6 := HO.out.set hiL (gb_new hb6) hqd (.inr (by rw [hq]; exact (own_some O6.out).1))
    have Y6 := own_below Own.out hb6 (Nat.le_refl _)
    have HP7 := Lib.hid (HP6.app Y6 (show w6.grownBy (w6.setCell ⟨g0, i, none⟩ (.slice (some ⟨g6, 0, none⟩) (k + (m - (k + 1))) c6)) (some g0) from only_sc (grown_refl _ _) i _))
    have y := own_set Y6 i q.val
    rw [PV_set, hqv] at y
    have Y7 := Lib.hid y
    have B7 := Lib.hid (belC (belN B3 hb6) g0 i LG (.slice (some ⟨g6, 0, none⟩) (k + (m - (k + 1))) c6))
    have hz7 := Lib.hid (hz3.out.set (k := i) (q := q) (by rw [hq]; exact ⟨⟨hql.symm, rfl⟩, by simp only [hql]; omega, by simp only [hql]; omega, fun e he => (List.mem_append.1 he).elim (fun h => hpN.out e (List.mem_of_mem_take h)) (fun h => hpN.out e (List.mem_of_mem_drop h))⟩))
    have hL7 : (L.set i q).length = n := by rw [List.length_set]; exact hLl
    refine (fill_any N w.heap.size g0 n cx i (L.set i q) _ hL7 (by omega) (by omega) hz7.out HP7.out Y7.out).mono ?_
    rintro e w8 ⟨hfo, hb8⟩
    obtain ⟨v8, rfl, HPO⟩ := fillPg hfo
    have B8 := B7.out.trans hb8
    clear hfo hb8 y
    go_wp2
    refine bodyPost_ret (v := .tuple #[v8, .bool true]) (by simp [results, Tryz.results72, go_sem]) rfl ⟨HPO.out, B8⟩

theorem pgOut_nil {N lo : Nat} {w : World} {b : Bool} (hlo : lo ≤ w.heap.size) : PgOut N lo (.returned (.tuple #[.slice (some ⟨w.heap.size, 0, none⟩) 0 0, .bool b])) (w.alloc (.cells #[] 30)) :=
  pgOut_end (L := []) rfl (OwnP.nil_ _ _) rfl (own_lit0 w 30 1 lo hlo) ⟨by simp, fun p hp => absurd hp (List.not_mem_nil)⟩
theorem pgOut_ret {N lo : Nat} {r : Ending} {w' : World} (h : PgOut N lo r w') : ∃ (v : Value) (b : Bool), r = .returned (.tuple #[v, .bool b]) ∧ Hid (PgOut N lo (.returned (.tuple #[v, .bool b])) w') := by
  obtain ⟨v, L, b, rfl, h1, h2, h3⟩ := h
  exact ⟨v, b, rfl, Lib.hid ⟨v, L, b, rfl, h1, h2, h3⟩⟩
theorem PgOut.more {N lo lo' : Nat} {r : Ending} {w' : World} (h : PgOut N lo r w') (hl : lo' ≤ lo) : PgOut N lo' r w' := by
  obtain ⟨v, L, b, e, h1, h2, h3⟩ := h
  exact ⟨v, L, b, e, h1.more hl, own_more h2 hl, h3⟩
theorem names_pgL {ps : List (List EntD)} {N : Nat} (h : ∀ l ∈ ps, ∀ x ∈ l, x.s.size ≤ N) : ∀ e ∈ pgL ps, e.s.size ≤ N := fun e he => by
  unfold pgL at he
  split at he
  · obtain ⟨l, hl, hx⟩ := List.mem_flatten.1 he
    exact h l hl e hx
  · cases he

set_option maxRecDepth 100000 in
set_option maxHeartbeats 4000000 in
theorem dpAdd_spec (N : Nat) (v : Value) (ps : List (List EntD)) (sm : szSS ps ≤ 1048576) (hzN : ∀ l ∈ ps, ∀ x ∈ l, x.s.size ≤ N) (s : ByteArray) (hs : s.size ≤ 2000000) (hsN : s.size ≤ N) (id : Int) (w : World) (h : IsSS w v ps) :
    Calls Tryz.prog 45 #[v, .string s, .int .i64 id] w fun r w' => PgOut N w.heap.size r w' ∧ Below w.heap.size w w' := by
  have hf := dp_flat sm
  have hn := dp_len sm
  have hp := dp_pgL sm
  have HA := Lib.hid h
  obtain ⟨A, c, rfl, hr⟩ := h
  have Hp := Lib.hid (fun W (hb : Below w.heap.size w W) => (hr.below hb).more hb.size)
  have HzN := Lib.hid hzN
  rcases hok : dpOkB ps with _ | _
  · have Hok := Lib.hid hok
    clear hr hok hzN
    go_enter Tryz.func45, Tryz.ntmps45
    go_wp2_with fail
    refine (dpOk_spec _ ps sm _ HA.out).mono ?_
    rintro e w1 ⟨rfl, hb1⟩
    rw [Hok.out]
    go_wp2
    exact bodyPost_ret (v := .tuple #[.slice (some ⟨w1.heap.size, 0, none⟩) 0 0, .bool false]) (by simp [results, Tryz.results45, go_sem]) rfl ⟨pgOut_nil hb1.size, belA hb1 _⟩
  have h12 : okPB ps = true ∧ dirOkB (pgL ps) = true := by unfold dpOkB at hok; simpa using hok
  obtain ⟨ho, hd⟩ := h12
  have Ho := Lib.hid ho
  have Hd := Lib.hid hd
  have Hok := Lib.hid hok
  have Hnm := Lib.hid (dp_names sm)
  have hs8 := ok_small ho
  clear hr ho hd hok hzN
  go_enter Tryz.func45, Tryz.ntmps45
  go_wp2_with fail
  refine (dpOk_spec _ ps sm _ HA.out).mono ?_
  rintro e w1 ⟨rfl, hb1⟩
  rw [Hok.out]
  go_wp2_with fail
  refine (pgList_spec A _ c ps hf hn _ (Hp.out _ hb1)).mono ?_
  rintro e w2 ⟨v1, rfl, own1, hb2⟩
  obtain ⟨A1, c1, rfl, _, _, hr1⟩ := own_vals own1
  have B2 := belN hb1 hb2
  have HR1 := Lib.hid hr1
  clear own1 hr1
  go_wp2_with fail
  refine (add_spec A1 _ c1 (pgL ps) Hnm.out (by omega) s hs id _ HR1.out).mono ?_
  rintro e w3 ⟨⟨L, b, v2, n2, hL, hn2, rfl, own2⟩, hb3⟩
  obtain ⟨A2, c2, rfl, _, _, hr2⟩ := own_vals own2
  have B3 := belN B2 hb3
  have HR2 := Lib.hid hr2
  have HL := Lib.hid hL
  clear own2 hr2
  by_cases hc : nameOkB s = true ∧ (pgL ps).find? (isN s) = none ∧ inI id 1 100000 = true ∧ (pgL ps).length ≠ 12
  · have h2 := hL.symm.trans (addP_yes Hd.out hc)
    simp only [Prod.mk.injEq] at h2
    obtain ⟨rfl, rfl⟩ := h2
    have hlen := insL_len (newE (pgL ps) s id) (pgL ps)
    have hlook := look_new (id := id) Hd.out hc
    have HM := Lib.hid (show ∀ e ∈ insL (newE (pgL ps) s id) (pgL ps), e.s.size ≤ 2000000 from fun e he => by
      rcases insL_mem he with rfl | he
      · exact hs
      · exact Hnm.out e he)
    have Hlook := Lib.hid hlook
    have hEs : (newE (pgL ps) s id).s.size ≤ N := hsN
    obtain ⟨E, hE⟩ : ∃ E, newE (pgL ps) s id = E := ⟨_, rfl⟩
    rw [hE] at HM Hlook HL HR2 hn2 hlen hEs
    clear hlook hL hc
    go_wp2_with fail
    refine (look_spec A2 n2 c2 (insL E (pgL ps)) HM.out (by omega) s hs _ HR2.out).mono ?_
    rintro e w4 ⟨⟨E', fb, hE', rfl⟩, hb4⟩
    rw [Hlook.out] at hE'
    simp only [Prod.mk.injEq] at hE'
    obtain ⟨rfl, rfl⟩ := hE'
    have B4 := belN B3 hb4
    go_wp2_with fail
    refine (pgAdd_spec N A _ c ps E.h E.i E.s E.d Ho.out HzN.out hEs _ (Hp.out _ (belA B4 _))).mono ?_
    rintro e w5 ⟨hpo, hb5⟩
    obtain ⟨v5, b5, rfl, HPO⟩ := pgOut_ret hpo
    have B5 := belN (belA B4 (.cells #[.int .i64 E.h, .int .i64 E.i, .string E.s, .int .i64 E.d] 40)) hb5
    clear hpo
    go_wp2
    refine bodyPost_ret (v := .tuple #[v5, .bool b5]) (by simp [results, Tryz.results45, go_sem]) rfl ⟨HPO.out.more (Nat.le_trans B4.size (by simp)), B5⟩
  · have h2 := hL.symm.trans (addP_no Hd.out hc)
    simp only [Prod.mk.injEq] at h2
    obtain ⟨rfl, rfl⟩ := h2
    clear hL hc
    go_wp2_with fail
    refine (l18Copy_any A _ c ps (by omega) (fun l hl => by have := hs8.2.1 l hl; omega) _ (Hp.out _ B3)).mono ?_
    rintro e w4 ⟨v4, L4, rfl, hcon, _, HO, hown, hb4⟩
    have HPO := Lib.hid (HO.more B3.size)
    have Own := Lib.hid (own_more hown B3.size)
    have HSm := Lib.hid (smL_of Ho.out HzN.out hcon)
    have B4 := belN B3 hb4
    clear HO hown
    go_wp2
    refine bodyPost_ret (v := .tuple #[v4, .bool false]) (by simp [results, Tryz.results45, go_sem]) rfl ⟨pgOut_end rfl HPO.out rfl Own.out HSm.out, B4⟩

set_option maxRecDepth 100000 in
set_option maxHeartbeats 4000000 in
theorem dpDrop_spec (N : Nat) (v : Value) (ps : List (List EntD)) (sm : szSS ps ≤ 1048576) (hzN : ∀ l ∈ ps, ∀ x ∈ l, x.s.size ≤ N) (s : ByteArray) (hs : s.size ≤ 2000000) (w : World) (h : IsSS w v ps) :
    Calls Tryz.prog 44 #[v, .string s] w fun r w' => PgOut N w.heap.size r w' ∧ Below w.heap.size w w' := by
  have hf := dp_flat sm
  have hn := dp_len sm
  have hp := dp_pgL sm
  have HA := Lib.hid h
  obtain ⟨A, c, rfl, hr⟩ := h
  have Hp := Lib.hid (fun W (hb : Below w.heap.size w W) => (hr.below hb).more hb.size)
  have HzN := Lib.hid hzN
  rcases hok : dpOkB ps with _ | _
  · have Hok := Lib.hid hok
    clear hr hok hzN
    go_enter Tryz.func44, Tryz.ntmps44
    go_wp2_with fail
    refine (dpOk_spec _ ps sm _ HA.out).mono ?_
    rintro e w1 ⟨rfl, hb1⟩
    rw [Hok.out]
    go_wp2
    exact bodyPost_ret (v := .tuple #[.slice (some ⟨w1.heap.size, 0, none⟩) 0 0, .bool false]) (by simp [results, Tryz.results44, go_sem]) rfl ⟨pgOut_nil hb1.size, belA hb1 _⟩
  have h12 : okPB ps = true ∧ dirOkB (pgL ps) = true := by unfold dpOkB at hok; simpa using hok
  obtain ⟨ho, hd⟩ := h12
  have Ho := Lib.hid ho
  have Hok := Lib.hid hok
  have Hnm := Lib.hid (dp_names sm)
  have hs8 := ok_small ho
  clear hr ho hd hok hzN
  go_enter Tryz.func44, Tryz.ntmps44
  go_wp2_with fail
  refine (dpOk_spec _ ps sm _ HA.out).mono ?_
  rintro e w1 ⟨rfl, hb1⟩
  rw [Hok.out]
  go_wp2_with fail
  refine (pgList_spec A _ c ps hf hn _ (Hp.out _ hb1)).mono ?_
  rintro e w2 ⟨v1, rfl, own1, hb2⟩
  obtain ⟨A1, c1, rfl, _, _, hr1⟩ := own_vals own1
  have B2 := belN hb1 hb2
  have HR1 := Lib.hid hr1
  clear own1 hr1
  go_wp2_with fail
  refine (look_spec A1 _ c1 (pgL ps) Hnm.out (by omega) s hs _ HR1.out).mono ?_
  rintro e w3 ⟨⟨E, fb, hE, rfl⟩, hb3⟩
  have B3 := belN B2 hb3
  clear hE
  rcases fb with _ | _
  · go_wp2_with fail
    refine (l18Copy_any A _ c ps (by omega) (fun l hl => by have := hs8.2.1 l hl; omega) _ (Hp.out _ (belA B3 _))).mono ?_
    rintro e w4 ⟨v4, L4, rfl, hcon, _, HO, hown, hb4⟩
    have B3' := belA B3 (.cells #[.int .i64 E.h, .int .i64 E.i, .string E.s, .int .i64 E.d] 40)
    have HPO := Lib.hid (HO.more B3'.size)
    have Own := Lib.hid (own_more hown B3'.size)
    have HSm := Lib.hid (smL_of Ho.out HzN.out hcon)
    have B4 := belN B3' hb4
    clear HO hown
    go_wp2
    refine bodyPost_ret (v := .tuple #[v4, .bool false]) (by simp [results, Tryz.results44, go_sem]) rfl ⟨pgOut_end rfl HPO.out rfl Own.out HSm.out, B4⟩
  · go_wp2_with fail
    refine (pgDrop_spec N A _ c ps E.h E.i Ho.out HzN.out _ (Hp.out _ (belA B3 _))).mono ?_
    rintro e w5 ⟨hpo, hb5⟩
    obtain ⟨v5, b5, rfl, HPO⟩ := pgOut_ret hpo
    have B5 := belN (belA B3 (.cells #[.int .i64 E.h, .int .i64 E.i, .string E.s, .int .i64 E.d] 40)) hb5
    clear hpo
    go_wp2
    refine bodyPost_ret (v := .tuple #[v5, .bool b5]) (by simp [results, Tryz.results44, go_sem]) rfl ⟨HPO.out.more (Nat.le_trans B3.size (by simp)), B5⟩

end Go.Proofs.YtbchbmcphbeikaaGreatDoor
