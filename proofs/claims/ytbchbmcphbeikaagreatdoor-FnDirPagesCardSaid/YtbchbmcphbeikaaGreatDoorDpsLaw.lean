/- The law FnDirPages, walked: a directory on pages answers as one that is a row. -/
import Derived.Test.YtbchbmcphbeikaaGreatDoorPsH
import Derived.Test.YtbchbmcphbeikaaGreatDoorDpI
import Derived.Test.YtbchbmcphbeikaaGreatDoorOpsS
import Derived.Test.YtbchbmcphbeikaaGreatDoorChg
namespace Go.Proofs.YtbchbmcphbeikaaGreatDoor
open Go Go.RowKit

theorem szSS_small {ps : List (List EntD)} (h8 : ps.length ≤ 8) (h4 : ∀ l ∈ ps, l.length ≤ 4) (hs : ∀ l ∈ ps, ∀ x ∈ l, x.s.size ≤ 1000) : szSS ps ≤ 1048576 := by
  have h1 : ∀ l ∈ ps, szS l ≤ 5 + 5 * 1000 := fun l hl => by
    have := sum_le (fun e : EntD => e.s.size) 1000 l (hs l hl)
    have h5 := h4 l hl
    have h6 : l.length * 1000 ≤ 4 * 1000 := Nat.mul_le_mul_right _ h5
    unfold szS
    omega
  have h2 := sum_le szS (5 + 5 * 1000) _ h1
  have : ps.length * (5 + 5 * 1000) ≤ 8 * (5 + 5 * 1000) := Nat.mul_le_mul_right _ h8
  unfold szSS
  omega
theorem dp_back {w w' : World} {P : List EntD × Bool} {r : Ending} (hd : dirOkB P.1 = true) (h : DpPost w P r w') :
    ∃ v b ps', r = .returned (.tuple #[v, .bool b]) ∧ P = (pgL ps', b) ∧ dpOkB ps' = true ∧ szSS ps' ≤ 1048576 ∧ Hid (IsSS w' v ps') := by
  obtain ⟨A, m, c, ps', b, rfl, hok, rfl, hfr⟩ := h
  have hd' : dirOkB (pgL ps') = true := hd
  obtain ⟨h8, h4, _⟩ := ok_small hok
  have hpg : pgL ps' = ps'.flatten := by unfold pgL; rw [if_pos hok]
  have hss := s_short hd'
  refine ⟨.slice A m c, b, ps', rfl, rfl, by unfold dpOkB; rw [hok, hd']; rfl, szSS_small h8 (fun l hl => (h4 l hl).2) (fun l hl x hx => ?_), ?_⟩
  · have := hss x (by rw [hpg]; exact List.mem_flatten.2 ⟨l, hl, hx⟩); omega
  · have hp := hfr.at_
    have hm : ps'.length = m := hp.len
    subst hm
    exact ⟨A, c, rfl, hp⟩
theorem isSS_at {w : World} {A : Option Addr} {n c : Nat} {ps : List (List EntD)} (h : IsSS w (.slice A n c) ps) : PagesAt w w.heap.size A ps.length ps := by
  obtain ⟨A', c', e, hp⟩ := h
  simp only [Value.slice.injEq] at e
  obtain ⟨rfl, _, _⟩ := e
  exact hp
theorem ent_cells {w : World} {g : Nat} {E : EntD} (h : Blk w g 40 #[.int .i64 E.h, .int .i64 E.i, .string E.s, .int .i64 E.d]) :
    w.cell? ⟨g, 0, none⟩ = some (.int .i64 E.h) ∧ w.cell? ⟨g, 1, none⟩ = some (.int .i64 E.i) ∧ w.cell? ⟨g, 2, none⟩ = some (.string E.s) ∧ w.cell? ⟨g, 3, none⟩ = some (.int .i64 E.d) ∧ g < w.heap.size :=
  ⟨h.get 0 rfl, h.get 1 rfl, h.get 2 rfl, h.get 3 rfl, h.lt⟩
theorem dp_len12 {ps : List (List EntD)} (h : dpOkB ps = true) : (pgL ps).length ≤ 12 := by
  have h12 : okPB ps = true ∧ dirOkB (pgL ps) = true := by unfold dpOkB at h; simpa using h
  exact (dirOkB_iff.1 h12.2).1
/-- What a code has at a place: the same whenever it is asked. -/
theorem at_same (A : Option Addr) (n cp : Nat) (bs : List UInt8) (hn : n ≤ 1048576) (i : Nat) (hi : i ≤ 1000) (w : World) (hr : Reads w w.heap.size 1 A n (B8 bs)) :
    ∃ x : Int, 0 ≤ x ∧ x ≤ 255 ∧ ∀ W, Below w.heap.size w W → Calls Tryz.prog 17 #[.slice A n cp, .int .i64 i] W fun e w' => e = .returned (.int .i64 x) ∧ w' = W := by
  by_cases hlt : i < n
  · have hI : (i : Int) < (n : Int) := by omega
    have q0 : (0 : Int) ≤ (i : Int) := by omega
    obtain ⟨b, ad, rfl, z0⟩ : ∃ (b : UInt8) (ad : Addr), A = some ad ∧ w.cell? (ad.add i) = some (.int .u8 b.toNat) := by
      obtain ⟨ad, hA, _, hc⟩ := hr.2 (by omega)
      have hlen : i < bs.length := by have := hr.1; simp [B8] at this; omega
      exact ⟨bs[i], ad, hA, hc i _ (by simp [B8, hlen])⟩
    have hb := b.toNat_lt
    have wb : IntKind.i64.wrap (b.toNat : Int) = (b.toNat : Int) := by rw [IntKind.wrap_i64]; omega
    refine ⟨(b.toNat : Int), by omega, by omega, fun W hW => ?_⟩
    have z1 := keep1 hW z0
    clear z0 hr
    go_enter Tryz.func17, Tryz.ntmps17
    go_wp2
    go_ret
    exact ⟨rfl, rfl⟩
  · have hI : ¬ ((i : Int) < (n : Int)) := by omega
    have w1 : IntKind.i64.wrap ((i : Int) * 37) = (i : Int) * 37 := by rw [IntKind.wrap_i64]; omega
    have w2 : IntKind.i64.wrap ((n : Int) * 11) = (n : Int) * 11 := by rw [IntKind.wrap_i64]; omega
    have w3 : IntKind.i64.wrap ((i : Int) * 37 + (n : Int) * 11) = (i : Int) * 37 + (n : Int) * 11 := by rw [IntKind.wrap_i64]; omega
    have mt : ((i : Int) * 37 + (n : Int) * 11).tmod 256 = ((i : Int) * 37 + (n : Int) * 11) % 256 := by rw [Int.tmod_eq_emod_of_nonneg (by omega)]
    refine ⟨((i : Int) * 37 + (n : Int) * 11) % 256, by omega, by omega, fun W _ => ?_⟩
    clear hr
    go_enter Tryz.func17, Tryz.ntmps17
    go_wp2
    go_ret
    exact ⟨rfl, rfl⟩

set_option maxRecDepth 100000 in
set_option maxHeartbeats 8000000 in
theorem law_fnDirPages (A : Option Addr) (n cp : Nat) (bs : List UInt8) (w : World) (hT : Tab w) (hr : Reads w w.heap.size 1 A n (B8 bs)) :
    Calls Tryz.prog 3 #[.slice A n cp] w fun e w' => e = .returned (.bool true) ∧ Below w.heap.size w w' := by
  have HT := Lib.hid hT
  have Hr := Lib.hid hr
  by_cases hbig : 1048576 < n
  · have Hd := Lib.hid (show decide (1048576 < n) = true by simpa using hbig)
    clear hT hr
    go_enter Tryz.func3, Tryz.ntmps3
    go_wp2_with fail
    refine (big_any A n cp w).mono ?_
    rintro e w1 ⟨rfl, hb1⟩
    rw [Hd.out]
    go_wp2
    go_ret
    exact ⟨rfl, hb1⟩
  have Hd := Lib.hid (show decide (1048576 < n) = false by simpa using hbig)
  obtain ⟨xa, xa0, xa1, hat⟩ := at_same A n cp bs (by omega) 3 (by omega) w hr
  have Hat := Lib.hid hat
  obtain ⟨ra, hra⟩ : ∃ ra, xa.tmod 18 = ra := ⟨_, rfl⟩
  have hra0 : 0 ≤ ra ∧ ra ≤ 17 := by rw [← hra, Int.tmod_eq_emod_of_nonneg xa0]; omega
  have wra : IntKind.i64.wrap (ra - 1) = ra - 1 := by rw [IntKind.wrap_i64]; omega
  clear hT hr hat
  go_enter Tryz.func3, Tryz.ntmps3
  go_wp2_with fail
  refine (big_any A n cp w).mono ?_
  rintro e w1 ⟨rfl, hb1⟩
  rw [Hd.out]
  -- pages, a name, a number
  go_wp2_with fail
  refine (drawDpAdd_any A n cp bs (by omega) w1 ((Hr.out.below hb1).more hb1.size)).mono ?_
  rintro e w2 ⟨v, s, id, ps, rfl, hs, his, hsz, hb2⟩
  have B2 := belN hb1 hb2
  have Is2 := Lib.hid his
  clear his hb1 hb2
  rcases hok : dpOkB ps with _ | _
  · have Hok := Lib.hid hok
    go_wp2_with fail
    refine (dpAdd_no v ps hsz s id hok w2 (HT.out.bl B2) Is2.out).mono ?_
    rintro e w3 ⟨rfl, hb3⟩
    have B3 := belN B2 hb3
    go_wp2_with fail
    refine (dpOk_spec v ps hsz w3 (Is2.out.next hb3)).mono ?_
    rintro e w4 ⟨rfl, hb4⟩
    rw [Hok.out]
    go_wp2
    go_ret
    exact ⟨rfl, belN B3 hb4⟩
  have Hok := Lib.hid hok
  have h12 : okPB ps = true ∧ dirOkB (pgL ps) = true := by unfold dpOkB at hok; simpa using hok
  obtain ⟨ho, hd⟩ := h12
  have hP := Lib.hid (addP_ok hd s id)
  clear ho hd
  have hnm := Lib.hid (dp_names hsz)
  have hf := dp_flat hsz
  have hn' := dp_len hsz
  have hpl := dp_pgL hsz
  go_wp2_with fail
  refine (dpAdd_yes v ps hsz s (by omega) id hok w2 (HT.out.bl B2) Is2.out).mono ?_
  rintro e w3 ⟨hdp, hb3⟩
  obtain ⟨vx, b, ps', rfl, hPe, hok', hsz', Isx3⟩ := dp_back hP.out hdp
  have HPe := Lib.hid hPe
  have B3 := belN B2 hb3
  have Is3 := Lib.hid (Is2.out.next hb3)
  clear hdp hP hPe hok Is2 hb3
  go_wp2_with fail
  refine (dpOk_spec v ps hsz w3 Is3.out).mono ?_
  rintro e w4 ⟨rfl, hb4⟩
  rw [Hok.out]
  have B4 := belN B3 hb4
  have Is4 := Is3.out.next hb4
  have Isx4 := Lib.hid (Isx3.out.next hb4)
  clear Is3 Isx3 hb4
  obtain ⟨Ap, cp', rfl, hp4⟩ := Is4
  go_wp2_with fail
  refine (pgList_spec Ap _ cp' ps hf hn' w4 hp4).mono ?_
  rintro e w5 ⟨v5, rfl, own5, hb5⟩
  obtain ⟨A5, c5, rfl, _, _, hr5⟩ := own_vals own5
  have B5 := belN B4 hb5
  have Isx5 := Lib.hid (Isx4.out.next hb5)
  clear own5 hp4 Isx4 hb5
  go_wp2_with fail
  refine (add_spec A5 _ c5 (pgL ps) hnm.out (by omega) s (by omega) id w5 hr5).mono ?_
  rintro e w6 ⟨⟨L6, b6, v6, n6, hL6, hn6, rfl, own6⟩, hb6⟩
  have h66 := HPe.out.symm.trans hL6
  simp only [Prod.mk.injEq] at h66
  obtain ⟨rfl, rfl⟩ := h66
  subst hn6
  obtain ⟨A6, c6, rfl, _, _, hr6⟩ := own_vals own6
  have B6 := belN B5 hb6
  have Isx6 := Isx5.out.next hb6
  have IsL6 := Lib.hid (show IsS w6 (.slice A6 (pgL ps').length c6) (pgL ps') from ⟨A6, c6, rfl, hr6⟩)
  have Isx6h := Lib.hid Isx6
  have hf' := dp_flat hsz'
  have hn'' := dp_len hsz'
  have hpl' := dp_pgL hsz'
  obtain ⟨Ax, cx, rfl, hp6⟩ := Isx6
  clear own6 hr6 hr5 HPe hL6 hb6 Isx5 hnm hf hn' hpl
  have bxx : (b != b) = false := by cases b <;> rfl
  have bee : (b == b) = true := by cases b <;> rfl
  go_wp2_with fail
  refine (pgList_spec Ax _ cx ps' hf' hn'' w6 hp6).mono ?_
  rintro e w7 ⟨v7, rfl, own7, hb7⟩
  obtain ⟨A7, c7, rfl, _, _, hr7⟩ := own_vals own7
  have B7 := belN B6 hb7
  have Isx7 := Lib.hid (Isx6h.out.next hb7)
  have IsL7 := Lib.hid (IsL6.out.next hb7)
  have IsM7 := Lib.hid (show IsS w7 (.slice A7 (pgL ps').length c7) (pgL ps') from ⟨A7, c7, rfl, hr7⟩)
  clear own7 hr7 hb7 Isx6h IsL6 hp6
  obtain ⟨Lp, hLp⟩ : ∃ L, pgL ps' = L := ⟨_, rfl⟩
  have hlen12 : Lp.length ≤ 1000000 := by rw [← hLp]; have h := dp_len12 hok'; exact Nat.le_trans h (by omega)
  rw [hLp] at IsL7 IsM7 ⊢
  clear hLp
  go_wp2_with fail
  refine (sameDir_self _ _ Lp hlen12 w7 IsM7.out IsL7.out).mono ?_
  rintro e w8 ⟨rfl, hb8⟩
  have B8 := belN B7 hb8
  have Isx8 := Lib.hid (Isx7.out.next hb8)
  clear IsM7 IsL7 Isx7 hb8
  go_wp2_with fail
  refine (dpOk_spec _ ps' hsz' w8 Isx8.out).mono ?_
  rintro e w9 ⟨rfl, hb9⟩
  rw [hok']
  have B9 := belN B8 hb9
  clear hok' Isx8 hb9 hsz' hf' hn'' hpl' hsz
  -- the other pages, the other name
  go_wp2_with fail
  refine (drawDpDrop_any A n cp bs (by omega) w9 ((Hr.out.below B9).more B9.size)).mono ?_
  rintro e w10 ⟨q, s2, qs, rfl, hs2, his, hsz, hb10⟩
  have B10 := belN B9 hb10
  have Is10 := Lib.hid his
  clear his hb10 B9
  rcases hok : dpOkB qs with _ | _
  · have Hok := Lib.hid hok
    go_wp2_with fail
    refine (dpDrop_no q qs hsz s2 hok w10 (HT.out.bl B10) Is10.out).mono ?_
    rintro e w11 ⟨rfl, hb11⟩
    have B11 := belN B10 hb11
    go_wp2_with fail
    refine (dpOk_spec q qs hsz w11 (Is10.out.next hb11)).mono ?_
    rintro e w12 ⟨rfl, hb12⟩
    rw [Hok.out]
    go_wp2
    go_ret
    exact ⟨rfl, belN B11 hb12⟩
  have Hok := Lib.hid hok
  have h12 : okPB qs = true ∧ dirOkB (pgL qs) = true := by unfold dpOkB at hok; simpa using hok
  obtain ⟨ho, hd⟩ := h12
  have hP := Lib.hid (dropP_ok hd s2)
  clear ho hd
  have hnm := Lib.hid (dp_names hsz)
  have hf := dp_flat hsz
  have hn' := dp_len hsz
  have hpl := dp_pgL hsz
  go_wp2_with fail
  refine (dpDrop_yes q qs hsz s2 (by omega) hok w10 (HT.out.bl B10) Is10.out).mono ?_
  rintro e w11 ⟨hdp, hb11⟩
  obtain ⟨vy, d, qs', rfl, hPe, hok', hsz', Isy11⟩ := dp_back hP.out hdp
  have HPe := Lib.hid hPe
  have B11 := belN B10 hb11
  have Is11 := Lib.hid (Is10.out.next hb11)
  clear hdp hP hPe hok Is10 hb11
  go_wp2_with fail
  refine (dpOk_spec q qs hsz w11 Is11.out).mono ?_
  rintro e w12 ⟨rfl, hb12⟩
  rw [Hok.out]
  have B12 := belN B11 hb12
  have Is12 := Is11.out.next hb12
  have Isq12 := Lib.hid Is12
  have Isy12 := Lib.hid (Isy11.out.next hb12)
  clear Is11 Isy11 hb12
  obtain ⟨Ap2, cp2, rfl, hp12⟩ := Is12
  go_wp2_with fail
  refine (pgList_spec Ap2 _ cp2 qs hf hn' w12 hp12).mono ?_
  rintro e w13 ⟨v13, rfl, own13, hb13⟩
  obtain ⟨A13, c13, rfl, _, _, hr13⟩ := own_vals own13
  have B13 := belN B12 hb13
  have Isq13 := Lib.hid (Isq12.out.next hb13)
  have Isy13 := Lib.hid (Isy12.out.next hb13)
  clear own13 hp12 Isq12 Isy12 hb13
  go_wp2_with fail
  refine (drop_spec A13 _ c13 (pgL qs) hnm.out (by omega) s2 (by omega) w13 hr13).mono ?_
  rintro e w14 ⟨⟨L14, b14, v14, n14, hL14, hn14, rfl, own14⟩, hb14⟩
  have h14 := HPe.out.symm.trans hL14
  simp only [Prod.mk.injEq] at h14
  obtain ⟨rfl, rfl⟩ := h14
  subst hn14
  obtain ⟨A14, c14, rfl, _, _, hr14⟩ := own_vals own14
  have B14 := belN B13 hb14
  have Isq14 := Lib.hid (Isq13.out.next hb14)
  have Isy14 := Lib.hid (Isy13.out.next hb14)
  have IsD14 := Lib.hid (show IsS w14 (.slice A14 (pgL qs').length c14) (pgL qs') from ⟨A14, c14, rfl, hr14⟩)
  clear own14 hr14 hr13 HPe hL14 hb14 Isq13 Isy13
  obtain ⟨⟨E, fb⟩, hE⟩ : ∃ p, lookP (pgL qs) s2 = p := ⟨_, rfl⟩
  have HE := Lib.hid hE
  obtain ⟨⟨N, gb⟩, hN⟩ : ∃ p, nxtP (pgL qs) (ra - 1) 0 = p := ⟨_, rfl⟩
  have HN := Lib.hid hN
  clear hE hN
  go_wp2_with fail
  refine (dpLook_impl _ qs hsz s2 (by omega) w14 (HT.out.bl B14) Isq14.out).mono ?_
  rintro e w15 ⟨⟨E', fb', hE', rfl⟩, hb15⟩
  have h15 := HE.out.symm.trans hE'
  simp only [Prod.mk.injEq] at h15
  obtain ⟨rfl, rfl⟩ := h15
  have O15 : Blk (w15.alloc (.cells #[.int .i64 E.h, .int .i64 E.i, .string E.s, .int .i64 E.d] 40)) w15.heap.size 40 #[.int .i64 E.h, .int .i64 E.i, .string E.s, .int .i64 E.d] := Blk.new' _ _ _ _ rfl
  have B15 := belA (belN B14 hb15) (.cells #[.int .i64 E.h, .int .i64 E.i, .string E.s, .int .i64 E.d] 40)
  have Isq15 := Lib.hid ((Isq14.out.next hb15).next (belA (bel0 _) (.cells #[.int .i64 E.h, .int .i64 E.i, .string E.s, .int .i64 E.d] 40)))
  have Isy15 := Lib.hid ((Isy14.out.next hb15).next (belA (bel0 _) (.cells #[.int .i64 E.h, .int .i64 E.i, .string E.s, .int .i64 E.d] 40)))
  have IsD15 := Lib.hid ((IsD14.out.next hb15).next (belA (bel0 _) (.cells #[.int .i64 E.h, .int .i64 E.i, .string E.s, .int .i64 E.d] 40)))
  have hp15 : PagesAt (w15.alloc (.cells #[.int .i64 E.h, .int .i64 E.i, .string E.s, .int .i64 E.d] 40)) (w15.alloc (.cells #[.int .i64 E.h, .int .i64 E.i, .string E.s, .int .i64 E.d] 40)).heap.size Ap2 qs.length qs := isSS_at Isq15.out
  clear hE' Isq14 Isy14 IsD14 hb15
  go_wp2_with fail
  refine (pgList_spec Ap2 _ cp2 qs hf hn' _ hp15).mono ?_
  rintro e w16 ⟨v16, rfl, own16, hb16⟩
  obtain ⟨A16, c16, rfl, _, _, hr16⟩ := own_vals own16
  have B16 := belN B15 hb16
  have O16 := O15.below hb16 O15.lt
  have Isq16 := Lib.hid (Isq15.out.next hb16)
  have Isy16 := Lib.hid (Isy15.out.next hb16)
  have IsD16 := Lib.hid (IsD15.out.next hb16)
  clear own16 hp15 Isq15 Isy15 IsD15 hb16 O15
  go_wp2_with fail
  refine (look_spec A16 _ c16 (pgL qs) hnm.out (by omega) s2 (by omega) w16 hr16).mono ?_
  rintro e w17 ⟨⟨E', fb', hE', rfl⟩, hb17⟩
  have h17 := HE.out.symm.trans hE'
  simp only [Prod.mk.injEq] at h17
  obtain ⟨rfl, rfl⟩ := h17
  have O17 := (O16.below hb17 O16.lt).alloc (.cells #[.int .i64 E.h, .int .i64 E.i, .string E.s, .int .i64 E.d] 40)
  have P17 : Blk (w17.alloc (.cells #[.int .i64 E.h, .int .i64 E.i, .string E.s, .int .i64 E.d] 40)) w17.heap.size 40 #[.int .i64 E.h, .int .i64 E.i, .string E.s, .int .i64 E.d] := Blk.new' _ _ _ _ rfl
  have B17 := belA (belN B16 hb17) (.cells #[.int .i64 E.h, .int .i64 E.i, .string E.s, .int .i64 E.d] 40)
  have Isq17 := Lib.hid ((Isq16.out.next hb17).next (belA (bel0 _) (.cells #[.int .i64 E.h, .int .i64 E.i, .string E.s, .int .i64 E.d] 40)))
  have Isy17 := Lib.hid ((Isy16.out.next hb17).next (belA (bel0 _) (.cells #[.int .i64 E.h, .int .i64 E.i, .string E.s, .int .i64 E.d] 40)))
  have IsD17 := Lib.hid ((IsD16.out.next hb17).next (belA (bel0 _) (.cells #[.int .i64 E.h, .int .i64 E.i, .string E.s, .int .i64 E.d] 40)))
  clear hE' Isq16 Isy16 IsD16 hb17 O16 hr16 HE
  go_wp2_with fail
  refine (Hat.out _ B17).mono ?_
  rintro e w17' ⟨rfl, rfl⟩
  go_wp2_with fail
  refine (dpNext_impl _ qs hsz (ra - 1) 0 _ (HT.out.bl B17) Isq17.out).mono ?_
  rintro e w18 ⟨⟨E', fb', hE', rfl⟩, hb18⟩
  have h18 := HN.out.symm.trans hE'
  simp only [Prod.mk.injEq] at h18
  obtain ⟨rfl, rfl⟩ := h18
  have O18 := (O17.below hb18 O17.lt).alloc (.cells #[.int .i64 N.h, .int .i64 N.i, .string N.s, .int .i64 N.d] 40)
  have P18 := (P17.below hb18 P17.lt).alloc (.cells #[.int .i64 N.h, .int .i64 N.i, .string N.s, .int .i64 N.d] 40)
  have Q18 : Blk (w18.alloc (.cells #[.int .i64 N.h, .int .i64 N.i, .string N.s, .int .i64 N.d] 40)) w18.heap.size 40 #[.int .i64 N.h, .int .i64 N.i, .string N.s, .int .i64 N.d] := Blk.new' _ _ _ _ rfl
  have B18 := belA (belN B17 hb18) (.cells #[.int .i64 N.h, .int .i64 N.i, .string N.s, .int .i64 N.d] 40)
  have Isq18 := Lib.hid ((Isq17.out.next hb18).next (belA (bel0 _) (.cells #[.int .i64 N.h, .int .i64 N.i, .string N.s, .int .i64 N.d] 40)))
  have Isy18 := Lib.hid ((Isy17.out.next hb18).next (belA (bel0 _) (.cells #[.int .i64 N.h, .int .i64 N.i, .string N.s, .int .i64 N.d] 40)))
  have IsD18 := Lib.hid ((IsD17.out.next hb18).next (belA (bel0 _) (.cells #[.int .i64 N.h, .int .i64 N.i, .string N.s, .int .i64 N.d] 40)))
  have hp18 : PagesAt (w18.alloc (.cells #[.int .i64 N.h, .int .i64 N.i, .string N.s, .int .i64 N.d] 40)) (w18.alloc (.cells #[.int .i64 N.h, .int .i64 N.i, .string N.s, .int .i64 N.d] 40)).heap.size Ap2 qs.length qs := isSS_at Isq18.out
  clear hE' Isq17 Isy17 IsD17 hb18 O17 P17 Isq18
  go_wp2_with fail
  refine (pgList_spec Ap2 _ cp2 qs hf hn' _ hp18).mono ?_
  rintro e w19 ⟨v19, rfl, own19, hb19⟩
  obtain ⟨A19, c19, rfl, _, _, hr19⟩ := own_vals own19
  have B19 := belN B18 hb19
  have O19 := O18.below hb19 O18.lt
  have P19 := P18.below hb19 P18.lt
  have Q19 := Q18.below hb19 Q18.lt
  have Isy19 := Lib.hid (Isy18.out.next hb19)
  have IsD19 := Lib.hid (IsD18.out.next hb19)
  clear own19 hp18 Isy18 IsD18 hb19 O18 P18 Q18
  go_wp2_with fail
  refine (Hat.out _ B19).mono ?_
  rintro e w19' ⟨rfl, rfl⟩
  go_wp2_with fail
  refine (next_spec A19 _ c19 (pgL qs) (ra - 1) 0 hnm.out _ (by omega) hr19).mono ?_
  rintro e w20 ⟨⟨E', fb', hE', rfl⟩, hb20⟩
  have h20 := HN.out.symm.trans hE'
  simp only [Prod.mk.injEq] at h20
  obtain ⟨rfl, rfl⟩ := h20
  have O20 := (O19.below hb20 O19.lt).alloc (.cells #[.int .i64 N.h, .int .i64 N.i, .string N.s, .int .i64 N.d] 40)
  have P20 := (P19.below hb20 P19.lt).alloc (.cells #[.int .i64 N.h, .int .i64 N.i, .string N.s, .int .i64 N.d] 40)
  have Q20 := (Q19.below hb20 Q19.lt).alloc (.cells #[.int .i64 N.h, .int .i64 N.i, .string N.s, .int .i64 N.d] 40)
  have R20 : Blk (w20.alloc (.cells #[.int .i64 N.h, .int .i64 N.i, .string N.s, .int .i64 N.d] 40)) w20.heap.size 40 #[.int .i64 N.h, .int .i64 N.i, .string N.s, .int .i64 N.d] := Blk.new' _ _ _ _ rfl
  have B20 := belA (belN B19 hb20) (.cells #[.int .i64 N.h, .int .i64 N.i, .string N.s, .int .i64 N.d] 40)
  have Isy20 := (Isy19.out.next hb20).next (belA (bel0 _) (.cells #[.int .i64 N.h, .int .i64 N.i, .string N.s, .int .i64 N.d] 40))
  have Isy20h := Lib.hid Isy20
  have IsD20 := Lib.hid ((IsD19.out.next hb20).next (belA (bel0 _) (.cells #[.int .i64 N.h, .int .i64 N.i, .string N.s, .int .i64 N.d] 40)))
  have hf' := dp_flat hsz'
  have hn'' := dp_len hsz'
  obtain ⟨Ay, cy, rfl, hp20⟩ := Isy20
  clear hE' Isy19 IsD19 hb20 O19 P19 Q19 hr19 HN hnm hf hn' hpl
  have dxx : (d == d) = true := by cases d <;> rfl
  go_wp2_with fail
  refine (pgList_spec Ay _ cy qs' hf' hn'' _ hp20).mono ?_
  rintro e w21 ⟨v21, rfl, own21, hb21⟩
  obtain ⟨A21, c21, rfl, _, _, hr21⟩ := own_vals own21
  have B21 := belN B20 hb21
  have O21 := O20.below hb21 O20.lt
  have P21 := P20.below hb21 P20.lt
  have Q21 := Q20.below hb21 Q20.lt
  have R21 := R20.below hb21 R20.lt
  have Isy21 := Lib.hid (Isy20h.out.next hb21)
  have IsD21 := Lib.hid (IsD20.out.next hb21)
  have IsM21 := Lib.hid (show IsS w21 (.slice A21 (pgL qs').length c21) (pgL qs') from ⟨A21, c21, rfl, hr21⟩)
  clear own21 hr21 hb21 Isy20h IsD20 hp20 O20 P20 Q20 R20
  obtain ⟨Lq, hLq⟩ : ∃ L, pgL qs' = L := ⟨_, rfl⟩
  have hlenq : Lq.length ≤ 1000000 := by rw [← hLq]; have h := dp_len12 hok'; exact Nat.le_trans h (by omega)
  rw [hLq] at IsD21 IsM21 ⊢
  clear hLq
  go_wp2_with fail
  refine (sameDir_self _ _ Lq hlenq w21 IsM21.out IsD21.out).mono ?_
  rintro e w22 ⟨rfl, hb22⟩
  have B22 := belN B21 hb22
  have O22 := O21.below hb22 O21.lt
  have P22 := P21.below hb22 P21.lt
  have Q22 := Q21.below hb22 Q21.lt
  have R22 := R21.below hb22 R21.lt
  have Isy22 := Lib.hid (Isy21.out.next hb22)
  clear IsM21 IsD21 Isy21 hb22 O21 P21 Q21 R21
  go_wp2_with fail
  refine (dpOk_spec _ qs' hsz' w22 Isy22.out).mono ?_
  rintro e w23 ⟨rfl, hb23⟩
  rw [hok']
  have B23 := belN B22 hb23
  have O23 := O22.below hb23 O22.lt
  have P23 := P22.below hb23 P22.lt
  have Q23 := Q22.below hb23 Q22.lt
  have R23 := R22.below hb23 R22.lt
  clear hok' Isy22 hb23 hsz' hf' hn'' hsz O22 P22 Q22 R22
  obtain ⟨e0, e1, e2, e3, le⟩ := ent_cells O23
  obtain ⟨f0, f1, f2, f3, lf⟩ := ent_cells P23
  obtain ⟨n0, n1, n2, n3, ln⟩ := ent_cells Q23
  obtain ⟨m0, m1, m2, m3, lm⟩ := ent_cells R23
  have fxx : (fb == fb) = true := by cases fb <;> rfl
  have gxx : (gb == gb) = true := by cases gb <;> rfl
  clear O23 P23 Q23 R23
  go_wp2
  go_ret
  exact ⟨rfl, B23⟩

end Go.Proofs.YtbchbmcphbeikaaGreatDoor
